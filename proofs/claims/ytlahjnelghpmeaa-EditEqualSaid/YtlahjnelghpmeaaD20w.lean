/- Steps side by side: what the functions of chapter 24 compute. -/
import Derived.Test.YtlahjnelghpmeaaB20c
import Derived.Test.YtlahjnelghpmeaaAmZ
import Derived.Test.YtlahjnelghpmeaaD20
set_option linter.unusedSimpArgs false
set_option linter.unusedVariables false
namespace Go.AM

/-- The same, as they stand. -/
noncomputable def eqX {α : Type} (a b : α) : Bool := @decide (a = b) (Classical.propDecidable _)
theorem eqX_iff {α : Type} {a b : α} : eqX a b = true ↔ a = b := by unfold eqX; exact @decide_eq_true_iff _ (Classical.propDecidable _)
@[simp] theorem eqX_self {α : Type} (a : α) : eqX a a = true := eqX_iff.2 rfl

/-! ## by definition: kid by kid -/
def unitsOp (i alone : Int) (o : Op) : List AUnit :=
  (if o.kind = 0 then List.replicate o.n.toNat ⟨i, 0, Tree.nil, Edit.nil, false⟩ else [])
    ++ (o.l.map (fun t => ⟨i, o.kind, t, Edit.nil, decide (o.kind = alone)⟩)
    ++ (if o.kind = 3 then [⟨i, 3, Tree.nil, o.e, false⟩] else []))
def opU (u : AUnit) : Op := if u.kind = 0 then ⟨0, 1, [], Edit.nil⟩ else if u.kind = 3 then ⟨3, 0, [], u.e⟩ else ⟨u.kind, 0, [u.t], Edit.nil⟩

end Go.AM

namespace Go.AM.Ytlahjnelghpmeaa
open Go.AM Go.Proofs

/-! cento/align.size -/
/-! (*cento/align.cursor).done -/
/-! (*cento/align.cursor).single -/
/-! (*cento/align.cursor).take -/
/-! cento/align.pair -/
/-! cento/align.Through -/
/-! cento/align.Behind -/
/-! cento/centoref24.Units -/
/-! cento/centoref24.Pairs -/
/-! cento/centolaw24.kids -/
/-! cento/centolaw24.units -/
/-! cento/centoref24.Op -/
/-! cento/centoref22.sameTrees -/
/-! cento/centoref22.Same -/
/-! cento/centolaw24.same -/
/-! cento/centolaw24.alike -/
/-! cento/centolaw24.steps -/
/-! cento/centolaw24.awake -/
/-! cento/centolaw24.AlignThrough -/
/-! cento/centolaw24.AlignWhole -/
/-! cento/centolaw24.AlignBehind -/
end Go.AM.Ytlahjnelghpmeaa

namespace Go.AM.Ytlahjnelghpmeaa
open Go.AM Go.Proofs


theorem opLen_eq (o : Op) : opLen o = if o.kind = 3 then 1 else o.n + o.l.length := rfl

/-! ## pair -/
end Go.AM.Ytlahjnelghpmeaa

namespace Go.AM.Ytlahjnelghpmeaa
open Go.AM Go.Proofs

theorem eqX_no {α : Type} {a b : α} (h : ¬ a = b) : eqX a b = false := by rw [← Bool.not_eq_true, eqX_iff]; exact h

/-! ## the same, as they stand -/
theorem list_eq_getD {α : Type} (d : α) {a b : List α} (hl : a.length = b.length) (h : ∀ i : Nat, i < a.length → a.getD i d = b.getD i d) : a = b := by
  apply List.ext_getElem hl
  intro i h1 h2
  have := h i h1
  simpa [List.getD_eq_getElem?_getD, List.getElem?_eq_getElem h1, List.getElem?_eq_getElem h2] using this

theorem wedit_ext {a b : WEdit} (h1 : a.at_ = b.at_) (h2 : a.mask = b.mask) (h3 : a.old = b.old) (h4 : a.new = b.new) : a = b := by cases a; cases b; simp_all

end Go.AM.Ytlahjnelghpmeaa

namespace Go.AM.Ytlahjnelghpmeaa
open Go.AM Go.Proofs

end Go.AM.Ytlahjnelghpmeaa

namespace Go.AM.Ytlahjnelghpmeaa
open Go.AM Go.Proofs

def vu (u : AUnit) : Op × Bool := (opU u, u.alone)
def vs (a : Int) (o : Op) : List (Op × Bool) := (unitsOp 0 a o).map vu
/-! ## pairs, by blocks -/
/-! ## the law -/
end Go.AM.Ytlahjnelghpmeaa

namespace Go.AM.Ytlahjnelghpmeaa
open Go.AM Go.Proofs

end Go.AM.Ytlahjnelghpmeaa

namespace Go.AM

def idleE (list : Int) (e : Edit) : Bool := decide (e.kind = 0 ∨ (list = 9 ∧ e.kind = 2 ∧ e.words.length = 0 ∧ e.kids.length = 0))
def normsT (l : List Tree) : List Tree := l.map normT

/-! ## how many edits and steps -/

/-! ## turned round -/
def turnW (w : WEdit) : WEdit := ⟨w.at_, w.mask, w.new, w.old⟩
mutual
def turnE : Edit → Edit
  | .mk k o n w ks l os => .mk k n o (w.map turnW) (turnKs ks) l (turnOs os)
def turnKs : List (KidOf Edit) → List (KidOf Edit)
  | [] => []
  | k :: r => turnKid k :: turnKs r
def turnKid : KidOf Edit → KidOf Edit
  | ⟨a, e⟩ => ⟨a, turnE e⟩
def turnOs : List (OpOf Edit) → List (OpOf Edit)
  | [] => []
  | o :: r => turnOp o :: turnOs r
def turnOp : OpOf Edit → OpOf Edit
  | ⟨k, n, l, e⟩ => if k = 1 then ⟨2, n, l, e⟩ else if k = 2 then ⟨1, n, l, e⟩ else if k = 3 then ⟨k, n, l, turnE e⟩ else ⟨k, n, l, e⟩
end

/-! ## what edits mean: their trees' Norms -/
mutual
def nE : Edit → Edit
  | .mk k o n w ks l os => .mk k (normT o) (normT n) w (nKs ks) l (nOs os)
def nKs : List (KidOf Edit) → List (KidOf Edit)
  | [] => []
  | k :: r => nKid k :: nKs r
def nKid : KidOf Edit → KidOf Edit
  | ⟨a, e⟩ => ⟨a, nE e⟩
def nOs : List (OpOf Edit) → List (OpOf Edit)
  | [] => []
  | o :: r => nOp o :: nOs r
def nOp : OpOf Edit → OpOf Edit
  | ⟨k, n, l, e⟩ => ⟨k, n, normsT l, nE e⟩
end


end Go.AM

namespace Go.AM

/-- What is written, and what waits: deleted, and inserted, trees. -/
structure Wst where
  out : List Op
  gone : List Tree
  brought : List Tree

def flushO (out : List Op) (g b : List Tree) : List Op :=
  out ++ ((if g.length = 0 then [] else [⟨1, 0, g, Edit.nil⟩]) ++ (if b.length = 0 then [] else [⟨2, 0, b, Edit.nil⟩]))
/-- So many kids are kept: with those that are kept ahead of them, if nothing is between. -/
def keepO : List Op → Int → List Op
  | [], n => [⟨0, n, [], Edit.nil⟩]
  | [o], n => if o.kind = 0 then [⟨o.kind, o.n + n, o.l, o.e⟩] else [o, ⟨0, n, [], Edit.nil⟩]
  | o :: p :: r, n => o :: keepO (p :: r) n
def flushW (w : Wst) : Wst := ⟨flushO w.out w.gone w.brought, [], []⟩
def keepW (w : Wst) (n : Int) : Wst := ⟨keepO (flushW w).out n, [], []⟩

mutual
def nrmE : Edit → Edit
  | .mk k o n w ks l os =>
    if k = 1 then .mk k (normT o) (normT n) [] [] l []
    else if k = 2 then .mk k Tree.nil Tree.nil w (nrmKs ks) l []
    else if k = 3 then .mk k Tree.nil Tree.nil [] [] l (flushW (nrmOs l os ⟨[], [], []⟩)).out
    else .mk k Tree.nil Tree.nil [] [] l []
def nrmKs : List (KidOf Edit) → List (KidOf Edit)
  | [] => []
  | k :: r => nrmKid k :: nrmKs r
def nrmKid : KidOf Edit → KidOf Edit
  | ⟨a, e⟩ => ⟨a, nrmE e⟩
def nrmOs (list : Int) : List (OpOf Edit) → Wst → Wst
  | [], s => s
  | o :: r, s => nrmOs list r (nrmOp list o s)
def nrmOp (list : Int) : OpOf Edit → Wst → Wst
  | ⟨k, n, l, e⟩, s =>
    if k = 0 then keepW s n
    else if k = 1 then ⟨s.out, s.gone ++ normsT l, s.brought⟩
    else if k = 2 then ⟨s.out, s.gone, s.brought ++ normsT l⟩
    else if k = 3 then (if idleE list (nrmE e) = true then keepW s 1 else ⟨(flushW s).out ++ [⟨3, 0, [], nrmE e⟩], [], []⟩)
    else s
end

theorem nrmOp_at (list : Int) (o : Op) (s : Wst) : nrmOp list o s = if o.kind = 0 then keepW s o.n
    else if o.kind = 1 then ⟨s.out, s.gone ++ normsT o.l, s.brought⟩
    else if o.kind = 2 then ⟨s.out, s.gone, s.brought ++ normsT o.l⟩
    else if o.kind = 3 then (if idleE list (nrmE o.e) = true then keepW s 1 else ⟨(flushW s).out ++ [⟨3, 0, [], nrmE o.e⟩], [], []⟩)
    else s := by cases o; rfl

end Go.AM

namespace Go.AM

def badAt (list : Int) : List Tree → Int → Int
  | [], _ => -1
  | t :: r, i => if rightT (Tree.mk list [] [t]) 64 = true then badAt list r (i + 1) else i

theorem badAt_iff (list : Int) : ∀ (l : List Tree) (i : Int), 0 ≤ i → (0 ≤ badAt list l i ↔ treesOk list l = false)
  | [], i, _ => by simp [badAt, treesOk]
  | t :: r, i, hi => by
    have ih := badAt_iff list r (i + 1) (by omega)
    rw [badAt, treesOk]
    by_cases h : rightT (Tree.mk list [] [t]) 64 = true
    · rw [if_pos h, h, Bool.true_and]; exact ih
    · rw [if_neg h]
      simp only [Bool.not_eq_true] at h
      rw [h, Bool.false_and]
      exact ⟨fun _ => rfl, fun _ => hi⟩

end Go.AM

namespace Go.AM.Ytlahjnelghpmeaa
open Go.AM Go.Proofs

/-! cento/normal.Idle -/
/-! cento/centoref22.idle -/
/-! cento/centoref22.norms -/
/-! cento/centoref22.gap -/
/-! cento/edit.Count -/
/-! cento/invert.turned -/
/-! cento/invert.op -/
end Go.AM.Ytlahjnelghpmeaa

namespace Go.AM.Ytlahjnelghpmeaa
open Go.AM Go.Proofs

/-! ## counts -/

/-! ## turned round -/
end Go.AM.Ytlahjnelghpmeaa

namespace Go.AM.Ytlahjnelghpmeaa
open Go.AM Go.Proofs

def args97 : ArgL (List Tree × List Tree × Unit) := (.cons (aSl .tree) (.cons (aSl .tree) .nil))
def pre97 (a : List Tree × List Tree × Unit) : Prop := massK a.1 ≤ 1000000 ∧ massK a.2.1 ≤ 1000000
noncomputable def res97 (a : List Tree × List Tree × Unit) : V U := .c (.bool (eqX (normsT a.1) (normsT a.2.1)))
noncomputable def spec97 : Fs U := fs args97 (fun a => [pre97 a]) res97

def args62 : ArgL (Edit × Edit × Unit) := (.cons (aEl .edit) (.cons (aEl .edit) .nil))
def pre62 (a : Edit × Edit × Unit) : Prop := massE a.1 ≤ 1000000 ∧ massE a.2.1 ≤ 1000000
def mu62 (a : Edit × Edit × Unit) : Nat := massE a.1
noncomputable def res62 (a : Edit × Edit × Unit) : V U := .c (.bool (eqX (nE a.1) (nE a.2.1)))
noncomputable def spec62 : Fs U := fs args62 (fun a => [pre62 a]) res62

/-! cento/centoref20.Count -/
/-! cento/centoref20.sameTrees -/
noncomputable def know97 : List (FuncId × Fs U) := [(36, spec36)]
def lv97 : Lives U := fun i => match i with
  | 0 => ([(0, []), (1, [])], [])
  | 1 => ([(0, []), (1, []), (10, [])], [])
  | 2 => ([(4, [])], [])
  | 3 => ([(0, []), (1, []), (5, [])], [])
  | 4 => ([(0, []), (1, []), (5, []), (14, [])], [])
  | 5 => ([(0, []), (1, []), (5, [])], [])
  | 6 => ([(0, []), (1, []), (5, []), (26, [])], [])
  | 7 => ([(4, [])], [])
  | 8 => ([(4, [])], [])
  | _ => ([], [])
def head97_0 (a : List Tree) (b : List Tree) (x5 : Int) : LSt U := (⟨[(0, .c (.slice (U := U) .tree a .unk)), (1, .c (.slice (U := U) .tree b .unk)), (5, .c (.int .i64 x5))], [], []⟩ : LSt U)
abbrev W97 (a : List Tree) (b : List Tree) (Q : AExit → LSt U → Prop) : Prop := awp cfg (know know97) (drawOk cfg (know know97)) Try.f97.ntmps lv97 (cd Try.f97 []) (⟨[(0, .c (.slice (U := U) .tree a .unk)), (1, .c (.slice (U := U) .tree b .unk))], [], []⟩ : LSt U) Q
/-- the body -/
theorem vc97 (a : List Tree) (b : List Tree) (Q : AExit → LSt U → Prop) (h : ((((a.length : Int) : Int) != (b.length : Int)) = true → Q .ret (⟨[(4, .c (.bool false))], [], []⟩ : LSt U)) ∧ ((((a.length : Int) : Int) != (b.length : Int)) = false → LoopWp (awp cfg (know know97) (drawOk cfg (know know97)) Try.f97.ntmps lv97 (cd Try.f97 [1, 1, 0, 1, 0, 0])) (head97_0 a b 0) (AExit.inBlock 0 (seqK cfg (know know97) (drawOk cfg (know know97)) Try.f97.ntmps lv97 (cd Try.f97 [1, 1, 1]) Q)))) :
    W97 a b Q := by
  have e_ : (awp cfg (know know97) (drawOk cfg (know know97)) Try.f97.ntmps lv97 (cd Try.f97 []) (⟨[(0, .c (.slice (U := U) .tree a .unk)), (1, .c (.slice (U := U) .tree b .unk))], [], []⟩ : LSt U) Q) = (((((((a.length : Int) : Int) != (b.length : Int)) = true → (Q .ret (⟨[(4, .c (.bool false))], [], []⟩ : LSt U))) ∧ ((((a.length : Int) : Int) != (b.length : Int)) = false → (LoopWp (awp cfg (know know97) (drawOk cfg (know know97)) Try.f97.ntmps lv97 (cd Try.f97 [1, 1, 0, 1, 0, 0])) (head97_0 a b 0) (AExit.inBlock 0 (seqK cfg (know know97) (drawOk cfg (know know97)) Try.f97.ntmps lv97 (cd Try.f97 [1, 1, 1]) Q))))))) := by kernel_rfl
  exact e_.mpr ⟨fun c_4 => (h.1 c_4), fun c_4 => (h.2 c_4)⟩
abbrev W97_l0 (a : List Tree) (b : List Tree) (x5 : Int) (N0 : LSt U → Prop) (Q : AExit → LSt U → Prop) : Prop := awp cfg (know know97) (drawOk cfg (know know97)) Try.f97.ntmps lv97 (cd Try.f97 [1, 1, 0, 1, 0, 0]) (head97_0 a b x5) (AExit.then N0 (AExit.inBlock 0 (seqK cfg (know know97) (drawOk cfg (know know97)) Try.f97.ntmps lv97 (cd Try.f97 [1, 1, 1]) Q)))
/-- the loop at [1, 1, 0, 1, 0] -/
theorem vc97_l0 (a : List Tree) (b : List Tree) (x5 : Int) (N0 : LSt U → Prop) (Q : AExit → LSt U → Prop) (h : ((decide ((x5 : Int) < (a.length : Int))) = true → ((0 : Int) ≤ x5 ∧ x5 < (a.length : Int)) ∧ ((0 : Int) ≤ x5 ∧ x5 < (b.length : Int)) ∧ (pre36 ((Tree.mk (Tree.kind (List.getD a (Int.toNat x5) Tree.nil)) (Tree.words (List.getD a (Int.toNat x5) Tree.nil)) (Tree.kids (List.getD a (Int.toNat x5) Tree.nil))), (Tree.mk (Tree.kind (List.getD b (Int.toNat x5) Tree.nil)) (Tree.words (List.getD b (Int.toNat x5) Tree.nil)) (Tree.kids (List.getD b (Int.toNat x5) Tree.nil))), ())) ∧ (((!(sameT (normT (Tree.mk (Tree.kind (List.getD a (Int.toNat x5) Tree.nil)) (Tree.words (List.getD a (Int.toNat x5) Tree.nil)) (Tree.kids (List.getD a (Int.toNat x5) Tree.nil)))) (normT (Tree.mk (Tree.kind (List.getD b (Int.toNat x5) Tree.nil)) (Tree.words (List.getD b (Int.toNat x5) Tree.nil)) (Tree.kids (List.getD b (Int.toNat x5) Tree.nil)))))) = true → Q .ret (⟨[(4, .c (.bool false))], [], []⟩ : LSt U)) ∧ ((!(sameT (normT (Tree.mk (Tree.kind (List.getD a (Int.toNat x5) Tree.nil)) (Tree.words (List.getD a (Int.toNat x5) Tree.nil)) (Tree.kids (List.getD a (Int.toNat x5) Tree.nil)))) (normT (Tree.mk (Tree.kind (List.getD b (Int.toNat x5) Tree.nil)) (Tree.words (List.getD b (Int.toNat x5) Tree.nil)) (Tree.kids (List.getD b (Int.toNat x5) Tree.nil)))))) = false → (InR ((x5 : Int) + 1)) ∧ (N0 (head97_0 a b ((x5 : Int) + 1)))))) ∧ ((decide ((x5 : Int) < (a.length : Int))) = false → Q .ret (⟨[(4, .c (.bool true))], [], []⟩ : LSt U))) :
    W97_l0 a b x5 N0 Q := by
  have e_ : (awp cfg (know know97) (drawOk cfg (know know97)) Try.f97.ntmps lv97 (cd Try.f97 [1, 1, 0, 1, 0, 0]) (head97_0 a b x5) (AExit.then N0 (AExit.inBlock 0 (seqK cfg (know know97) (drawOk cfg (know know97)) Try.f97.ntmps lv97 (cd Try.f97 [1, 1, 1]) Q)))) = ((((decide ((x5 : Int) < (a.length : Int))) = true → ((0 : Int) ≤ x5 ∧ x5 < (a.length : Int)) ∧ ((0 : Int) ≤ x5 ∧ x5 < (b.length : Int)) ∧ (pre36 ((Tree.mk (Tree.kind (List.getD a (Int.toNat x5) Tree.nil)) (Tree.words (List.getD a (Int.toNat x5) Tree.nil)) (Tree.kids (List.getD a (Int.toNat x5) Tree.nil))), (Tree.mk (Tree.kind (List.getD b (Int.toNat x5) Tree.nil)) (Tree.words (List.getD b (Int.toNat x5) Tree.nil)) (Tree.kids (List.getD b (Int.toNat x5) Tree.nil))), ())) ∧ (((!(sameT (normT (Tree.mk (Tree.kind (List.getD a (Int.toNat x5) Tree.nil)) (Tree.words (List.getD a (Int.toNat x5) Tree.nil)) (Tree.kids (List.getD a (Int.toNat x5) Tree.nil)))) (normT (Tree.mk (Tree.kind (List.getD b (Int.toNat x5) Tree.nil)) (Tree.words (List.getD b (Int.toNat x5) Tree.nil)) (Tree.kids (List.getD b (Int.toNat x5) Tree.nil)))))) = true → (Q .ret (⟨[(4, .c (.bool false))], [], []⟩ : LSt U))) ∧ ((!(sameT (normT (Tree.mk (Tree.kind (List.getD a (Int.toNat x5) Tree.nil)) (Tree.words (List.getD a (Int.toNat x5) Tree.nil)) (Tree.kids (List.getD a (Int.toNat x5) Tree.nil)))) (normT (Tree.mk (Tree.kind (List.getD b (Int.toNat x5) Tree.nil)) (Tree.words (List.getD b (Int.toNat x5) Tree.nil)) (Tree.kids (List.getD b (Int.toNat x5) Tree.nil)))))) = false → (InR ((x5 : Int) + 1)) ∧ (N0 (head97_0 a b ((x5 : Int) + 1)))))) ∧ ((decide ((x5 : Int) < (a.length : Int))) = false → (Q .ret (⟨[(4, .c (.bool true))], [], []⟩ : LSt U))))) := by kernel_rfl
  exact e_.mpr ⟨fun c_5 => ⟨(h.1 c_5).1, (h.1 c_5).2.1, (h.1 c_5).2.2.1, ⟨fun c_6 => ((h.1 c_5).2.2.2.1 c_6), fun c_6 => ⟨((h.1 c_5).2.2.2.2 c_6).1, ((h.1 c_5).2.2.2.2 c_6).2⟩⟩⟩, fun c_5 => (h.2 c_5)⟩
def Body97 (a : List Tree) (b : List Tree)  : Prop := awp cfg (know (know97)) (drawOk cfg (know (know97))) Try.f97.ntmps lv97 (cd Try.f97 []) (entry (args97.can (a, b, ())) []) (EndsQ cfg Try.f97.ntmps Try.f97.results.toList (res97 (a, b, ())) [])
theorem make97 (c36 : Contract Try.prog cfg 36 spec36) (hb : ∀ (a : List Tree) (b : List Tree) (_ : Unit), pre97 (a, b, ()) → Body97 a b) : Contract Try.prog cfg 97 spec97 :=
  contract_flat (l := [(36, spec36)]) cfgOk rfl (⟨c36, trivial⟩) lv97 Try.func97 rfl rfl 2 (fun _ => rfl) (by decide) (fun ⟨a, b, _⟩ => hb a b ())

/-! cento/centoref20.Equal -/
noncomputable def know62 (N : Nat) : List (FuncId × Fs U) := (62, fs args62 (fun a => [pre62 a, mu62 a < N]) res62) :: [(36, spec36), (97, spec97)]
def lv62 : Lives U := fun i => match i with
  | 0 => ([(2, []), (3, [])], [((.loc 2), []), ((.loc 3), [])])
  | 1 => ([(2, []), (3, []), (64, [])], [((.loc 2), []), ((.loc 3), [])])
  | 2 => ([(4, [])], [])
  | 3 => ([(2, []), (3, []), (5, [])], [((.loc 2), []), ((.loc 3), [])])
  | 4 => ([(2, []), (3, []), (5, []), (69, [])], [((.loc 2), []), ((.loc 3), [])])
  | 5 => ([(2, []), (3, []), (5, [])], [((.loc 2), []), ((.loc 3), [])])
  | 6 => ([(2, []), (3, []), (5, []), (82, [])], [((.loc 2), []), ((.loc 3), [])])
  | 7 => ([(4, [])], [])
  | 8 => ([(2, []), (3, []), (6, [])], [((.loc 2), []), ((.loc 3), [])])
  | 9 => ([(2, []), (3, []), (6, []), (87, [])], [((.loc 2), []), ((.loc 3), [])])
  | 10 => ([(2, []), (3, []), (6, [])], [((.loc 2), []), ((.loc 3), [])])
  | 11 => ([(2, []), (3, []), (6, []), (118, [])], [((.loc 2), []), ((.loc 3), [])])
  | 12 => ([(4, [])], [])
  | 13 => ([(2, []), (3, []), (7, [])], [((.loc 2), []), ((.loc 3), [])])
  | 14 => ([(2, []), (3, []), (7, []), (123, [])], [((.loc 2), []), ((.loc 3), [])])
  | 15 => ([(2, []), (3, []), (7, [])], [((.loc 2), []), ((.loc 3), [])])
  | 16 => ([(2, []), (3, []), (7, []), (8, []), (9, [])], [((.loc 2), []), ((.loc 3), []), ((.loc 8), []), ((.loc 9), [])])
  | 17 => ([(2, []), (3, []), (7, []), (163, [])], [((.loc 2), []), ((.loc 3), [])])
  | 18 => ([(4, [])], [])
  | 19 => ([(4, [])], [])
  | _ => ([], [])
def head62_0 (a : Edit) (b : Edit) (x5 : Int) : LSt U := (⟨[(2, .ptr (.loc 2) 0), (3, .ptr (.loc 3) 0), (5, .c (.int .i64 x5))], [((.loc 2), [.int .i64 (Edit.kind a), .int .i64 (Tree.kind (Edit.old a)), .slice (U := U) .u64 (Tree.words (Edit.old a)) .unk, .slice (U := U) .tree (Tree.kids (Edit.old a)) .unk, .int .i64 (Tree.kind (Edit.new a)), .slice (U := U) .u64 (Tree.words (Edit.new a)) .unk, .slice (U := U) .tree (Tree.kids (Edit.new a)) .unk, .slice (U := U) .wedit (Edit.words a) .unk, .slice (U := U) .kid (Edit.kids a) .unk, .int .i64 (Edit.list a), .slice (U := U) .op (Edit.ops a) .unk]), ((.loc 3), [.int .i64 (Edit.kind b), .int .i64 (Tree.kind (Edit.old b)), .slice (U := U) .u64 (Tree.words (Edit.old b)) .unk, .slice (U := U) .tree (Tree.kids (Edit.old b)) .unk, .int .i64 (Tree.kind (Edit.new b)), .slice (U := U) .u64 (Tree.words (Edit.new b)) .unk, .slice (U := U) .tree (Tree.kids (Edit.new b)) .unk, .slice (U := U) .wedit (Edit.words b) .unk, .slice (U := U) .kid (Edit.kids b) .unk, .int .i64 (Edit.list b), .slice (U := U) .op (Edit.ops b) .unk])], []⟩ : LSt U)
def head62_1 (a : Edit) (b : Edit) (x6_a : Int) : LSt U := (⟨[(2, .ptr (.loc 2) 0), (3, .ptr (.loc 3) 0), (6, .c (.int .i64 x6_a))], [((.loc 2), [.int .i64 (Edit.kind a), .int .i64 (Tree.kind (Edit.old a)), .slice (U := U) .u64 (Tree.words (Edit.old a)) .unk, .slice (U := U) .tree (Tree.kids (Edit.old a)) .unk, .int .i64 (Tree.kind (Edit.new a)), .slice (U := U) .u64 (Tree.words (Edit.new a)) .unk, .slice (U := U) .tree (Tree.kids (Edit.new a)) .unk, .slice (U := U) .wedit (Edit.words a) .unk, .slice (U := U) .kid (Edit.kids a) .unk, .int .i64 (Edit.list a), .slice (U := U) .op (Edit.ops a) .unk]), ((.loc 3), [.int .i64 (Edit.kind b), .int .i64 (Tree.kind (Edit.old b)), .slice (U := U) .u64 (Tree.words (Edit.old b)) .unk, .slice (U := U) .tree (Tree.kids (Edit.old b)) .unk, .int .i64 (Tree.kind (Edit.new b)), .slice (U := U) .u64 (Tree.words (Edit.new b)) .unk, .slice (U := U) .tree (Tree.kids (Edit.new b)) .unk, .slice (U := U) .wedit (Edit.words b) .unk, .slice (U := U) .kid (Edit.kids b) .unk, .int .i64 (Edit.list b), .slice (U := U) .op (Edit.ops b) .unk])], []⟩ : LSt U)
def head62_2 (a : Edit) (b : Edit) (x7_b : Int) : LSt U := (⟨[(2, .ptr (.loc 2) 0), (3, .ptr (.loc 3) 0), (7, .c (.int .i64 x7_b))], [((.loc 2), [.int .i64 (Edit.kind a), .int .i64 (Tree.kind (Edit.old a)), .slice (U := U) .u64 (Tree.words (Edit.old a)) .unk, .slice (U := U) .tree (Tree.kids (Edit.old a)) .unk, .int .i64 (Tree.kind (Edit.new a)), .slice (U := U) .u64 (Tree.words (Edit.new a)) .unk, .slice (U := U) .tree (Tree.kids (Edit.new a)) .unk, .slice (U := U) .wedit (Edit.words a) .unk, .slice (U := U) .kid (Edit.kids a) .unk, .int .i64 (Edit.list a), .slice (U := U) .op (Edit.ops a) .unk]), ((.loc 3), [.int .i64 (Edit.kind b), .int .i64 (Tree.kind (Edit.old b)), .slice (U := U) .u64 (Tree.words (Edit.old b)) .unk, .slice (U := U) .tree (Tree.kids (Edit.old b)) .unk, .int .i64 (Tree.kind (Edit.new b)), .slice (U := U) .u64 (Tree.words (Edit.new b)) .unk, .slice (U := U) .tree (Tree.kids (Edit.new b)) .unk, .slice (U := U) .wedit (Edit.words b) .unk, .slice (U := U) .kid (Edit.kids b) .unk, .int .i64 (Edit.list b), .slice (U := U) .op (Edit.ops b) .unk])], []⟩ : LSt U)
abbrev W62 (N : Nat) (a : Edit) (b : Edit) (Q : AExit → LSt U → Prop) : Prop := awp cfg (know (know62 N)) (drawOk cfg (know (know62 N))) Try.f62.ntmps lv62 (cd Try.f62 []) (⟨[(0, .agg [.int .i64 (Edit.kind a), .int .i64 (Tree.kind (Edit.old a)), .slice (U := U) .u64 (Tree.words (Edit.old a)) .unk, .slice (U := U) .tree (Tree.kids (Edit.old a)) .unk, .int .i64 (Tree.kind (Edit.new a)), .slice (U := U) .u64 (Tree.words (Edit.new a)) .unk, .slice (U := U) .tree (Tree.kids (Edit.new a)) .unk, .slice (U := U) .wedit (Edit.words a) .unk, .slice (U := U) .kid (Edit.kids a) .unk, .int .i64 (Edit.list a), .slice (U := U) .op (Edit.ops a) .unk]), (1, .agg [.int .i64 (Edit.kind b), .int .i64 (Tree.kind (Edit.old b)), .slice (U := U) .u64 (Tree.words (Edit.old b)) .unk, .slice (U := U) .tree (Tree.kids (Edit.old b)) .unk, .int .i64 (Tree.kind (Edit.new b)), .slice (U := U) .u64 (Tree.words (Edit.new b)) .unk, .slice (U := U) .tree (Tree.kids (Edit.new b)) .unk, .slice (U := U) .wedit (Edit.words b) .unk, .slice (U := U) .kid (Edit.kids b) .unk, .int .i64 (Edit.list b), .slice (U := U) .op (Edit.ops b) .unk])], [], []⟩ : LSt U) Q
/-- the body -/
theorem vc62 (N : Nat) (a : Edit) (b : Edit) (Q : AExit → LSt U → Prop) (h : ∀ y_1, y_1 = ((Edit.new a)) → ∀ y_2, y_2 = ((Edit.new b)) → ∀ y_3, y_3 = ((Edit.old a)) → ∀ y_4, y_4 = ((Edit.old b)) → ((!(bif (((Edit.kind a) : Int) != (Edit.kind b)) then true else (((Edit.list a) : Int) != (Edit.list b)))) = true → pre36 (y_3, y_4, ())) ∧ ((!(bif (bif (((Edit.kind a) : Int) != (Edit.kind b)) then true else (((Edit.list a) : Int) != (Edit.list b))) then true else (!(sameT (normT y_3) (normT y_4))))) = true → pre36 (y_1, y_2, ())) ∧ (((bif (bif (bif (bif (bif (bif (((Edit.kind a) : Int) != (Edit.kind b)) then true else (((Edit.list a) : Int) != (Edit.list b))) then true else (!(sameT (normT y_3) (normT y_4)))) then true else (!(sameT (normT y_1) (normT y_2)))) then true else ((((Edit.words a).length : Int) : Int) != ((Edit.words b).length : Int))) then true else ((((Edit.kids a).length : Int) : Int) != ((Edit.kids b).length : Int))) then true else ((((Edit.ops a).length : Int) : Int) != ((Edit.ops b).length : Int))) = true → Q .ret (⟨[(4, .c (.bool false))], [], []⟩ : LSt U)) ∧ ((bif (bif (bif (bif (bif (bif (((Edit.kind a) : Int) != (Edit.kind b)) then true else (((Edit.list a) : Int) != (Edit.list b))) then true else (!(sameT (normT y_3) (normT y_4)))) then true else (!(sameT (normT y_1) (normT y_2)))) then true else ((((Edit.words a).length : Int) : Int) != ((Edit.words b).length : Int))) then true else ((((Edit.kids a).length : Int) : Int) != ((Edit.kids b).length : Int))) then true else ((((Edit.ops a).length : Int) : Int) != ((Edit.ops b).length : Int))) = false → LoopWp (awp cfg (know (know62 N)) (drawOk cfg (know (know62 N))) Try.f62.ntmps lv62 (cd Try.f62 [1, 1, 0, 1, 0, 0])) (head62_0 a b 0) (AExit.inBlock 0 (seqK cfg (know (know62 N)) (drawOk cfg (know (know62 N))) Try.f62.ntmps lv62 (cd Try.f62 [1, 1, 1]) Q))))) :
    W62 N a b Q := by
  have e_ : (awp cfg (know (know62 N)) (drawOk cfg (know (know62 N))) Try.f62.ntmps lv62 (cd Try.f62 []) (⟨[(0, .agg [.int .i64 (Edit.kind a), .int .i64 (Tree.kind (Edit.old a)), .slice (U := U) .u64 (Tree.words (Edit.old a)) .unk, .slice (U := U) .tree (Tree.kids (Edit.old a)) .unk, .int .i64 (Tree.kind (Edit.new a)), .slice (U := U) .u64 (Tree.words (Edit.new a)) .unk, .slice (U := U) .tree (Tree.kids (Edit.new a)) .unk, .slice (U := U) .wedit (Edit.words a) .unk, .slice (U := U) .kid (Edit.kids a) .unk, .int .i64 (Edit.list a), .slice (U := U) .op (Edit.ops a) .unk]), (1, .agg [.int .i64 (Edit.kind b), .int .i64 (Tree.kind (Edit.old b)), .slice (U := U) .u64 (Tree.words (Edit.old b)) .unk, .slice (U := U) .tree (Tree.kids (Edit.old b)) .unk, .int .i64 (Tree.kind (Edit.new b)), .slice (U := U) .u64 (Tree.words (Edit.new b)) .unk, .slice (U := U) .tree (Tree.kids (Edit.new b)) .unk, .slice (U := U) .wedit (Edit.words b) .unk, .slice (U := U) .kid (Edit.kids b) .unk, .int .i64 (Edit.list b), .slice (U := U) .op (Edit.ops b) .unk])], [], []⟩ : LSt U) Q) = (let y_1 := (reTree (Edit.new a)); let y_2 := (reTree (Edit.new b)); let y_3 := (reTree (Edit.old a)); let y_4 := (reTree (Edit.old b)); (((!(((Edit.kind a) : Int) != (Edit.kind b))) = true → (!(((Edit.kind a) : Int) != (Edit.kind b))) = true) ∧ ((!(((Edit.kind a) : Int) != (Edit.kind b))) = true → (!(((Edit.kind a) : Int) != (Edit.kind b))) = true) ∧ ((!(((Edit.kind a) : Int) != (Edit.kind b))) = true → (!(((Edit.kind a) : Int) != (Edit.kind b))) = true) ∧ ((!(((Edit.kind a) : Int) != (Edit.kind b))) = true → (!(((Edit.kind a) : Int) != (Edit.kind b))) = true) ∧ (((((Edit.kind a) : Int) != (Edit.kind b)) = false → (!(((Edit.kind a) : Int) != (Edit.kind b))) = true)) ∧ ((!(bif (((Edit.kind a) : Int) != (Edit.kind b)) then true else (((Edit.list a) : Int) != (Edit.list b)))) = true → (!(bif (((Edit.kind a) : Int) != (Edit.kind b)) then true else (((Edit.list a) : Int) != (Edit.list b)))) = true) ∧ ((!(bif (((Edit.kind a) : Int) != (Edit.kind b)) then true else (((Edit.list a) : Int) != (Edit.list b)))) = true → (!(bif (((Edit.kind a) : Int) != (Edit.kind b)) then true else (((Edit.list a) : Int) != (Edit.list b)))) = true) ∧ ((!(bif (((Edit.kind a) : Int) != (Edit.kind b)) then true else (((Edit.list a) : Int) != (Edit.list b)))) = true → (!(bif (((Edit.kind a) : Int) != (Edit.kind b)) then true else (((Edit.list a) : Int) != (Edit.list b)))) = true) ∧ ((!(bif (((Edit.kind a) : Int) != (Edit.kind b)) then true else (((Edit.list a) : Int) != (Edit.list b)))) = true → (!(bif (((Edit.kind a) : Int) != (Edit.kind b)) then true else (((Edit.list a) : Int) != (Edit.list b)))) = true) ∧ ((!(bif (((Edit.kind a) : Int) != (Edit.kind b)) then true else (((Edit.list a) : Int) != (Edit.list b)))) = true → pre36 (y_3, y_4, ())) ∧ ((!(bif (((Edit.kind a) : Int) != (Edit.kind b)) then true else (((Edit.list a) : Int) != (Edit.list b)))) = true → (!(bif (((Edit.kind a) : Int) != (Edit.kind b)) then true else (((Edit.list a) : Int) != (Edit.list b)))) = true) ∧ (((bif (((Edit.kind a) : Int) != (Edit.kind b)) then true else (((Edit.list a) : Int) != (Edit.list b))) = false → (!(bif (((Edit.kind a) : Int) != (Edit.kind b)) then true else (((Edit.list a) : Int) != (Edit.list b)))) = true)) ∧ ((!(bif (bif (((Edit.kind a) : Int) != (Edit.kind b)) then true else (((Edit.list a) : Int) != (Edit.list b))) then true else (!(sameT (normT y_3) (normT y_4))))) = true → (!(bif (bif (((Edit.kind a) : Int) != (Edit.kind b)) then true else (((Edit.list a) : Int) != (Edit.list b))) then true else (!(sameT (normT y_3) (normT y_4))))) = true) ∧ ((!(bif (bif (((Edit.kind a) : Int) != (Edit.kind b)) then true else (((Edit.list a) : Int) != (Edit.list b))) then true else (!(sameT (normT y_3) (normT y_4))))) = true → (!(bif (bif (((Edit.kind a) : Int) != (Edit.kind b)) then true else (((Edit.list a) : Int) != (Edit.list b))) then true else (!(sameT (normT y_3) (normT y_4))))) = true) ∧ ((!(bif (bif (((Edit.kind a) : Int) != (Edit.kind b)) then true else (((Edit.list a) : Int) != (Edit.list b))) then true else (!(sameT (normT y_3) (normT y_4))))) = true → (!(bif (bif (((Edit.kind a) : Int) != (Edit.kind b)) then true else (((Edit.list a) : Int) != (Edit.list b))) then true else (!(sameT (normT y_3) (normT y_4))))) = true) ∧ ((!(bif (bif (((Edit.kind a) : Int) != (Edit.kind b)) then true else (((Edit.list a) : Int) != (Edit.list b))) then true else (!(sameT (normT y_3) (normT y_4))))) = true → (!(bif (bif (((Edit.kind a) : Int) != (Edit.kind b)) then true else (((Edit.list a) : Int) != (Edit.list b))) then true else (!(sameT (normT y_3) (normT y_4))))) = true) ∧ ((!(bif (bif (((Edit.kind a) : Int) != (Edit.kind b)) then true else (((Edit.list a) : Int) != (Edit.list b))) then true else (!(sameT (normT y_3) (normT y_4))))) = true → pre36 (y_1, y_2, ())) ∧ ((!(bif (bif (((Edit.kind a) : Int) != (Edit.kind b)) then true else (((Edit.list a) : Int) != (Edit.list b))) then true else (!(sameT (normT y_3) (normT y_4))))) = true → (!(bif (bif (((Edit.kind a) : Int) != (Edit.kind b)) then true else (((Edit.list a) : Int) != (Edit.list b))) then true else (!(sameT (normT y_3) (normT y_4))))) = true) ∧ (((bif (bif (((Edit.kind a) : Int) != (Edit.kind b)) then true else (((Edit.list a) : Int) != (Edit.list b))) then true else (!(sameT (normT y_3) (normT y_4)))) = false → (!(bif (bif (((Edit.kind a) : Int) != (Edit.kind b)) then true else (((Edit.list a) : Int) != (Edit.list b))) then true else (!(sameT (normT y_3) (normT y_4))))) = true)) ∧ ((!(bif (bif (bif (((Edit.kind a) : Int) != (Edit.kind b)) then true else (((Edit.list a) : Int) != (Edit.list b))) then true else (!(sameT (normT y_3) (normT y_4)))) then true else (!(sameT (normT y_1) (normT y_2))))) = true → (!(bif (bif (bif (((Edit.kind a) : Int) != (Edit.kind b)) then true else (((Edit.list a) : Int) != (Edit.list b))) then true else (!(sameT (normT y_3) (normT y_4)))) then true else (!(sameT (normT y_1) (normT y_2))))) = true) ∧ ((!(bif (bif (bif (((Edit.kind a) : Int) != (Edit.kind b)) then true else (((Edit.list a) : Int) != (Edit.list b))) then true else (!(sameT (normT y_3) (normT y_4)))) then true else (!(sameT (normT y_1) (normT y_2))))) = true → (!(bif (bif (bif (((Edit.kind a) : Int) != (Edit.kind b)) then true else (((Edit.list a) : Int) != (Edit.list b))) then true else (!(sameT (normT y_3) (normT y_4)))) then true else (!(sameT (normT y_1) (normT y_2))))) = true) ∧ ((!(bif (bif (bif (((Edit.kind a) : Int) != (Edit.kind b)) then true else (((Edit.list a) : Int) != (Edit.list b))) then true else (!(sameT (normT y_3) (normT y_4)))) then true else (!(sameT (normT y_1) (normT y_2))))) = true → (!(bif (bif (bif (((Edit.kind a) : Int) != (Edit.kind b)) then true else (((Edit.list a) : Int) != (Edit.list b))) then true else (!(sameT (normT y_3) (normT y_4)))) then true else (!(sameT (normT y_1) (normT y_2))))) = true) ∧ ((!(bif (bif (bif (((Edit.kind a) : Int) != (Edit.kind b)) then true else (((Edit.list a) : Int) != (Edit.list b))) then true else (!(sameT (normT y_3) (normT y_4)))) then true else (!(sameT (normT y_1) (normT y_2))))) = true → (!(bif (bif (bif (((Edit.kind a) : Int) != (Edit.kind b)) then true else (((Edit.list a) : Int) != (Edit.list b))) then true else (!(sameT (normT y_3) (normT y_4)))) then true else (!(sameT (normT y_1) (normT y_2))))) = true) ∧ ((!(bif (bif (bif (((Edit.kind a) : Int) != (Edit.kind b)) then true else (((Edit.list a) : Int) != (Edit.list b))) then true else (!(sameT (normT y_3) (normT y_4)))) then true else (!(sameT (normT y_1) (normT y_2))))) = true → (!(bif (bif (bif (((Edit.kind a) : Int) != (Edit.kind b)) then true else (((Edit.list a) : Int) != (Edit.list b))) then true else (!(sameT (normT y_3) (normT y_4)))) then true else (!(sameT (normT y_1) (normT y_2))))) = true) ∧ ((!(bif (bif (bif (((Edit.kind a) : Int) != (Edit.kind b)) then true else (((Edit.list a) : Int) != (Edit.list b))) then true else (!(sameT (normT y_3) (normT y_4)))) then true else (!(sameT (normT y_1) (normT y_2))))) = true → (!(bif (bif (bif (((Edit.kind a) : Int) != (Edit.kind b)) then true else (((Edit.list a) : Int) != (Edit.list b))) then true else (!(sameT (normT y_3) (normT y_4)))) then true else (!(sameT (normT y_1) (normT y_2))))) = true) ∧ (((bif (bif (bif (((Edit.kind a) : Int) != (Edit.kind b)) then true else (((Edit.list a) : Int) != (Edit.list b))) then true else (!(sameT (normT y_3) (normT y_4)))) then true else (!(sameT (normT y_1) (normT y_2)))) = false → (!(bif (bif (bif (((Edit.kind a) : Int) != (Edit.kind b)) then true else (((Edit.list a) : Int) != (Edit.list b))) then true else (!(sameT (normT y_3) (normT y_4)))) then true else (!(sameT (normT y_1) (normT y_2))))) = true)) ∧ ((!(bif (bif (bif (bif (((Edit.kind a) : Int) != (Edit.kind b)) then true else (((Edit.list a) : Int) != (Edit.list b))) then true else (!(sameT (normT y_3) (normT y_4)))) then true else (!(sameT (normT y_1) (normT y_2)))) then true else ((((Edit.words a).length : Int) : Int) != ((Edit.words b).length : Int)))) = true → (!(bif (bif (bif (bif (((Edit.kind a) : Int) != (Edit.kind b)) then true else (((Edit.list a) : Int) != (Edit.list b))) then true else (!(sameT (normT y_3) (normT y_4)))) then true else (!(sameT (normT y_1) (normT y_2)))) then true else ((((Edit.words a).length : Int) : Int) != ((Edit.words b).length : Int)))) = true) ∧ ((!(bif (bif (bif (bif (((Edit.kind a) : Int) != (Edit.kind b)) then true else (((Edit.list a) : Int) != (Edit.list b))) then true else (!(sameT (normT y_3) (normT y_4)))) then true else (!(sameT (normT y_1) (normT y_2)))) then true else ((((Edit.words a).length : Int) : Int) != ((Edit.words b).length : Int)))) = true → (!(bif (bif (bif (bif (((Edit.kind a) : Int) != (Edit.kind b)) then true else (((Edit.list a) : Int) != (Edit.list b))) then true else (!(sameT (normT y_3) (normT y_4)))) then true else (!(sameT (normT y_1) (normT y_2)))) then true else ((((Edit.words a).length : Int) : Int) != ((Edit.words b).length : Int)))) = true) ∧ ((!(bif (bif (bif (bif (((Edit.kind a) : Int) != (Edit.kind b)) then true else (((Edit.list a) : Int) != (Edit.list b))) then true else (!(sameT (normT y_3) (normT y_4)))) then true else (!(sameT (normT y_1) (normT y_2)))) then true else ((((Edit.words a).length : Int) : Int) != ((Edit.words b).length : Int)))) = true → (!(bif (bif (bif (bif (((Edit.kind a) : Int) != (Edit.kind b)) then true else (((Edit.list a) : Int) != (Edit.list b))) then true else (!(sameT (normT y_3) (normT y_4)))) then true else (!(sameT (normT y_1) (normT y_2)))) then true else ((((Edit.words a).length : Int) : Int) != ((Edit.words b).length : Int)))) = true) ∧ ((!(bif (bif (bif (bif (((Edit.kind a) : Int) != (Edit.kind b)) then true else (((Edit.list a) : Int) != (Edit.list b))) then true else (!(sameT (normT y_3) (normT y_4)))) then true else (!(sameT (normT y_1) (normT y_2)))) then true else ((((Edit.words a).length : Int) : Int) != ((Edit.words b).length : Int)))) = true → (!(bif (bif (bif (bif (((Edit.kind a) : Int) != (Edit.kind b)) then true else (((Edit.list a) : Int) != (Edit.list b))) then true else (!(sameT (normT y_3) (normT y_4)))) then true else (!(sameT (normT y_1) (normT y_2)))) then true else ((((Edit.words a).length : Int) : Int) != ((Edit.words b).length : Int)))) = true) ∧ ((!(bif (bif (bif (bif (((Edit.kind a) : Int) != (Edit.kind b)) then true else (((Edit.list a) : Int) != (Edit.list b))) then true else (!(sameT (normT y_3) (normT y_4)))) then true else (!(sameT (normT y_1) (normT y_2)))) then true else ((((Edit.words a).length : Int) : Int) != ((Edit.words b).length : Int)))) = true → (!(bif (bif (bif (bif (((Edit.kind a) : Int) != (Edit.kind b)) then true else (((Edit.list a) : Int) != (Edit.list b))) then true else (!(sameT (normT y_3) (normT y_4)))) then true else (!(sameT (normT y_1) (normT y_2)))) then true else ((((Edit.words a).length : Int) : Int) != ((Edit.words b).length : Int)))) = true) ∧ ((!(bif (bif (bif (bif (((Edit.kind a) : Int) != (Edit.kind b)) then true else (((Edit.list a) : Int) != (Edit.list b))) then true else (!(sameT (normT y_3) (normT y_4)))) then true else (!(sameT (normT y_1) (normT y_2)))) then true else ((((Edit.words a).length : Int) : Int) != ((Edit.words b).length : Int)))) = true → (!(bif (bif (bif (bif (((Edit.kind a) : Int) != (Edit.kind b)) then true else (((Edit.list a) : Int) != (Edit.list b))) then true else (!(sameT (normT y_3) (normT y_4)))) then true else (!(sameT (normT y_1) (normT y_2)))) then true else ((((Edit.words a).length : Int) : Int) != ((Edit.words b).length : Int)))) = true) ∧ (((bif (bif (bif (bif (((Edit.kind a) : Int) != (Edit.kind b)) then true else (((Edit.list a) : Int) != (Edit.list b))) then true else (!(sameT (normT y_3) (normT y_4)))) then true else (!(sameT (normT y_1) (normT y_2)))) then true else ((((Edit.words a).length : Int) : Int) != ((Edit.words b).length : Int))) = false → (!(bif (bif (bif (bif (((Edit.kind a) : Int) != (Edit.kind b)) then true else (((Edit.list a) : Int) != (Edit.list b))) then true else (!(sameT (normT y_3) (normT y_4)))) then true else (!(sameT (normT y_1) (normT y_2)))) then true else ((((Edit.words a).length : Int) : Int) != ((Edit.words b).length : Int)))) = true)) ∧ ((!(bif (bif (bif (bif (bif (((Edit.kind a) : Int) != (Edit.kind b)) then true else (((Edit.list a) : Int) != (Edit.list b))) then true else (!(sameT (normT y_3) (normT y_4)))) then true else (!(sameT (normT y_1) (normT y_2)))) then true else ((((Edit.words a).length : Int) : Int) != ((Edit.words b).length : Int))) then true else ((((Edit.kids a).length : Int) : Int) != ((Edit.kids b).length : Int)))) = true → (!(bif (bif (bif (bif (bif (((Edit.kind a) : Int) != (Edit.kind b)) then true else (((Edit.list a) : Int) != (Edit.list b))) then true else (!(sameT (normT y_3) (normT y_4)))) then true else (!(sameT (normT y_1) (normT y_2)))) then true else ((((Edit.words a).length : Int) : Int) != ((Edit.words b).length : Int))) then true else ((((Edit.kids a).length : Int) : Int) != ((Edit.kids b).length : Int)))) = true) ∧ ((!(bif (bif (bif (bif (bif (((Edit.kind a) : Int) != (Edit.kind b)) then true else (((Edit.list a) : Int) != (Edit.list b))) then true else (!(sameT (normT y_3) (normT y_4)))) then true else (!(sameT (normT y_1) (normT y_2)))) then true else ((((Edit.words a).length : Int) : Int) != ((Edit.words b).length : Int))) then true else ((((Edit.kids a).length : Int) : Int) != ((Edit.kids b).length : Int)))) = true → (!(bif (bif (bif (bif (bif (((Edit.kind a) : Int) != (Edit.kind b)) then true else (((Edit.list a) : Int) != (Edit.list b))) then true else (!(sameT (normT y_3) (normT y_4)))) then true else (!(sameT (normT y_1) (normT y_2)))) then true else ((((Edit.words a).length : Int) : Int) != ((Edit.words b).length : Int))) then true else ((((Edit.kids a).length : Int) : Int) != ((Edit.kids b).length : Int)))) = true) ∧ ((!(bif (bif (bif (bif (bif (((Edit.kind a) : Int) != (Edit.kind b)) then true else (((Edit.list a) : Int) != (Edit.list b))) then true else (!(sameT (normT y_3) (normT y_4)))) then true else (!(sameT (normT y_1) (normT y_2)))) then true else ((((Edit.words a).length : Int) : Int) != ((Edit.words b).length : Int))) then true else ((((Edit.kids a).length : Int) : Int) != ((Edit.kids b).length : Int)))) = true → (!(bif (bif (bif (bif (bif (((Edit.kind a) : Int) != (Edit.kind b)) then true else (((Edit.list a) : Int) != (Edit.list b))) then true else (!(sameT (normT y_3) (normT y_4)))) then true else (!(sameT (normT y_1) (normT y_2)))) then true else ((((Edit.words a).length : Int) : Int) != ((Edit.words b).length : Int))) then true else ((((Edit.kids a).length : Int) : Int) != ((Edit.kids b).length : Int)))) = true) ∧ ((!(bif (bif (bif (bif (bif (((Edit.kind a) : Int) != (Edit.kind b)) then true else (((Edit.list a) : Int) != (Edit.list b))) then true else (!(sameT (normT y_3) (normT y_4)))) then true else (!(sameT (normT y_1) (normT y_2)))) then true else ((((Edit.words a).length : Int) : Int) != ((Edit.words b).length : Int))) then true else ((((Edit.kids a).length : Int) : Int) != ((Edit.kids b).length : Int)))) = true → (!(bif (bif (bif (bif (bif (((Edit.kind a) : Int) != (Edit.kind b)) then true else (((Edit.list a) : Int) != (Edit.list b))) then true else (!(sameT (normT y_3) (normT y_4)))) then true else (!(sameT (normT y_1) (normT y_2)))) then true else ((((Edit.words a).length : Int) : Int) != ((Edit.words b).length : Int))) then true else ((((Edit.kids a).length : Int) : Int) != ((Edit.kids b).length : Int)))) = true) ∧ ((!(bif (bif (bif (bif (bif (((Edit.kind a) : Int) != (Edit.kind b)) then true else (((Edit.list a) : Int) != (Edit.list b))) then true else (!(sameT (normT y_3) (normT y_4)))) then true else (!(sameT (normT y_1) (normT y_2)))) then true else ((((Edit.words a).length : Int) : Int) != ((Edit.words b).length : Int))) then true else ((((Edit.kids a).length : Int) : Int) != ((Edit.kids b).length : Int)))) = true → (!(bif (bif (bif (bif (bif (((Edit.kind a) : Int) != (Edit.kind b)) then true else (((Edit.list a) : Int) != (Edit.list b))) then true else (!(sameT (normT y_3) (normT y_4)))) then true else (!(sameT (normT y_1) (normT y_2)))) then true else ((((Edit.words a).length : Int) : Int) != ((Edit.words b).length : Int))) then true else ((((Edit.kids a).length : Int) : Int) != ((Edit.kids b).length : Int)))) = true) ∧ ((!(bif (bif (bif (bif (bif (((Edit.kind a) : Int) != (Edit.kind b)) then true else (((Edit.list a) : Int) != (Edit.list b))) then true else (!(sameT (normT y_3) (normT y_4)))) then true else (!(sameT (normT y_1) (normT y_2)))) then true else ((((Edit.words a).length : Int) : Int) != ((Edit.words b).length : Int))) then true else ((((Edit.kids a).length : Int) : Int) != ((Edit.kids b).length : Int)))) = true → (!(bif (bif (bif (bif (bif (((Edit.kind a) : Int) != (Edit.kind b)) then true else (((Edit.list a) : Int) != (Edit.list b))) then true else (!(sameT (normT y_3) (normT y_4)))) then true else (!(sameT (normT y_1) (normT y_2)))) then true else ((((Edit.words a).length : Int) : Int) != ((Edit.words b).length : Int))) then true else ((((Edit.kids a).length : Int) : Int) != ((Edit.kids b).length : Int)))) = true) ∧ (((bif (bif (bif (bif (bif (((Edit.kind a) : Int) != (Edit.kind b)) then true else (((Edit.list a) : Int) != (Edit.list b))) then true else (!(sameT (normT y_3) (normT y_4)))) then true else (!(sameT (normT y_1) (normT y_2)))) then true else ((((Edit.words a).length : Int) : Int) != ((Edit.words b).length : Int))) then true else ((((Edit.kids a).length : Int) : Int) != ((Edit.kids b).length : Int))) = false → (!(bif (bif (bif (bif (bif (((Edit.kind a) : Int) != (Edit.kind b)) then true else (((Edit.list a) : Int) != (Edit.list b))) then true else (!(sameT (normT y_3) (normT y_4)))) then true else (!(sameT (normT y_1) (normT y_2)))) then true else ((((Edit.words a).length : Int) : Int) != ((Edit.words b).length : Int))) then true else ((((Edit.kids a).length : Int) : Int) != ((Edit.kids b).length : Int)))) = true)) ∧ (((bif (bif (bif (bif (bif (bif (((Edit.kind a) : Int) != (Edit.kind b)) then true else (((Edit.list a) : Int) != (Edit.list b))) then true else (!(sameT (normT y_3) (normT y_4)))) then true else (!(sameT (normT y_1) (normT y_2)))) then true else ((((Edit.words a).length : Int) : Int) != ((Edit.words b).length : Int))) then true else ((((Edit.kids a).length : Int) : Int) != ((Edit.kids b).length : Int))) then true else ((((Edit.ops a).length : Int) : Int) != ((Edit.ops b).length : Int))) = true → (Q .ret (⟨[(4, .c (.bool false))], [], []⟩ : LSt U))) ∧ ((bif (bif (bif (bif (bif (bif (((Edit.kind a) : Int) != (Edit.kind b)) then true else (((Edit.list a) : Int) != (Edit.list b))) then true else (!(sameT (normT y_3) (normT y_4)))) then true else (!(sameT (normT y_1) (normT y_2)))) then true else ((((Edit.words a).length : Int) : Int) != ((Edit.words b).length : Int))) then true else ((((Edit.kids a).length : Int) : Int) != ((Edit.kids b).length : Int))) then true else ((((Edit.ops a).length : Int) : Int) != ((Edit.ops b).length : Int))) = false → (LoopWp (awp cfg (know (know62 N)) (drawOk cfg (know (know62 N))) Try.f62.ntmps lv62 (cd Try.f62 [1, 1, 0, 1, 0, 0])) (head62_0 a b 0) (AExit.inBlock 0 (seqK cfg (know (know62 N)) (drawOk cfg (know (know62 N))) Try.f62.ntmps lv62 (cd Try.f62 [1, 1, 1]) Q))))))) := by kernel_rfl
  exact e_.mpr (by intro y_1 y_2 y_3 y_4; exact ⟨fun x => x, fun x => x, fun x => x, fun x => x, (by generalize (((Edit.kind a) : Int) != (Edit.kind b)) = b0; revert b0; decide), fun x => x, fun x => x, fun x => x, fun x => x, (h y_1 (reTree_eq _) y_2 (reTree_eq _) y_3 (reTree_eq _) y_4 (reTree_eq _)).1, fun x => x, (by generalize (((Edit.kind a) : Int) != (Edit.kind b)) = b0; generalize (((Edit.list a) : Int) != (Edit.list b)) = b1; revert b0 b1; decide), fun x => x, fun x => x, fun x => x, fun x => x, (h y_1 (reTree_eq _) y_2 (reTree_eq _) y_3 (reTree_eq _) y_4 (reTree_eq _)).2.1, fun x => x, (by generalize (sameT (normT y_3) (normT y_4)) = b0; generalize (((Edit.kind a) : Int) != (Edit.kind b)) = b1; generalize (((Edit.list a) : Int) != (Edit.list b)) = b2; revert b0 b1 b2; decide), fun x => x, fun x => x, fun x => x, fun x => x, fun x => x, fun x => x, (by generalize (sameT (normT y_3) (normT y_4)) = b0; generalize (sameT (normT y_1) (normT y_2)) = b1; generalize (((Edit.kind a) : Int) != (Edit.kind b)) = b2; generalize (((Edit.list a) : Int) != (Edit.list b)) = b3; revert b0 b1 b2 b3; decide), fun x => x, fun x => x, fun x => x, fun x => x, fun x => x, fun x => x, (by generalize (sameT (normT y_1) (normT y_2)) = b0; generalize (sameT (normT y_3) (normT y_4)) = b1; generalize ((((Edit.words a).length : Int) : Int) != ((Edit.words b).length : Int)) = b2; generalize (((Edit.kind a) : Int) != (Edit.kind b)) = b3; generalize (((Edit.list a) : Int) != (Edit.list b)) = b4; revert b0 b1 b2 b3 b4; decide), fun x => x, fun x => x, fun x => x, fun x => x, fun x => x, fun x => x, (by generalize (sameT (normT y_1) (normT y_2)) = b0; generalize (sameT (normT y_3) (normT y_4)) = b1; generalize ((((Edit.words a).length : Int) : Int) != ((Edit.words b).length : Int)) = b2; generalize ((((Edit.kids a).length : Int) : Int) != ((Edit.kids b).length : Int)) = b3; generalize (((Edit.kind a) : Int) != (Edit.kind b)) = b4; generalize (((Edit.list a) : Int) != (Edit.list b)) = b5; revert b0 b1 b2 b3 b4 b5; decide), ⟨fun c_7 => ((h y_1 (reTree_eq _) y_2 (reTree_eq _) y_3 (reTree_eq _) y_4 (reTree_eq _)).2.2.1 c_7), fun c_7 => ((h y_1 (reTree_eq _) y_2 (reTree_eq _) y_3 (reTree_eq _) y_4 (reTree_eq _)).2.2.2 c_7)⟩⟩)
abbrev W62_l0 (N : Nat) (a : Edit) (b : Edit) (x5 : Int) (N0 : LSt U → Prop) (Q : AExit → LSt U → Prop) : Prop := awp cfg (know (know62 N)) (drawOk cfg (know (know62 N))) Try.f62.ntmps lv62 (cd Try.f62 [1, 1, 0, 1, 0, 0]) (head62_0 a b x5) (AExit.then N0 (AExit.inBlock 0 (seqK cfg (know (know62 N)) (drawOk cfg (know (know62 N))) Try.f62.ntmps lv62 (cd Try.f62 [1, 1, 1]) Q)))
/-- the loop at [1, 1, 0, 1, 0] -/
theorem vc62_l0 (N : Nat) (a : Edit) (b : Edit) (x5 : Int) (N0 : LSt U → Prop) (Q : AExit → LSt U → Prop) (h : ((decide ((x5 : Int) < ((Edit.words a).length : Int))) = true → ((0 : Int) ≤ x5 ∧ x5 < ((Edit.words a).length : Int)) ∧ ((0 : Int) ≤ x5 ∧ x5 < ((Edit.words b).length : Int)) ∧ (((!((((WEdit.at_ (List.getD (Edit.words a) (Int.toNat x5) (WEdit.mk 0 0 0 0))) : Int) == (WEdit.at_ (List.getD (Edit.words b) (Int.toNat x5) (WEdit.mk 0 0 0 0)))) && ((((WEdit.mask (List.getD (Edit.words a) (Int.toNat x5) (WEdit.mk 0 0 0 0))) : Int) == (WEdit.mask (List.getD (Edit.words b) (Int.toNat x5) (WEdit.mk 0 0 0 0)))) && ((((WEdit.old (List.getD (Edit.words a) (Int.toNat x5) (WEdit.mk 0 0 0 0))) : Int) == (WEdit.old (List.getD (Edit.words b) (Int.toNat x5) (WEdit.mk 0 0 0 0)))) && ((((WEdit.new (List.getD (Edit.words a) (Int.toNat x5) (WEdit.mk 0 0 0 0))) : Int) == (WEdit.new (List.getD (Edit.words b) (Int.toNat x5) (WEdit.mk 0 0 0 0)))) && true))))) = true → Q .ret (⟨[(4, .c (.bool false))], [], []⟩ : LSt U)) ∧ ((!((((WEdit.at_ (List.getD (Edit.words a) (Int.toNat x5) (WEdit.mk 0 0 0 0))) : Int) == (WEdit.at_ (List.getD (Edit.words b) (Int.toNat x5) (WEdit.mk 0 0 0 0)))) && ((((WEdit.mask (List.getD (Edit.words a) (Int.toNat x5) (WEdit.mk 0 0 0 0))) : Int) == (WEdit.mask (List.getD (Edit.words b) (Int.toNat x5) (WEdit.mk 0 0 0 0)))) && ((((WEdit.old (List.getD (Edit.words a) (Int.toNat x5) (WEdit.mk 0 0 0 0))) : Int) == (WEdit.old (List.getD (Edit.words b) (Int.toNat x5) (WEdit.mk 0 0 0 0)))) && ((((WEdit.new (List.getD (Edit.words a) (Int.toNat x5) (WEdit.mk 0 0 0 0))) : Int) == (WEdit.new (List.getD (Edit.words b) (Int.toNat x5) (WEdit.mk 0 0 0 0)))) && true))))) = false → (InR ((x5 : Int) + 1)) ∧ (N0 (head62_0 a b ((x5 : Int) + 1)))))) ∧ ((decide ((x5 : Int) < ((Edit.words a).length : Int))) = false → LoopWp (awp cfg (know (know62 N)) (drawOk cfg (know (know62 N))) Try.f62.ntmps lv62 (cd Try.f62 [1, 1, 1, 0, 1, 0, 0])) (head62_1 a b 0) (AExit.inBlock 2 (seqK cfg (know (know62 N)) (drawOk cfg (know (know62 N))) Try.f62.ntmps lv62 (cd Try.f62 [1, 1, 1, 1]) Q)))) :
    W62_l0 N a b x5 N0 Q := by
  have e_ : (awp cfg (know (know62 N)) (drawOk cfg (know (know62 N))) Try.f62.ntmps lv62 (cd Try.f62 [1, 1, 0, 1, 0, 0]) (head62_0 a b x5) (AExit.then N0 (AExit.inBlock 0 (seqK cfg (know (know62 N)) (drawOk cfg (know (know62 N))) Try.f62.ntmps lv62 (cd Try.f62 [1, 1, 1]) Q)))) = ((((decide ((x5 : Int) < ((Edit.words a).length : Int))) = true → ((0 : Int) ≤ x5 ∧ x5 < ((Edit.words a).length : Int)) ∧ ((0 : Int) ≤ x5 ∧ x5 < ((Edit.words b).length : Int)) ∧ (((!((((WEdit.at_ (List.getD (Edit.words a) (Int.toNat x5) (WEdit.mk 0 0 0 0))) : Int) == (WEdit.at_ (List.getD (Edit.words b) (Int.toNat x5) (WEdit.mk 0 0 0 0)))) && ((((WEdit.mask (List.getD (Edit.words a) (Int.toNat x5) (WEdit.mk 0 0 0 0))) : Int) == (WEdit.mask (List.getD (Edit.words b) (Int.toNat x5) (WEdit.mk 0 0 0 0)))) && ((((WEdit.old (List.getD (Edit.words a) (Int.toNat x5) (WEdit.mk 0 0 0 0))) : Int) == (WEdit.old (List.getD (Edit.words b) (Int.toNat x5) (WEdit.mk 0 0 0 0)))) && ((((WEdit.new (List.getD (Edit.words a) (Int.toNat x5) (WEdit.mk 0 0 0 0))) : Int) == (WEdit.new (List.getD (Edit.words b) (Int.toNat x5) (WEdit.mk 0 0 0 0)))) && true))))) = true → (Q .ret (⟨[(4, .c (.bool false))], [], []⟩ : LSt U))) ∧ ((!((((WEdit.at_ (List.getD (Edit.words a) (Int.toNat x5) (WEdit.mk 0 0 0 0))) : Int) == (WEdit.at_ (List.getD (Edit.words b) (Int.toNat x5) (WEdit.mk 0 0 0 0)))) && ((((WEdit.mask (List.getD (Edit.words a) (Int.toNat x5) (WEdit.mk 0 0 0 0))) : Int) == (WEdit.mask (List.getD (Edit.words b) (Int.toNat x5) (WEdit.mk 0 0 0 0)))) && ((((WEdit.old (List.getD (Edit.words a) (Int.toNat x5) (WEdit.mk 0 0 0 0))) : Int) == (WEdit.old (List.getD (Edit.words b) (Int.toNat x5) (WEdit.mk 0 0 0 0)))) && ((((WEdit.new (List.getD (Edit.words a) (Int.toNat x5) (WEdit.mk 0 0 0 0))) : Int) == (WEdit.new (List.getD (Edit.words b) (Int.toNat x5) (WEdit.mk 0 0 0 0)))) && true))))) = false → (InR ((x5 : Int) + 1)) ∧ (N0 (head62_0 a b ((x5 : Int) + 1)))))) ∧ ((decide ((x5 : Int) < ((Edit.words a).length : Int))) = false → (LoopWp (awp cfg (know (know62 N)) (drawOk cfg (know (know62 N))) Try.f62.ntmps lv62 (cd Try.f62 [1, 1, 1, 0, 1, 0, 0])) (head62_1 a b 0) (AExit.inBlock 2 (seqK cfg (know (know62 N)) (drawOk cfg (know (know62 N))) Try.f62.ntmps lv62 (cd Try.f62 [1, 1, 1, 1]) Q)))))) := by kernel_rfl
  exact e_.mpr ⟨fun c_8 => ⟨(h.1 c_8).1, (h.1 c_8).2.1, ⟨fun c_9 => ((h.1 c_8).2.2.1 c_9), fun c_9 => ⟨((h.1 c_8).2.2.2 c_9).1, ((h.1 c_8).2.2.2 c_9).2⟩⟩⟩, fun c_8 => (h.2 c_8)⟩
abbrev W62_l1 (N : Nat) (a : Edit) (b : Edit) (x6_a : Int) (N1 : LSt U → Prop) (Q : AExit → LSt U → Prop) : Prop := awp cfg (know (know62 N)) (drawOk cfg (know (know62 N))) Try.f62.ntmps lv62 (cd Try.f62 [1, 1, 1, 0, 1, 0, 0]) (head62_1 a b x6_a) (AExit.then N1 (AExit.inBlock 2 (seqK cfg (know (know62 N)) (drawOk cfg (know (know62 N))) Try.f62.ntmps lv62 (cd Try.f62 [1, 1, 1, 1]) Q)))
/-- the loop at [1, 1, 1, 0, 1, 0] -/
theorem vc62_l1 (N : Nat) (a : Edit) (b : Edit) (x6_a : Int) (N1 : LSt U → Prop) (Q : AExit → LSt U → Prop) (h : ∀ y_1, y_1 = (List.getD (Edit.kids a) (Int.toNat x6_a) (KidOf.mk 0 Edit.nil)) → ∀ y_2, y_2 = (List.getD (Edit.kids b) (Int.toNat x6_a) (KidOf.mk 0 Edit.nil)) → ∀ y_3, y_3 = ((KidOf.e y_1)) → ∀ y_4, y_4 = ((KidOf.e y_2)) → ((decide ((x6_a : Int) < ((Edit.kids a).length : Int))) = true → ((0 : Int) ≤ x6_a ∧ x6_a < ((Edit.kids a).length : Int)) ∧ ((0 : Int) ≤ x6_a ∧ x6_a < ((Edit.kids b).length : Int)) ∧ ((!(((KidOf.at_ y_1) : Int) != (KidOf.at_ y_2))) = true → (0 : Int) ≤ x6_a ∧ x6_a < ((Edit.kids a).length : Int)) ∧ ((!(((KidOf.at_ y_1) : Int) != (KidOf.at_ y_2))) = true → (0 : Int) ≤ x6_a ∧ x6_a < ((Edit.kids b).length : Int)) ∧ ((!(((KidOf.at_ y_1) : Int) != (KidOf.at_ y_2))) = true → pre62 (y_3, y_4, ())) ∧ ((!(((KidOf.at_ y_1) : Int) != (KidOf.at_ y_2))) = true → mu62 (y_3, y_4, ()) < N) ∧ (((bif (((KidOf.at_ y_1) : Int) != (KidOf.at_ y_2)) then true else (!(eqX (nE y_3) (nE y_4)))) = true → Q .ret (⟨[(4, .c (.bool false))], [], []⟩ : LSt U)) ∧ ((bif (((KidOf.at_ y_1) : Int) != (KidOf.at_ y_2)) then true else (!(eqX (nE y_3) (nE y_4)))) = false → (InR ((x6_a : Int) + 1)) ∧ (N1 (head62_1 a b ((x6_a : Int) + 1)))))) ∧ ((decide ((x6_a : Int) < ((Edit.kids a).length : Int))) = false → LoopWp (awp cfg (know (know62 N)) (drawOk cfg (know (know62 N))) Try.f62.ntmps lv62 (cd Try.f62 [1, 1, 1, 1, 0, 1, 0, 0])) (head62_2 a b 0) (AExit.inBlock 4 (seqK cfg (know (know62 N)) (drawOk cfg (know (know62 N))) Try.f62.ntmps lv62 (cd Try.f62 [1, 1, 1, 1, 1]) Q)))) :
    W62_l1 N a b x6_a N1 Q := by
  have e_ : (awp cfg (know (know62 N)) (drawOk cfg (know (know62 N))) Try.f62.ntmps lv62 (cd Try.f62 [1, 1, 1, 0, 1, 0, 0]) (head62_1 a b x6_a) (AExit.then N1 (AExit.inBlock 2 (seqK cfg (know (know62 N)) (drawOk cfg (know (know62 N))) Try.f62.ntmps lv62 (cd Try.f62 [1, 1, 1, 1]) Q)))) = (let y_1 := (List.getD (Edit.kids a) (Int.toNat x6_a) (KidOf.mk 0 Edit.nil)); let y_2 := (List.getD (Edit.kids b) (Int.toNat x6_a) (KidOf.mk 0 Edit.nil)); let y_3 := (reEdit (KidOf.e y_1)); let y_4 := (reEdit (KidOf.e y_2)); (((decide ((x6_a : Int) < ((Edit.kids a).length : Int))) = true → ((0 : Int) ≤ x6_a ∧ x6_a < ((Edit.kids a).length : Int)) ∧ ((0 : Int) ≤ x6_a ∧ x6_a < ((Edit.kids b).length : Int)) ∧ ((!(((KidOf.at_ y_1) : Int) != (KidOf.at_ y_2))) = true → (!(((KidOf.at_ y_1) : Int) != (KidOf.at_ y_2))) = true) ∧ ((!(((KidOf.at_ y_1) : Int) != (KidOf.at_ y_2))) = true → (!(((KidOf.at_ y_1) : Int) != (KidOf.at_ y_2))) = true) ∧ ((!(((KidOf.at_ y_1) : Int) != (KidOf.at_ y_2))) = true → (!(((KidOf.at_ y_1) : Int) != (KidOf.at_ y_2))) = true) ∧ ((!(((KidOf.at_ y_1) : Int) != (KidOf.at_ y_2))) = true → (0 : Int) ≤ x6_a ∧ x6_a < ((Edit.kids a).length : Int)) ∧ ((!(((KidOf.at_ y_1) : Int) != (KidOf.at_ y_2))) = true → (!(((KidOf.at_ y_1) : Int) != (KidOf.at_ y_2))) = true) ∧ ((!(((KidOf.at_ y_1) : Int) != (KidOf.at_ y_2))) = true → (!(((KidOf.at_ y_1) : Int) != (KidOf.at_ y_2))) = true) ∧ ((!(((KidOf.at_ y_1) : Int) != (KidOf.at_ y_2))) = true → (!(((KidOf.at_ y_1) : Int) != (KidOf.at_ y_2))) = true) ∧ ((!(((KidOf.at_ y_1) : Int) != (KidOf.at_ y_2))) = true → (!(((KidOf.at_ y_1) : Int) != (KidOf.at_ y_2))) = true) ∧ ((!(((KidOf.at_ y_1) : Int) != (KidOf.at_ y_2))) = true → (!(((KidOf.at_ y_1) : Int) != (KidOf.at_ y_2))) = true) ∧ ((!(((KidOf.at_ y_1) : Int) != (KidOf.at_ y_2))) = true → (0 : Int) ≤ x6_a ∧ x6_a < ((Edit.kids b).length : Int)) ∧ ((!(((KidOf.at_ y_1) : Int) != (KidOf.at_ y_2))) = true → (!(((KidOf.at_ y_1) : Int) != (KidOf.at_ y_2))) = true) ∧ ((!(((KidOf.at_ y_1) : Int) != (KidOf.at_ y_2))) = true → (!(((KidOf.at_ y_1) : Int) != (KidOf.at_ y_2))) = true) ∧ ((!(((KidOf.at_ y_1) : Int) != (KidOf.at_ y_2))) = true → (!(((KidOf.at_ y_1) : Int) != (KidOf.at_ y_2))) = true) ∧ ((!(((KidOf.at_ y_1) : Int) != (KidOf.at_ y_2))) = true → (!(((KidOf.at_ y_1) : Int) != (KidOf.at_ y_2))) = true) ∧ ((!(((KidOf.at_ y_1) : Int) != (KidOf.at_ y_2))) = true → pre62 (y_3, y_4, ())) ∧ ((!(((KidOf.at_ y_1) : Int) != (KidOf.at_ y_2))) = true → mu62 (y_3, y_4, ()) < N) ∧ ((!(((KidOf.at_ y_1) : Int) != (KidOf.at_ y_2))) = true → (!(((KidOf.at_ y_1) : Int) != (KidOf.at_ y_2))) = true) ∧ (((((KidOf.at_ y_1) : Int) != (KidOf.at_ y_2)) = false → (!(((KidOf.at_ y_1) : Int) != (KidOf.at_ y_2))) = true)) ∧ (((bif (((KidOf.at_ y_1) : Int) != (KidOf.at_ y_2)) then true else (!(eqX (nE y_3) (nE y_4)))) = true → (Q .ret (⟨[(4, .c (.bool false))], [], []⟩ : LSt U))) ∧ ((bif (((KidOf.at_ y_1) : Int) != (KidOf.at_ y_2)) then true else (!(eqX (nE y_3) (nE y_4)))) = false → (InR ((x6_a : Int) + 1)) ∧ (N1 (head62_1 a b ((x6_a : Int) + 1)))))) ∧ ((decide ((x6_a : Int) < ((Edit.kids a).length : Int))) = false → (LoopWp (awp cfg (know (know62 N)) (drawOk cfg (know (know62 N))) Try.f62.ntmps lv62 (cd Try.f62 [1, 1, 1, 1, 0, 1, 0, 0])) (head62_2 a b 0) (AExit.inBlock 4 (seqK cfg (know (know62 N)) (drawOk cfg (know (know62 N))) Try.f62.ntmps lv62 (cd Try.f62 [1, 1, 1, 1, 1]) Q)))))) := by kernel_rfl
  exact e_.mpr (by intro y_1 y_2 y_3 y_4; exact ⟨fun c_10 => ⟨((h y_1 rfl y_2 rfl y_3 (reEdit_eq _) y_4 (reEdit_eq _)).1 c_10).1, ((h y_1 rfl y_2 rfl y_3 (reEdit_eq _) y_4 (reEdit_eq _)).1 c_10).2.1, fun x => x, fun x => x, fun x => x, ((h y_1 rfl y_2 rfl y_3 (reEdit_eq _) y_4 (reEdit_eq _)).1 c_10).2.2.1, fun x => x, fun x => x, fun x => x, fun x => x, fun x => x, ((h y_1 rfl y_2 rfl y_3 (reEdit_eq _) y_4 (reEdit_eq _)).1 c_10).2.2.2.1, fun x => x, fun x => x, fun x => x, fun x => x, ((h y_1 rfl y_2 rfl y_3 (reEdit_eq _) y_4 (reEdit_eq _)).1 c_10).2.2.2.2.1, ((h y_1 rfl y_2 rfl y_3 (reEdit_eq _) y_4 (reEdit_eq _)).1 c_10).2.2.2.2.2.1, fun x => x, (by generalize (((KidOf.at_ y_1) : Int) != (KidOf.at_ y_2)) = b0; revert b0; decide), ⟨fun c_11 => (((h y_1 rfl y_2 rfl y_3 (reEdit_eq _) y_4 (reEdit_eq _)).1 c_10).2.2.2.2.2.2.1 c_11), fun c_11 => ⟨(((h y_1 rfl y_2 rfl y_3 (reEdit_eq _) y_4 (reEdit_eq _)).1 c_10).2.2.2.2.2.2.2 c_11).1, (((h y_1 rfl y_2 rfl y_3 (reEdit_eq _) y_4 (reEdit_eq _)).1 c_10).2.2.2.2.2.2.2 c_11).2⟩⟩⟩, fun c_10 => ((h y_1 rfl y_2 rfl y_3 (reEdit_eq _) y_4 (reEdit_eq _)).2 c_10)⟩)
abbrev W62_l2 (N : Nat) (a : Edit) (b : Edit) (x7_b : Int) (N2 : LSt U → Prop) (Q : AExit → LSt U → Prop) : Prop := awp cfg (know (know62 N)) (drawOk cfg (know (know62 N))) Try.f62.ntmps lv62 (cd Try.f62 [1, 1, 1, 1, 0, 1, 0, 0]) (head62_2 a b x7_b) (AExit.then N2 (AExit.inBlock 4 (seqK cfg (know (know62 N)) (drawOk cfg (know (know62 N))) Try.f62.ntmps lv62 (cd Try.f62 [1, 1, 1, 1, 1]) Q)))
/-- the loop at [1, 1, 1, 1, 0, 1, 0] -/
theorem vc62_l2 (N : Nat) (a : Edit) (b : Edit) (x7_b : Int) (N2 : LSt U → Prop) (Q : AExit → LSt U → Prop) (h : ∀ y_1, y_1 = (List.getD (Edit.ops a) (Int.toNat x7_b) Op.nil) → ∀ y_2, y_2 = (List.getD (Edit.ops b) (Int.toNat x7_b) Op.nil) → ∀ y_3, y_3 = ((OpOf.e y_1)) → ∀ y_4, y_4 = ((OpOf.e y_2)) → ((decide ((x7_b : Int) < ((Edit.ops a).length : Int))) = true → ((0 : Int) ≤ x7_b ∧ x7_b < ((Edit.ops a).length : Int)) ∧ ((0 : Int) ≤ x7_b ∧ x7_b < ((Edit.ops b).length : Int)) ∧ (((!(bif (((OpOf.kind y_1) : Int) != (OpOf.kind y_2)) then true else (((OpOf.n y_1) : Int) != (OpOf.n y_2)))) = true → pre97 ((OpOf.l y_1), (OpOf.l y_2), ())) ∧ ((!(bif (bif (((OpOf.kind y_1) : Int) != (OpOf.kind y_2)) then true else (((OpOf.n y_1) : Int) != (OpOf.n y_2))) then true else (!(eqX (normsT (OpOf.l y_1)) (normsT (OpOf.l y_2)))))) = true → pre62 (y_3, y_4, ())) ∧ ((!(bif (bif (((OpOf.kind y_1) : Int) != (OpOf.kind y_2)) then true else (((OpOf.n y_1) : Int) != (OpOf.n y_2))) then true else (!(eqX (normsT (OpOf.l y_1)) (normsT (OpOf.l y_2)))))) = true → mu62 (y_3, y_4, ()) < N) ∧ (((bif (bif (bif (((OpOf.kind y_1) : Int) != (OpOf.kind y_2)) then true else (((OpOf.n y_1) : Int) != (OpOf.n y_2))) then true else (!(eqX (normsT (OpOf.l y_1)) (normsT (OpOf.l y_2))))) then true else (!(eqX (nE y_3) (nE y_4)))) = true → Q .ret (⟨[(4, .c (.bool false))], [], []⟩ : LSt U)) ∧ ((bif (bif (bif (((OpOf.kind y_1) : Int) != (OpOf.kind y_2)) then true else (((OpOf.n y_1) : Int) != (OpOf.n y_2))) then true else (!(eqX (normsT (OpOf.l y_1)) (normsT (OpOf.l y_2))))) then true else (!(eqX (nE y_3) (nE y_4)))) = false → (InR ((x7_b : Int) + 1)) ∧ (N2 (head62_2 a b ((x7_b : Int) + 1))))))) ∧ ((decide ((x7_b : Int) < ((Edit.ops a).length : Int))) = false → Q .ret (⟨[(4, .c (.bool true))], [], []⟩ : LSt U))) :
    W62_l2 N a b x7_b N2 Q := by
  have e_ : (awp cfg (know (know62 N)) (drawOk cfg (know (know62 N))) Try.f62.ntmps lv62 (cd Try.f62 [1, 1, 1, 1, 0, 1, 0, 0]) (head62_2 a b x7_b) (AExit.then N2 (AExit.inBlock 4 (seqK cfg (know (know62 N)) (drawOk cfg (know (know62 N))) Try.f62.ntmps lv62 (cd Try.f62 [1, 1, 1, 1, 1]) Q)))) = (let y_1 := (List.getD (Edit.ops a) (Int.toNat x7_b) Op.nil); let y_2 := (List.getD (Edit.ops b) (Int.toNat x7_b) Op.nil); let y_3 := (reEdit (OpOf.e y_1)); let y_4 := (reEdit (OpOf.e y_2)); (((decide ((x7_b : Int) < ((Edit.ops a).length : Int))) = true → ((0 : Int) ≤ x7_b ∧ x7_b < ((Edit.ops a).length : Int)) ∧ ((0 : Int) ≤ x7_b ∧ x7_b < ((Edit.ops b).length : Int)) ∧ (((!(((OpOf.kind y_1) : Int) != (OpOf.kind y_2))) = true → (!(((OpOf.kind y_1) : Int) != (OpOf.kind y_2))) = true) ∧ ((!(((OpOf.kind y_1) : Int) != (OpOf.kind y_2))) = true → (!(((OpOf.kind y_1) : Int) != (OpOf.kind y_2))) = true) ∧ ((!(((OpOf.kind y_1) : Int) != (OpOf.kind y_2))) = true → (!(((OpOf.kind y_1) : Int) != (OpOf.kind y_2))) = true) ∧ ((!(((OpOf.kind y_1) : Int) != (OpOf.kind y_2))) = true → (!(((OpOf.kind y_1) : Int) != (OpOf.kind y_2))) = true) ∧ (((((OpOf.kind y_1) : Int) != (OpOf.kind y_2)) = false → (!(((OpOf.kind y_1) : Int) != (OpOf.kind y_2))) = true)) ∧ ((!(bif (((OpOf.kind y_1) : Int) != (OpOf.kind y_2)) then true else (((OpOf.n y_1) : Int) != (OpOf.n y_2)))) = true → (!(bif (((OpOf.kind y_1) : Int) != (OpOf.kind y_2)) then true else (((OpOf.n y_1) : Int) != (OpOf.n y_2)))) = true) ∧ ((!(bif (((OpOf.kind y_1) : Int) != (OpOf.kind y_2)) then true else (((OpOf.n y_1) : Int) != (OpOf.n y_2)))) = true → (!(bif (((OpOf.kind y_1) : Int) != (OpOf.kind y_2)) then true else (((OpOf.n y_1) : Int) != (OpOf.n y_2)))) = true) ∧ ((!(bif (((OpOf.kind y_1) : Int) != (OpOf.kind y_2)) then true else (((OpOf.n y_1) : Int) != (OpOf.n y_2)))) = true → (!(bif (((OpOf.kind y_1) : Int) != (OpOf.kind y_2)) then true else (((OpOf.n y_1) : Int) != (OpOf.n y_2)))) = true) ∧ ((!(bif (((OpOf.kind y_1) : Int) != (OpOf.kind y_2)) then true else (((OpOf.n y_1) : Int) != (OpOf.n y_2)))) = true → (!(bif (((OpOf.kind y_1) : Int) != (OpOf.kind y_2)) then true else (((OpOf.n y_1) : Int) != (OpOf.n y_2)))) = true) ∧ ((!(bif (((OpOf.kind y_1) : Int) != (OpOf.kind y_2)) then true else (((OpOf.n y_1) : Int) != (OpOf.n y_2)))) = true → pre97 ((OpOf.l y_1), (OpOf.l y_2), ())) ∧ ((!(bif (((OpOf.kind y_1) : Int) != (OpOf.kind y_2)) then true else (((OpOf.n y_1) : Int) != (OpOf.n y_2)))) = true → (!(bif (((OpOf.kind y_1) : Int) != (OpOf.kind y_2)) then true else (((OpOf.n y_1) : Int) != (OpOf.n y_2)))) = true) ∧ (((bif (((OpOf.kind y_1) : Int) != (OpOf.kind y_2)) then true else (((OpOf.n y_1) : Int) != (OpOf.n y_2))) = false → (!(bif (((OpOf.kind y_1) : Int) != (OpOf.kind y_2)) then true else (((OpOf.n y_1) : Int) != (OpOf.n y_2)))) = true)) ∧ ((!(bif (bif (((OpOf.kind y_1) : Int) != (OpOf.kind y_2)) then true else (((OpOf.n y_1) : Int) != (OpOf.n y_2))) then true else (!(eqX (normsT (OpOf.l y_1)) (normsT (OpOf.l y_2)))))) = true → (!(bif (bif (((OpOf.kind y_1) : Int) != (OpOf.kind y_2)) then true else (((OpOf.n y_1) : Int) != (OpOf.n y_2))) then true else (!(eqX (normsT (OpOf.l y_1)) (normsT (OpOf.l y_2)))))) = true) ∧ ((!(bif (bif (((OpOf.kind y_1) : Int) != (OpOf.kind y_2)) then true else (((OpOf.n y_1) : Int) != (OpOf.n y_2))) then true else (!(eqX (normsT (OpOf.l y_1)) (normsT (OpOf.l y_2)))))) = true → (!(bif (bif (((OpOf.kind y_1) : Int) != (OpOf.kind y_2)) then true else (((OpOf.n y_1) : Int) != (OpOf.n y_2))) then true else (!(eqX (normsT (OpOf.l y_1)) (normsT (OpOf.l y_2)))))) = true) ∧ ((!(bif (bif (((OpOf.kind y_1) : Int) != (OpOf.kind y_2)) then true else (((OpOf.n y_1) : Int) != (OpOf.n y_2))) then true else (!(eqX (normsT (OpOf.l y_1)) (normsT (OpOf.l y_2)))))) = true → (!(bif (bif (((OpOf.kind y_1) : Int) != (OpOf.kind y_2)) then true else (((OpOf.n y_1) : Int) != (OpOf.n y_2))) then true else (!(eqX (normsT (OpOf.l y_1)) (normsT (OpOf.l y_2)))))) = true) ∧ ((!(bif (bif (((OpOf.kind y_1) : Int) != (OpOf.kind y_2)) then true else (((OpOf.n y_1) : Int) != (OpOf.n y_2))) then true else (!(eqX (normsT (OpOf.l y_1)) (normsT (OpOf.l y_2)))))) = true → (!(bif (bif (((OpOf.kind y_1) : Int) != (OpOf.kind y_2)) then true else (((OpOf.n y_1) : Int) != (OpOf.n y_2))) then true else (!(eqX (normsT (OpOf.l y_1)) (normsT (OpOf.l y_2)))))) = true) ∧ ((!(bif (bif (((OpOf.kind y_1) : Int) != (OpOf.kind y_2)) then true else (((OpOf.n y_1) : Int) != (OpOf.n y_2))) then true else (!(eqX (normsT (OpOf.l y_1)) (normsT (OpOf.l y_2)))))) = true → pre62 (y_3, y_4, ())) ∧ ((!(bif (bif (((OpOf.kind y_1) : Int) != (OpOf.kind y_2)) then true else (((OpOf.n y_1) : Int) != (OpOf.n y_2))) then true else (!(eqX (normsT (OpOf.l y_1)) (normsT (OpOf.l y_2)))))) = true → mu62 (y_3, y_4, ()) < N) ∧ ((!(bif (bif (((OpOf.kind y_1) : Int) != (OpOf.kind y_2)) then true else (((OpOf.n y_1) : Int) != (OpOf.n y_2))) then true else (!(eqX (normsT (OpOf.l y_1)) (normsT (OpOf.l y_2)))))) = true → (!(bif (bif (((OpOf.kind y_1) : Int) != (OpOf.kind y_2)) then true else (((OpOf.n y_1) : Int) != (OpOf.n y_2))) then true else (!(eqX (normsT (OpOf.l y_1)) (normsT (OpOf.l y_2)))))) = true) ∧ (((bif (bif (((OpOf.kind y_1) : Int) != (OpOf.kind y_2)) then true else (((OpOf.n y_1) : Int) != (OpOf.n y_2))) then true else (!(eqX (normsT (OpOf.l y_1)) (normsT (OpOf.l y_2))))) = false → (!(bif (bif (((OpOf.kind y_1) : Int) != (OpOf.kind y_2)) then true else (((OpOf.n y_1) : Int) != (OpOf.n y_2))) then true else (!(eqX (normsT (OpOf.l y_1)) (normsT (OpOf.l y_2)))))) = true)) ∧ (((bif (bif (bif (((OpOf.kind y_1) : Int) != (OpOf.kind y_2)) then true else (((OpOf.n y_1) : Int) != (OpOf.n y_2))) then true else (!(eqX (normsT (OpOf.l y_1)) (normsT (OpOf.l y_2))))) then true else (!(eqX (nE y_3) (nE y_4)))) = true → (Q .ret (⟨[(4, .c (.bool false))], [], []⟩ : LSt U))) ∧ ((bif (bif (bif (((OpOf.kind y_1) : Int) != (OpOf.kind y_2)) then true else (((OpOf.n y_1) : Int) != (OpOf.n y_2))) then true else (!(eqX (normsT (OpOf.l y_1)) (normsT (OpOf.l y_2))))) then true else (!(eqX (nE y_3) (nE y_4)))) = false → (InR ((x7_b : Int) + 1)) ∧ (N2 (head62_2 a b ((x7_b : Int) + 1))))))) ∧ ((decide ((x7_b : Int) < ((Edit.ops a).length : Int))) = false → (Q .ret (⟨[(4, .c (.bool true))], [], []⟩ : LSt U))))) := by kernel_rfl
  exact e_.mpr (by intro y_1 y_2 y_3 y_4; exact ⟨fun c_12 => ⟨((h y_1 rfl y_2 rfl y_3 (reEdit_eq _) y_4 (reEdit_eq _)).1 c_12).1, ((h y_1 rfl y_2 rfl y_3 (reEdit_eq _) y_4 (reEdit_eq _)).1 c_12).2.1, ⟨fun x => x, fun x => x, fun x => x, fun x => x, (by generalize (((OpOf.kind y_1) : Int) != (OpOf.kind y_2)) = b0; revert b0; decide), fun x => x, fun x => x, fun x => x, fun x => x, ((h y_1 rfl y_2 rfl y_3 (reEdit_eq _) y_4 (reEdit_eq _)).1 c_12).2.2.1, fun x => x, (by generalize (((OpOf.kind y_1) : Int) != (OpOf.kind y_2)) = b0; generalize (((OpOf.n y_1) : Int) != (OpOf.n y_2)) = b1; revert b0 b1; decide), fun x => x, fun x => x, fun x => x, fun x => x, ((h y_1 rfl y_2 rfl y_3 (reEdit_eq _) y_4 (reEdit_eq _)).1 c_12).2.2.2.1, ((h y_1 rfl y_2 rfl y_3 (reEdit_eq _) y_4 (reEdit_eq _)).1 c_12).2.2.2.2.1, fun x => x, (by generalize (eqX (normsT (OpOf.l y_1)) (normsT (OpOf.l y_2))) = b0; generalize (((OpOf.kind y_1) : Int) != (OpOf.kind y_2)) = b1; generalize (((OpOf.n y_1) : Int) != (OpOf.n y_2)) = b2; revert b0 b1 b2; decide), ⟨fun c_13 => (((h y_1 rfl y_2 rfl y_3 (reEdit_eq _) y_4 (reEdit_eq _)).1 c_12).2.2.2.2.2.1 c_13), fun c_13 => ⟨(((h y_1 rfl y_2 rfl y_3 (reEdit_eq _) y_4 (reEdit_eq _)).1 c_12).2.2.2.2.2.2 c_13).1, (((h y_1 rfl y_2 rfl y_3 (reEdit_eq _) y_4 (reEdit_eq _)).1 c_12).2.2.2.2.2.2 c_13).2⟩⟩⟩⟩, fun c_12 => ((h y_1 rfl y_2 rfl y_3 (reEdit_eq _) y_4 (reEdit_eq _)).2 c_12)⟩)
def Body62 (N : Nat) (a : Edit) (b : Edit)  : Prop := awp cfg (know (know62 N)) (drawOk cfg (know (know62 N))) Try.f62.ntmps lv62 (cd Try.f62 []) (entry (args62.can (a, b, ())) []) (EndsQ cfg Try.f62.ntmps Try.f62.results.toList (res62 (a, b, ())) [])
theorem make62 (c36 : Contract Try.prog cfg 36 spec36) (c97 : Contract Try.prog cfg 97 spec97) (hb : ∀ (N : Nat) (a : Edit) (b : Edit) (_ : Unit), pre62 (a, b, ()) → mu62 (a, b, ()) < N + 1 → Body62 N a b) : Contract Try.prog cfg 62 spec62 :=
  contract_rec (μ := mu62) (l := [(36, spec36), (97, spec97)]) cfgOk rfl (⟨c36, c97, trivial⟩) lv62 Try.func62 rfl rfl 2 (fun _ => rfl) (by decide) (fun N ⟨a, b, _⟩ => hb N a b ())

/-! cento/centoref23.round -/
end Go.AM.Ytlahjnelghpmeaa

namespace Go.AM.Ytlahjnelghpmeaa
open Go.AM Go.Proofs

/-! ## what means the same -/
theorem map_eq_getD {α β : Type} {f : α → β} (d : α) {a b : List α} (hl : a.length = b.length) (h : ∀ i : Nat, i < a.length → f (a.getD i d) = f (b.getD i d)) : a.map f = b.map f := by
  apply List.ext_getElem (by simpa using hl)
  intro i h1 h2
  have h1' : i < a.length := by simpa using h1
  have h2' : i < b.length := by simpa using h2
  have := h i h1'
  simpa [List.getD_eq_getElem?_getD, List.getElem?_eq_getElem h1', List.getElem?_eq_getElem h2'] using this

theorem getD_map_eq {α β : Type} {f : α → β} {d : α} {a b : List α} (h : a.map f = b.map f) (i : Nat) : f (a.getD i d) = f (b.getD i d) := by
  have e := congrArg (fun l => l[i]?.getD (f d)) h
  simp only [List.getElem?_map] at e
  rw [List.getD_eq_getElem?_getD, List.getD_eq_getElem?_getD]
  cases h1 : a[i]? <;> cases h2 : b[i]? <;> simp_all

theorem nKs_map : ∀ (ks : List Kid), nKs ks = ks.map nKid
  | [] => rfl
  | k :: r => by simp only [nKs, List.map_cons, nKs_map r]
theorem nOs_map : ∀ (os : List Op), nOs os = os.map nOp
  | [] => rfl
  | o :: r => by simp only [nOs, List.map_cons, nOs_map r]
theorem nE_at (e : Edit) : nE e = .mk e.kind (normT e.old) (normT e.new) e.words (nKs e.kids) e.list (nOs e.ops) := by cases e; rfl
theorem nKid_at (k : Kid) : nKid k = ⟨k.at_, nE k.e⟩ := by cases k; rfl
theorem nOp_at (o : Op) : nOp o = ⟨o.kind, o.n, normsT o.l, nE o.e⟩ := by cases o; rfl

theorem c97 : Contract Try.prog cfg 97 spec97 := by
  refine make97 c36 ?_
  intro a b _ hp
  simp only [pre97] at hp
  refine vc97 _ _ _ ?_
  (simp only [bif_tl, bif_fr, bif_tlf, bif_frf, Bool.not_eq_true', Bool.not_eq_false', decide_eq_true_eq, decide_eq_false_iff_not, beq_iff_eq, beq_eq_false_iff_ne, bne_iff_ne, ne_eq, bne_eq_false_iff_eq, Bool.or_eq_true, Bool.and_eq_true, Bool.or_eq_false_iff, Bool.and_eq_false_imp])
  refine ⟨fun hc => ends_bool rfl (eqX_no (a := normsT a) (b := normsT b) (fun h => hc (by have := congrArg List.length h; simp [normsT] at this; omega))).symm, fun hc => ?_⟩
  have hl : a.length = b.length := by omega
  have hla := massK_len a
  refine loop_rule (ι := Int) (fun i => head97_0 a b i) (fun i => 0 ≤ i ∧ i ≤ a.length ∧ ∀ j : Nat, (j : Int) < i → normT (a.getD j Tree.nil) = normT (b.getD j Tree.nil)) (fun i => ((a.length : Int) - i).toNat) 0 rfl ⟨by omega, by omega, by intro j hj; omega⟩ ?_
  rintro i ⟨h1, h2, h3⟩
  refine vc97_l0 _ _ _ _ _ ?_
  (simp only [bif_tl, bif_fr, bif_tlf, bif_frf, Bool.not_eq_true', Bool.not_eq_false', decide_eq_true_eq, decide_eq_false_iff_not, beq_iff_eq, beq_eq_false_iff_ne, bne_iff_ne, ne_eq, bne_eq_false_iff_eq, Bool.or_eq_true, Bool.and_eq_true, Bool.or_eq_false_iff, Bool.and_eq_false_imp])
  (simp only [Tree.eta, Edit.eta, Tree.kind_mk, Tree.words_mk, Tree.kids_mk])
  refine ⟨fun hi => ⟨⟨h1, hi⟩, ⟨h1, by omega⟩, ?_, fun hq => ?_, fun hq => ⟨by unfold InR; omega, i + 1, rfl, ⟨by omega, by omega, ?_⟩, by omega⟩⟩, fun hi => ?_⟩
  · have := massK_mem (mem_getD (l := a) (i := i.toNat) (by omega) Tree.nil)
    have := massK_mem (mem_getD (l := b) (i := i.toNat) (by omega) Tree.nil)
    simp only [pre36]; omega
  · refine ends_bool rfl (eqX_no (a := normsT a) (b := normsT b) (fun h => ?_)).symm
    have h5 := getD_map_eq (d := Tree.nil) h i.toNat
    rw [sameT_false] at hq
    exact hq h5
  · intro j hj
    by_cases hj2 : (j : Int) < i
    · exact h3 j hj2
    · rw [sameT_true, show i.toNat = j by omega] at hq
      exact hq
  · exact ends_bool rfl (eqX_iff (a := normsT a) (b := normsT b).2 (map_eq_getD Tree.nil hl (fun j hj => h3 j (by omega)))).symm

theorem c62 : Contract Try.prog cfg 62 spec62 := by
  refine make62 c36 c97 ?_
  intro N a b _ hp hN
  simp only [pre62, mu62] at hp hN
  have hme := len_massE a
  have hkl := massKs_len a.kids
  have hol := massOs_len a.ops
  have hme' := len_massE b
  have ea := nE_at a
  have eb := nE_at b
  have parts : nE a = nE b → a.kind = b.kind ∧ normT a.old = normT b.old ∧ normT a.new = normT b.new ∧ a.words = b.words ∧ a.kids.map nKid = b.kids.map nKid ∧ a.list = b.list ∧ a.ops.map nOp = b.ops.map nOp := by
    intro h
    rw [ea, eb] at h
    injection h with h1 h2 h3 h4 h5 h6 h7
    rw [nKs_map, nKs_map] at h5
    rw [nOs_map, nOs_map] at h7
    exact ⟨h1, h2, h3, h4, h5, h6, h7⟩
  refine vc62 N a b _ ?_
  rintro y1 rfl y2 rfl y3 rfl y4 rfl
  (simp only [bif_tl, bif_fr, bif_tlf, bif_frf, Bool.not_eq_true', Bool.not_eq_false', decide_eq_true_eq, decide_eq_false_iff_not, beq_iff_eq, beq_eq_false_iff_ne, bne_iff_ne, ne_eq, bne_eq_false_iff_eq, Bool.or_eq_true, Bool.and_eq_true, Bool.or_eq_false_iff, Bool.and_eq_false_imp])
  refine ⟨fun _ => ?_, fun _ => ?_, fun hc => ?_, fun hc => ?_⟩
  · simp only [pre36]; omega
  · simp only [pre36]; omega
  · refine ends_bool rfl (eqX_no (a := nE a) (b := nE b) (fun h => ?_)).symm
    obtain ⟨h1, h2, h3, h4, h5, h6, h7⟩ := parts h
    have l4 := congrArg List.length h4
    have l5 := congrArg List.length h5
    have l7 := congrArg List.length h7
    simp only [List.length_map] at l5 l7
    rw [sameT_false, sameT_false, h1, h2, h3, h6, l4, l5, l7] at hc
    simp at hc
  · simp only [sameT_true, Classical.not_not] at hc
    obtain ⟨⟨⟨⟨⟨⟨h1, h2⟩, h3⟩, h4⟩, h5⟩, h6⟩, h7⟩ := hc
    refine loop_rule (ι := Int) (fun i => head62_0 a b i) (fun i => 0 ≤ i ∧ i ≤ a.words.length ∧ ∀ j : Nat, (j : Int) < i → a.words.getD j (WEdit.mk 0 0 0 0) = b.words.getD j (WEdit.mk 0 0 0 0)) (fun i => ((a.words.length : Int) - i).toNat) 0 rfl ⟨by omega, by omega, by intro j hj; omega⟩ ?_
    rintro i ⟨g1, g2, g3⟩
    refine vc62_l0 _ _ _ _ _ _ ?_
    (simp only [bif_tl, bif_fr, bif_tlf, bif_frf, Bool.not_eq_true', Bool.not_eq_false', decide_eq_true_eq, decide_eq_false_iff_not, beq_iff_eq, beq_eq_false_iff_ne, bne_iff_ne, ne_eq, bne_eq_false_iff_eq, Bool.or_eq_true, Bool.and_eq_true, Bool.or_eq_false_iff, Bool.and_eq_false_imp])
    simp only [and_true]
    refine ⟨fun hi => ⟨⟨g1, hi⟩, ⟨g1, by omega⟩, fun hq => ?_, fun hq => ⟨by unfold InR; omega, i + 1, rfl, ⟨by omega, by omega, ?_⟩, by omega⟩⟩, fun hi => ?_⟩
    · refine ends_bool rfl (eqX_no (a := nE a) (b := nE b) (fun h => ?_)).symm
      rw [(parts h).2.2.2.1] at hq
      simp at hq
    · intro j hj
      by_cases hj2 : (j : Int) < i
      · exact g3 j hj2
      · rw [show i.toNat = j by omega] at hq
        exact wedit_ext hq.1 hq.2.1 hq.2.2.1 hq.2.2.2
    · have hw : a.words = b.words := list_eq_getD (WEdit.mk 0 0 0 0) (by omega) (fun j hj => g3 j (by omega))
      refine loop_rule (ι := Int) (fun i => head62_1 a b i) (fun i => 0 ≤ i ∧ i ≤ a.kids.length ∧ ∀ j : Nat, (j : Int) < i → nKid (a.kids.getD j (KidOf.mk 0 Edit.nil)) = nKid (b.kids.getD j (KidOf.mk 0 Edit.nil))) (fun i => ((a.kids.length : Int) - i).toNat) 0 rfl ⟨by omega, by omega, by intro j hj; omega⟩ ?_
      rintro i ⟨g1, g2, g3⟩
      refine vc62_l1 _ _ _ _ _ _ ?_
      rintro y1 hy1 y2 hy2 y3 hy3 y4 hy4
      (simp only [bif_tl, bif_fr, bif_tlf, bif_frf, Bool.not_eq_true', Bool.not_eq_false', decide_eq_true_eq, decide_eq_false_iff_not, beq_iff_eq, beq_eq_false_iff_ne, bne_iff_ne, ne_eq, bne_eq_false_iff_eq, Bool.or_eq_true, Bool.and_eq_true, Bool.or_eq_false_iff, Bool.and_eq_false_imp])
      refine ⟨fun hi => ⟨⟨g1, hi⟩, ⟨g1, by omega⟩, fun _ => ⟨g1, hi⟩, fun _ => ⟨g1, by omega⟩, fun _ => ?_, fun _ => ?_, fun hq => ?_, fun hq => ⟨by unfold InR; omega, i + 1, rfl, ⟨by omega, by omega, ?_⟩, by omega⟩⟩, fun hi => ?_⟩
      · have m1 := massKs_mem (mem_getD (l := a.kids) (i := i.toNat) (by omega) (KidOf.mk 0 Edit.nil))
        have m2 := massKs_mem (mem_getD (l := b.kids) (i := i.toNat) (by omega) (KidOf.mk 0 Edit.nil))
        rw [← hy1, ← hy3] at m1
        rw [← hy2, ← hy4] at m2
        simp only [pre62]; omega
      · have m1 := massKs_mem (mem_getD (l := a.kids) (i := i.toNat) (by omega) (KidOf.mk 0 Edit.nil))
        rw [← hy1, ← hy3] at m1
        simp only [mu62]; omega
      · refine ends_bool rfl (eqX_no (a := nE a) (b := nE b) (fun h => ?_)).symm
        have hk := getD_map_eq (d := KidOf.mk 0 Edit.nil) (parts h).2.2.2.2.1 i.toNat
        rw [← hy1, ← hy2, nKid_at, nKid_at, ← hy3, ← hy4] at hk
        injection hk with k1 k2
        rw [k2, eqX_self] at hq
        simp at hq
        exact hq k1
      · intro j hj
        by_cases hj2 : (j : Int) < i
        · exact g3 j hj2
        · rw [eqX_iff] at hq
          rw [show j = i.toNat by omega, ← hy1, ← hy2, nKid_at, nKid_at, ← hy3, ← hy4, hq.2]
          have := hq.1
          rw [show y1.at_ = y2.at_ by omega]
      · have hk : a.kids.map nKid = b.kids.map nKid := map_eq_getD (KidOf.mk 0 Edit.nil) (by omega) (fun j hj => g3 j (by omega))
        refine loop_rule (ι := Int) (fun i => head62_2 a b i) (fun i => 0 ≤ i ∧ i ≤ a.ops.length ∧ ∀ j : Nat, (j : Int) < i → nOp (a.ops.getD j Op.nil) = nOp (b.ops.getD j Op.nil)) (fun i => ((a.ops.length : Int) - i).toNat) 0 rfl ⟨by omega, by omega, by intro j hj; omega⟩ ?_
        rintro i ⟨g1, g2, g3⟩
        refine vc62_l2 _ _ _ _ _ _ ?_
        rintro y1 hy1 y2 hy2 y3 hy3 y4 hy4
        (simp only [bif_tl, bif_fr, bif_tlf, bif_frf, Bool.not_eq_true', Bool.not_eq_false', decide_eq_true_eq, decide_eq_false_iff_not, beq_iff_eq, beq_eq_false_iff_ne, bne_iff_ne, ne_eq, bne_eq_false_iff_eq, Bool.or_eq_true, Bool.and_eq_true, Bool.or_eq_false_iff, Bool.and_eq_false_imp])
        refine ⟨fun hi => ?_, fun hi => ?_⟩
        · have m1 := massOs_mem (mem_getD (l := a.ops) (i := i.toNat) (by omega) Op.nil)
          have m2 := massOs_mem (mem_getD (l := b.ops) (i := i.toNat) (by omega) Op.nil)
          rw [← hy1, massOp_e, ← hy3] at m1
          rw [← hy2, massOp_e, ← hy4] at m2
          refine ⟨⟨g1, hi⟩, ⟨g1, by omega⟩, fun _ => by simp only [pre97]; omega, fun _ => by simp only [pre62]; omega, fun _ => by simp only [mu62]; omega, fun hq => ?_, fun hq => ⟨by unfold InR; omega, i + 1, rfl, ⟨by omega, by omega, ?_⟩, by omega⟩⟩
          · refine ends_bool rfl (eqX_no (a := nE a) (b := nE b) (fun h => ?_)).symm
            have hk := getD_map_eq (d := Op.nil) (parts h).2.2.2.2.2.2 i.toNat
            rw [← hy1, ← hy2, nOp_at, nOp_at, ← hy3, ← hy4] at hk
            injection hk with k1 k2 k3 k4
            rw [k3, k4, eqX_self, eqX_self] at hq
            simp at hq
            omega
          · intro j hj
            by_cases hj2 : (j : Int) < i
            · exact g3 j hj2
            · rw [eqX_iff, eqX_iff] at hq
              obtain ⟨⟨⟨q1, q2⟩, q3⟩, q4⟩ := hq
              rw [show j = i.toNat by omega, ← hy1, ← hy2, nOp_at, nOp_at, ← hy3, ← hy4, q3, q4, show y1.kind = y2.kind by omega, show y1.n = y2.n by omega]
        · have ho : a.ops.map nOp = b.ops.map nOp := map_eq_getD Op.nil (by omega) (fun j hj => g3 j (by omega))
          refine ends_bool rfl (eqX_iff (a := nE a) (b := nE b).2 ?_).symm
          rw [ea, eb, nKs_map, nKs_map, nOs_map, nOs_map, hk, ho, hw, h1, h2, h3, h4]

/-! ## turned round, as the document says -/
end Go.AM.Ytlahjnelghpmeaa

namespace Go.AM

/-- The bits that a mask of bytes names. -/
def widN (m : Nat) : Nat → Nat
  | 0 => 0
  | i + 1 => widN m i + if m / 2 ^ i % 2 = 1 then 255 * 2 ^ (8 * i) else 0
def widW : Nat → Nat → Nat
  | 0, _ => 0
  | k + 1, m => (if m % 2 = 1 then 255 else 0) + 256 * widW k (m / 2)
/-- What a mask names of a word. -/
def pickW : Nat → Nat → Nat → Nat
  | 0, _, _ => 0
  | k + 1, a, m => (if m % 2 = 1 then a % 256 else 0) + 256 * pickW k (a / 256) (m / 2)
def mixW : Nat → Nat → Nat → Nat → Nat
  | 0, _, _, _ => 0
  | k + 1, a, b, m => (if m % 2 = 1 then b % 256 else a % 256) + 256 * mixW k (a / 256) (b / 256) (m / 2)

theorem and_split (x y u v : Nat) (hu : u < 256) (hv : v < 256) : (u + 256 * x) &&& (v + 256 * y) = (u &&& v) + 256 * (x &&& y) := by
  have h : u &&& v < 256 := Nat.and_lt_two_pow (n := 8) u hv
  apply Nat.eq_of_testBit_eq
  intro j
  rw [Nat.add_comm u, Nat.add_comm v, Nat.add_comm (u &&& v), Nat.testBit_and]
  rw [show (256 : Nat) = 2 ^ 8 from rfl, Nat.testBit_two_pow_mul_add _ hu, Nat.testBit_two_pow_mul_add _ hv, Nat.testBit_two_pow_mul_add _ h]
  split <;> rw [Nat.testBit_and]

theorem or_split (x y u v : Nat) (hu : u < 256) (hv : v < 256) : (u + 256 * x) ||| (v + 256 * y) = (u ||| v) + 256 * (x ||| y) := by
  have h : u ||| v < 256 := Nat.or_lt_two_pow (n := 8) hu hv
  apply Nat.eq_of_testBit_eq
  intro j
  rw [Nat.add_comm u, Nat.add_comm v, Nat.add_comm (u ||| v), Nat.testBit_or]
  rw [show (256 : Nat) = 2 ^ 8 from rfl, Nat.testBit_two_pow_mul_add _ hu, Nat.testBit_two_pow_mul_add _ hv, Nat.testBit_two_pow_mul_add _ h]
  split <;> rw [Nat.testBit_or]

theorem and_wide : ∀ (k a m : Nat), a &&& widW k m = pickW k a m
  | 0, a, m => by simp [widW, pickW]
  | k + 1, a, m => by
    have e : a = a % 256 + 256 * (a / 256) := by omega
    simp only [widW, pickW]
    rw [← and_wide k (a / 256) (m / 2)]
    have h : a &&& ((if m % 2 = 1 then 255 else 0) + 256 * widW k (m / 2)) = (a % 256 + 256 * (a / 256)) &&& ((if m % 2 = 1 then 255 else 0) + 256 * widW k (m / 2)) := by rw [← e]
    rw [h, and_split _ _ _ _ (by omega) (by split <;> omega)]
    congr 1
    split
    · have := Nat.and_two_pow_sub_one_eq_mod (a % 256) 8
      simp only [show (2 : Nat) ^ 8 - 1 = 255 from rfl, show (2 : Nat) ^ 8 = 256 from rfl, Nat.mod_mod] at this
      exact this
    · simp

theorem or_pick : ∀ (k a b m n : Nat), (∀ i < k, m / 2 ^ i % 2 + n / 2 ^ i % 2 = 1) → pickW k a n ||| pickW k b m = mixW k a b m
  | 0, a, b, m, n, _ => by simp [pickW, mixW]
  | k + 1, a, b, m, n, h => by
    simp only [pickW, mixW]
    have h0 := h 0 (by omega)
    simp only [Nat.pow_zero, Nat.div_one] at h0
    rw [or_split _ _ _ _ (by split <;> omega) (by split <;> omega), or_pick k (a / 256) (b / 256) (m / 2) (n / 2) (fun i hi => by
      have := h (i + 1) (by omega)
      rw [Nat.div_div_eq_div_mul, Nat.div_div_eq_div_mul]
      rw [Nat.pow_succ, Nat.mul_comm] at this
      exact this)]
    congr 1
    by_cases hm : m % 2 = 1
    · rw [if_pos hm, if_pos hm, if_neg (by omega)]; simp
    · rw [if_neg hm, if_neg hm, if_pos (by omega)]; simp

theorem widN_eq : ∀ m : Fin 256, widN m.1 8 = widW 8 m.1 := by decide +kernel
theorem widW_not : ∀ m : Fin 256, 2 ^ 64 - 1 - widW 8 m.1 = widW 8 (255 - m.1) := by decide +kernel
theorem bits_not : ∀ m : Fin 256, ∀ i : Fin 8, m.1 / 2 ^ i.1 % 2 + (255 - m.1) / 2 ^ i.1 % 2 = 1 := by decide +kernel
theorem widW_lt : ∀ m : Fin 256, widW 8 m.1 < 2 ^ 64 := by decide +kernel

/-- Bit by bit, and byte by byte. -/
theorem mix_bits (a b m : Nat) (hm : m < 256) : (a &&& (2 ^ 64 - 1 - widN m 8)) ||| (b &&& widN m 8) = mixW 8 a b m := by
  have h1 := widN_eq ⟨m, hm⟩
  have h2 := widW_not ⟨m, hm⟩
  simp only at h1 h2
  rw [h1, h2, and_wide, and_wide]
  exact or_pick 8 a b m (255 - m) (fun i hi => bits_not ⟨m, hm⟩ ⟨i, hi⟩)

def ofK : Nat → (Nat → Nat) → Nat
  | 0, _ => 0
  | k + 1, f => f 0 + 256 * ofK k (fun i => f (i + 1))

theorem ofK_congr : ∀ (k : Nat) {f g : Nat → Nat}, (∀ i, f i = g i) → ofK k f = ofK k g
  | 0, _, _, _ => rfl
  | k + 1, f, g, h => by simp only [ofK, h 0, ofK_congr k (fun i => h (i + 1))]

theorem mixW_of : ∀ (k a b m : Nat), mixW k a b m = ofK k (fun i => if m / 2 ^ i % 2 = 1 then b / 256 ^ i % 256 else a / 256 ^ i % 256)
  | 0, _, _, _ => rfl
  | k + 1, a, b, m => by
    simp only [mixW, ofK, Nat.pow_zero, Nat.div_one]
    rw [mixW_of k, ofK_congr k (g := fun i => if m / 2 ^ (i + 1) % 2 = 1 then b / 256 ^ (i + 1) % 256 else a / 256 ^ (i + 1) % 256) (fun i => ?_)]
    rw [Nat.div_div_eq_div_mul, Nat.div_div_eq_div_mul, Nat.div_div_eq_div_mul, Nat.pow_succ', Nat.pow_succ']

theorem mixW_mix (a b m : Nat) : ((mixW 8 a b m : Nat) : Int) = mix a b m := by
  have nm : ∀ i : Nat, named (m : Int) (i : Int) = decide (m / 2 ^ i % 2 = 1) := by
    intro i
    unfold named
    rw [decide_eq_decide, Int.toNat_natCast]
    have : ((m : Int) / 2 ^ i % 2 : Int) = ((m / 2 ^ i % 2 : Nat) : Int) := by rw [Int.natCast_emod, Int.natCast_ediv, Int.natCast_pow]; rfl
    rw [this]; omega
  have by_ : ∀ (x i : Nat), byteAt (x : Int) i = ((x / 256 ^ i % 256 : Nat) : Int) := by
    intro x i
    unfold byteAt
    rw [Int.natCast_emod, Int.natCast_ediv, Int.natCast_pow]
    rfl
  have mx : ∀ i : Nat, mixAt (a : Int) (b : Int) (m : Int) i = ((if m / 2 ^ i % 2 = 1 then b / 256 ^ i % 256 else a / 256 ^ i % 256 : Nat) : Int) := by
    intro i
    unfold mixAt
    rw [nm, by_, by_]
    by_cases h : m / 2 ^ i % 2 = 1
    · rw [decide_eq_true h, if_pos rfl, if_pos h]
    · rw [decide_eq_false h, if_neg Bool.false_ne_true, if_neg h]
  rw [mixW_of]
  generalize hf : (fun i => if m / 2 ^ i % 2 = 1 then b / 256 ^ i % 256 else a / 256 ^ i % 256) = f
  have hx : ∀ i, mixAt (a : Int) (b : Int) (m : Int) i = (f i : Int) := by intro i; rw [mx, ← hf]
  have e : ofK 8 f = f 0 + 256 * (f 1 + 256 * (f 2 + 256 * (f 3 + 256 * (f 4 + 256 * (f 5 + 256 * (f 6 + 256 * (f 7 + 256 * 0))))))) := rfl
  rw [e]
  simp only [mix, of8, hx]
  omega

/-- May an edit be of a kid of such a list? -/
def withinB (list : Int) (e : Edit) : Bool :=
  if (2 ≤ list ∧ list ≤ 7) ∨ e.kind = 0 then false else if list = 8 ∨ e.kind = 2 then true else decide (e.kind = 1 ∧ e.old.kind = 1 ∧ e.new.kind = 1)

end Go.AM
