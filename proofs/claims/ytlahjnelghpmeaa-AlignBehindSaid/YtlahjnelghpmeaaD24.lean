/- Steps side by side: what the functions of chapter 24 compute. -/
import Derived.Test.YtlahjnelghpmeaaB20c
import Derived.Test.YtlahjnelghpmeaaAmZ
set_option linter.unusedSimpArgs false
set_option linter.unusedVariables false
namespace Go.AM

/-- The same, as they stand. -/
noncomputable def eqX {α : Type} (a b : α) : Bool := @decide (a = b) (Classical.propDecidable _)
theorem eqX_iff {α : Type} {a b : α} : eqX a b = true ↔ a = b := by unfold eqX; exact @decide_eq_true_iff _ (Classical.propDecidable _)
@[simp] theorem eqX_self {α : Type} (a : α) : eqX a a = true := eqX_iff.2 rfl

def takeF (o : Op) (n : Int) : Op := if opLen o ≤ n then o else if o.kind = 0 then ⟨o.kind, n, o.l, o.e⟩ else ⟨o.kind, o.n, o.l.take n.toNat, o.e⟩
def backF (o : Op) (n : Int) : Op := if o.kind = 0 then ⟨o.kind, o.n - n, o.l, o.e⟩ else ⟨o.kind, o.n, o.l.drop n.toNat, o.e⟩
def takeR (l : List Op) (n : Int) : List Op := if opLen (l.getD 0 Op.nil) ≤ n then l.drop 1 else backF (l.getD 0 Op.nil) n :: l.drop 1
def sgl (a : Int) (l : List Op) : Bool := decide (l.length ≠ 0 ∧ (l.getD 0 Op.nil).kind = a)

/-- A step that may be. -/
def opOk (o : Op) : Prop :=
  (o.kind = 0 ∧ o.l = [] ∧ (1 ≤ o.n ∧ o.n ≤ 1048576) ∧ o.e = Edit.nil) ∨ ((o.kind = 1 ∨ o.kind = 2) ∧ o.n = 0 ∧ o.l ≠ [] ∧ o.e = Edit.nil) ∨ (o.kind = 3 ∧ o.n = 0 ∧ o.l = [])
def okOs (l : List Op) : Prop := (∀ o ∈ l, opOk o) ∧ massOs l ≤ 1000000

theorem takeR_len_le (l : List Op) (n : Int) (h : l.length ≠ 0) : (takeR l n).length ≤ l.length := by
  unfold takeR
  split <;> simp <;> omega

theorem takeR_len_lt (l : List Op) (n : Int) (h : l.length ≠ 0) (hn : opLen (l.getD 0 Op.nil) ≤ n) : (takeR l n).length < l.length := by
  unfold takeR
  rw [if_pos hn]
  simp; omega

/-- Side by side. -/
def pairG (ap aq : Int) (p q : List Op) (out : List Piece) : List Piece × Bool × List Op × List Op :=
  if h : sgl ap p = true then pairG ap aq (p.drop 1) q (out ++ [⟨1, p.getD 0 Op.nil, Op.nil⟩])
  else if h2 : sgl aq q = true then pairG ap aq p (q.drop 1) (out ++ [⟨2, Op.nil, q.getD 0 Op.nil⟩])
  else if h3 : p.length = 0 ∨ q.length = 0 then
    if decide (p.length = 0) = decide (q.length = 0) then (out, true, p, q) else ([], false, p, q)
  else
    pairG ap aq (takeR p (min (opLen (p.getD 0 Op.nil)) (opLen (q.getD 0 Op.nil)))) (takeR q (min (opLen (p.getD 0 Op.nil)) (opLen (q.getD 0 Op.nil))))
      (out ++ [⟨0, takeF (p.getD 0 Op.nil) (min (opLen (p.getD 0 Op.nil)) (opLen (q.getD 0 Op.nil))), takeF (q.getD 0 Op.nil) (min (opLen (p.getD 0 Op.nil)) (opLen (q.getD 0 Op.nil)))⟩])
termination_by p.length + q.length
decreasing_by
  · have := (of_decide_eq_true h).1; rw [List.length_drop]; omega
  · have := (of_decide_eq_true h2).1; rw [List.length_drop]; omega
  · rcases Int.le_total (opLen (p.getD 0 Op.nil)) (opLen (q.getD 0 Op.nil)) with hm | hm
    · have a := takeR_len_lt p _ (by omega) (Int.le_refl (opLen (p.getD 0 Op.nil)))
      have b := takeR_len_le q (opLen (p.getD 0 Op.nil)) (by omega)
      rw [Int.min_eq_left hm]; omega
    · have a := takeR_len_lt q _ (by omega) (Int.le_refl (opLen (q.getD 0 Op.nil)))
      have b := takeR_len_le p (opLen (q.getD 0 Op.nil)) (by omega)
      rw [Int.min_eq_right hm]; omega

/-! ## by definition: kid by kid -/
def unitsOp (i alone : Int) (o : Op) : List AUnit :=
  (if o.kind = 0 then List.replicate o.n.toNat ⟨i, 0, Tree.nil, Edit.nil, false⟩ else [])
    ++ (o.l.map (fun t => ⟨i, o.kind, t, Edit.nil, decide (o.kind = alone)⟩)
    ++ (if o.kind = 3 then [⟨i, 3, Tree.nil, o.e, false⟩] else []))
def unitsF (i alone : Int) : List Op → List AUnit
  | [] => []
  | o :: r => unitsOp i alone o ++ unitsF (i + 1) alone r
def kidsOs : List Op → Int
  | [] => 0
  | o :: r => opLen o + kidsOs r

def alo (l : List AUnit) : Bool := decide (l.length ≠ 0 ∧ (l.getD 0 AUnit.nil).alone = true)
def pairsG (p q : List AUnit) (out : List APair) : List APair × Bool :=
  if h : alo p = true then pairsG (p.drop 1) q (out ++ [⟨1, p.getD 0 AUnit.nil, AUnit.nil⟩])
  else if h2 : alo q = true then pairsG p (q.drop 1) (out ++ [⟨2, AUnit.nil, q.getD 0 AUnit.nil⟩])
  else if h3 : p.length = 0 ∨ q.length = 0 then
    if decide (p.length = 0) = decide (q.length = 0) then (out, true) else ([], false)
  else pairsG (p.drop 1) (q.drop 1) (out ++ [⟨0, p.getD 0 AUnit.nil, q.getD 0 AUnit.nil⟩])
termination_by p.length + q.length
decreasing_by
  · have := (of_decide_eq_true h).1; rw [List.length_drop]; omega
  · have := (of_decide_eq_true h2).1; rw [List.length_drop]; omega
  · rw [List.length_drop, List.length_drop]; omega

def opU (u : AUnit) : Op := if u.kind = 0 then ⟨0, 1, [], Edit.nil⟩ else if u.kind = 3 then ⟨3, 0, [], u.e⟩ else ⟨u.kind, 0, [u.t], Edit.nil⟩

/-- A piece's units are these pairs' first, or second ones. -/
def sameU (o : Op) (alone : Int) (l : List AUnit) : Prop := (unitsF 0 alone [o]).map opU = l.map opU
/-- Pieces, kid by kid. -/
def alikeP (alone : Int) : List Piece → List APair → Prop
  | [], m => m = []
  | x :: r, m => ∃ m1 m2, m = m1 ++ m2 ∧ m1 ≠ [] ∧ ((x.of = 0 ∨ x.of = 1 ∨ x.of = 2) ∧ (x.of = 2 → x.p = Op.nil) ∧ (∀ y ∈ m1, y.of = x.of) ∧ (x.of ≠ 2 → opOk x.p ∧ massOp x.p ≤ 900000 ∧ opLen x.p = m1.length ∧ sameU x.p alone (m1.map APair.p))
      ∧ (x.of ≠ 1 → opOk x.q ∧ massOp x.q ≤ 900000 ∧ opLen x.q = m1.length ∧ sameU x.q 2 (m1.map APair.q))) ∧ alikeP alone r m2

def stepsOk (l : List Op) : Bool := good (.mk 3 Tree.nil Tree.nil [] [] 8 l) || good (.mk 3 Tree.nil Tree.nil [] [] 4 l)

end Go.AM
