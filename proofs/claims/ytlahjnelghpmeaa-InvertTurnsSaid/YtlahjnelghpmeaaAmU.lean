/- The data of the program, as Lean's, and how they lie in cells. -/
import Derived.Test.YtlahjnelghpmeaaAmP
set_option linter.unusedSimpArgs false
set_option linter.unusedVariables false
namespace Go.AM

structure WEdit where
  at_ : Int
  mask : Int
  old : Int
  new : Int

inductive Tree where
  | mk (kind : Int) (words : List Int) (kids : List Tree)

def Tree.kind : Tree → Int | .mk k _ _ => k
def Tree.words : Tree → List Int | .mk _ w _ => w
def Tree.kids : Tree → List Tree | .mk _ _ k => k
@[simp] theorem Tree.eta (t : Tree) : Tree.mk t.kind t.words t.kids = t := by cases t; rfl
@[simp] theorem Tree.kind_mk (k : Int) (w : List Int) (ks : List Tree) : (Tree.mk k w ks).kind = k := rfl
@[simp] theorem Tree.words_mk (k : Int) (w : List Int) (ks : List Tree) : (Tree.mk k w ks).words = w := rfl
@[simp] theorem Tree.kids_mk (k : Int) (w : List Int) (ks : List Tree) : (Tree.mk k w ks).kids = ks := rfl

structure KidOf (E : Type) where
  at_ : Int
  e : E

structure OpOf (E : Type) where
  kind : Int
  n : Int
  l : List Tree
  e : E

inductive Edit where
  | mk (kind : Int) (old new : Tree) (words : List WEdit) (kids : List (KidOf Edit)) (list : Int) (ops : List (OpOf Edit))

abbrev Kid := KidOf Edit
abbrev Op := OpOf Edit

def Edit.kind : Edit → Int | .mk k _ _ _ _ _ _ => k
def Edit.old : Edit → Tree | .mk _ o _ _ _ _ _ => o
def Edit.new : Edit → Tree | .mk _ _ n _ _ _ _ => n
def Edit.words : Edit → List WEdit | .mk _ _ _ w _ _ _ => w
def Edit.kids : Edit → List Kid | .mk _ _ _ _ k _ _ => k
def Edit.list : Edit → Int | .mk _ _ _ _ _ l _ => l
def Edit.ops : Edit → List Op | .mk _ _ _ _ _ _ o => o
@[simp] theorem Edit.eta (e : Edit) : Edit.mk e.kind e.old e.new e.words e.kids e.list e.ops = e := by cases e; rfl
section
variable (k : Int) (o n : Tree) (w : List WEdit) (ks : List Kid) (l : Int) (os : List Op)
@[simp] theorem Edit.kind_mk : (Edit.mk k o n w ks l os).kind = k := rfl
@[simp] theorem Edit.old_mk : (Edit.mk k o n w ks l os).old = o := rfl
@[simp] theorem Edit.new_mk : (Edit.mk k o n w ks l os).new = n := rfl
@[simp] theorem Edit.words_mk : (Edit.mk k o n w ks l os).words = w := rfl
@[simp] theorem Edit.kids_mk : (Edit.mk k o n w ks l os).kids = ks := rfl
@[simp] theorem Edit.list_mk : (Edit.mk k o n w ks l os).list = l := rfl
@[simp] theorem Edit.ops_mk : (Edit.mk k o n w ks l os).ops = os := rfl
end

def Tree.nil : Tree := .mk 0 [] []
def Edit.nil : Edit := .mk 0 Tree.nil Tree.nil [] [] 0 []
def Op.nil : Op := ⟨0, 0, [], Edit.nil⟩

structure Piece where
  of : Int
  p : Op
  q : Op

structure AUnit where
  step : Int
  kind : Int
  t : Tree
  e : Edit
  alone : Bool

structure APair where
  of : Int
  p : AUnit
  q : AUnit

def AUnit.nil : AUnit := ⟨0, 0, Tree.nil, Edit.nil, false⟩

inductive Ty where
  | u64 | u8 | int | tree | wedit | kid | op | edit | piece | unit | pair
  deriving DecidableEq

@[reducible] def El : Ty → Type
  | .u64 => Int
  | .u8 => Int
  | .int => Int
  | .tree => Tree
  | .wedit => WEdit
  | .kid => Kid
  | .op => Op
  | .edit => Edit
  | .piece => Piece
  | .unit => AUnit
  | .pair => APair

@[reducible] def U : Uni := { Ty := Ty, El := El }

abbrev sl (T : Ty) (l : List (El T)) : C U := .slice (U := U) T l .unk

def eTree (t : Tree) : List (C U) := [.int .i64 t.kind, sl .u64 t.words, sl .tree t.kids]
def eEdit (e : Edit) : List (C U) :=
  [.int .i64 e.kind, .int .i64 e.old.kind, sl .u64 e.old.words, sl .tree e.old.kids, .int .i64 e.new.kind, sl .u64 e.new.words, sl .tree e.new.kids, sl .wedit e.words, sl .kid e.kids, .int .i64 e.list, sl .op e.ops]
def eOp (o : Op) : List (C U) := .int .i64 o.kind :: .int .i64 o.n :: sl .tree o.l :: eEdit o.e
def eUnit (u : AUnit) : List (C U) := .int .i64 u.step :: .int .i64 u.kind :: (eTree u.t ++ (eEdit u.e ++ [.bool u.alone]))

def enc : (T : Ty) → El T → List (C U)
  | .u64, n => [.int .u64 n]
  | .u8, n => [.int .u8 n]
  | .int, n => [.int .i64 n]
  | .tree, t => eTree t
  | .wedit, w => [.int .i64 w.at_, .int .u8 w.mask, .int .u64 w.old, .int .u64 w.new]
  | .kid, k => .int .i64 k.at_ :: eEdit k.e
  | .op, o => eOp o
  | .edit, e => eEdit e
  | .piece, p => .int .i64 p.of :: (eOp p.p ++ eOp p.q)
  | .unit, u => eUnit u
  | .pair, p => .int .i64 p.of :: (eUnit p.p ++ eUnit p.q)

/-! ## reading cells -/

abbrev Rd (α : Type) := List (C U) → Option (α × List (C U))

def rInt (k : IntKind) : Rd Int
  | .int k' n :: r => if k = k' then some (n, r) else none
  | _ => none
def rBool : Rd Bool
  | .bool b :: r => some (b, r)
  | _ => none
def rSl (T : Ty) : Rd (List (El T))
  | .nils :: r => some ([], r)
  | .slice S l _ :: r => match (inferInstance : DecidableEq Ty) S T with
    | isTrue h => some (h ▸ l, r)
    | isFalse _ => none
  | _ => none
def rThen {α β : Type} (x : Rd α) (f : α → Rd β) : Rd β := fun cs => match x cs with
  | some (a, r) => f a r
  | none => none
def rPure {α : Type} (a : α) : Rd α := fun cs => some (a, cs)
def rTree : Rd Tree := rThen (rInt .i64) fun k => rThen (rSl .u64) fun w => rThen (rSl .tree) fun ks => rPure (.mk k w ks)
def rEdit : Rd Edit := rThen (rInt .i64) fun k => rThen rTree fun o => rThen rTree fun n => rThen (rSl .wedit) fun w => rThen (rSl .kid) fun ks => rThen (rInt .i64) fun l => rThen (rSl .op) fun os => rPure (.mk k o n w ks l os)
def rOp : Rd Op := rThen (rInt .i64) fun k => rThen (rInt .i64) fun n => rThen (rSl .tree) fun l => rThen rEdit fun e => rPure ⟨k, n, l, e⟩
def rUnit : Rd AUnit := rThen (rInt .i64) fun s => rThen (rInt .i64) fun k => rThen rTree fun t => rThen rEdit fun e => rThen rBool fun a => rPure ⟨s, k, t, e, a⟩

def rEl : (T : Ty) → Rd (El T)
  | .u64 => rInt .u64
  | .u8 => rInt .u8
  | .int => rInt .i64
  | .tree => rTree
  | .wedit => rThen (rInt .i64) fun a => rThen (rInt .u8) fun m => rThen (rInt .u64) fun o => rThen (rInt .u64) fun n => rPure ⟨a, m, o, n⟩
  | .kid => rThen (rInt .i64) fun a => rThen rEdit fun e => rPure ⟨a, e⟩
  | .op => rOp
  | .edit => rEdit
  | .piece => rThen (rInt .i64) fun o => rThen rOp fun p => rThen rOp fun q => rPure ⟨o, p, q⟩
  | .unit => rUnit
  | .pair => rThen (rInt .i64) fun o => rThen rUnit fun p => rThen rUnit fun q => rPure ⟨o, p, q⟩

def dec (T : Ty) (cs : List (C U)) : Option (El T) :=
  match rEl T cs with
  | some (x, []) => some x
  | _ => none

def WkL : List (C U) → List (C U) → Prop
  | [], [] => True
  | c :: r, c' :: r' => Wk c c' ∧ WkL r r'
  | _, _ => False

theorem WkL.append : ∀ {a b c d : List (C U)}, WkL a b → WkL c d → WkL (a ++ c) (b ++ d)
  | [], [], _, _, _, h => h
  | _ :: _, _ :: _, _, _, h, k => ⟨h.1, WkL.append h.2 k⟩

theorem WkL.get : ∀ {a b : List (C U)}, WkL a b → a.length = b.length ∧ ∀ (j : Nat) c c', a[j]? = some c → b[j]? = some c' → Wk c c'
  | [], [], _ => ⟨rfl, fun j c c' h => by simp at h⟩
  | x :: a, y :: b, h => by
    obtain ⟨h1, h2⟩ := WkL.get h.2
    refine ⟨by simp [h1], fun j c c' hc hc' => ?_⟩
    cases j with
    | zero => simp at hc hc'; subst hc hc'; exact h.1
    | succ j => exact h2 j c c' (by simpa using hc) (by simpa using hc')

/-- A reader reads what is written. -/
def Reads {α : Type} (r : Rd α) (e : α → List (C U)) : Prop := ∀ cs x rest, r cs = some (x, rest) → ∃ p, cs = p ++ rest ∧ WkL p (e x)

theorem reads_int (k : IntKind) : Reads (rInt k) fun n => [.int k n] := by
  intro cs x rest h
  unfold rInt at h
  split at h
  · split at h
    · rename_i hk
      subst hk
      cases h
      exact ⟨[_], rfl, .int _ _, trivial⟩
    · cases h
  · cases h

theorem reads_bool : Reads rBool fun b => [.bool b] := by
  intro cs x rest h
  unfold rBool at h
  split at h
  · cases h; exact ⟨[_], rfl, .bool _, trivial⟩
  · cases h

theorem reads_sl (T : Ty) : Reads (rSl T) fun l => [sl T l] := by
  intro cs x rest h
  unfold rSl at h
  split at h
  · cases h; exact ⟨[_], rfl, (Wk.snil (U := U) T : Wk (U := U) .nils (.slice T [] .unk)), trivial⟩
  · split at h
    · rename_i hST _
      subst hST
      cases h
      exact ⟨[_], rfl, .slice _ _ _, trivial⟩
    · cases h
  · cases h

theorem reads_then {α β : Type} {x : Rd α} {f : α → Rd β} {ex : α → List (C U)} {e : β → List (C U)} (g : α → β → List (C U)) (hx : Reads x ex) (hf : ∀ a, ∀ cs b rest, f a cs = some (b, rest) → ∃ p, cs = p ++ rest ∧ WkL p (g a b) ∧ e b = ex a ++ g a b) : Reads (rThen x f) e := by
  intro cs b rest h
  unfold rThen at h
  split at h
  · rename_i a r ha
    obtain ⟨p, rfl, h1⟩ := hx _ _ _ ha
    obtain ⟨q, rfl, h2, h3⟩ := hf a _ _ _ h
    exact ⟨p ++ q, by simp, by rw [h3]; exact h1.append h2⟩
  · cases h

/-- Step by step: what has been read, and what is still to come. -/
theorem rthen {α β : Type} {x : Rd α} {f : α → Rd β} {ex : α → List (C U)} (hx : Reads x ex) {cs : List (C U)} {b : β} {rest : List (C U)} (h : rThen x f cs = some (b, rest)) :
    ∃ a p r, cs = p ++ r ∧ WkL p (ex a) ∧ f a r = some (b, rest) := by
  unfold rThen at h
  split at h
  · rename_i a r ha
    obtain ⟨p, rfl, h1⟩ := hx _ _ _ ha
    exact ⟨a, p, r, rfl, h1, h⟩
  · cases h

theorem reads_tree : Reads rTree eTree := by
  intro cs x rest h
  obtain ⟨k, p1, r1, rfl, w1, h⟩ := rthen (reads_int _) h
  obtain ⟨w, p2, r2, rfl, w2, h⟩ := rthen (reads_sl _) h
  obtain ⟨ks, p3, r3, rfl, w3, h⟩ := rthen (reads_sl _) h
  cases h
  exact ⟨p1 ++ (p2 ++ p3), by simp, w1.append (w2.append w3)⟩

theorem reads_edit : Reads rEdit eEdit := by
  intro cs x rest h
  obtain ⟨k, p1, r1, rfl, w1, h⟩ := rthen (reads_int _) h
  obtain ⟨o, p2, r2, rfl, w2, h⟩ := rthen reads_tree h
  obtain ⟨n, p3, r3, rfl, w3, h⟩ := rthen reads_tree h
  obtain ⟨w, p4, r4, rfl, w4, h⟩ := rthen (reads_sl _) h
  obtain ⟨ks, p5, r5, rfl, w5, h⟩ := rthen (reads_sl _) h
  obtain ⟨l, p6, r6, rfl, w6, h⟩ := rthen (reads_int _) h
  obtain ⟨os, p7, r7, rfl, w7, h⟩ := rthen (reads_sl _) h
  cases h
  exact ⟨p1 ++ (p2 ++ (p3 ++ (p4 ++ (p5 ++ (p6 ++ p7))))), by simp, w1.append (w2.append (w3.append (w4.append (w5.append (w6.append w7)))))⟩

theorem reads_op : Reads rOp eOp := by
  intro cs x rest h
  obtain ⟨k, p1, r1, rfl, w1, h⟩ := rthen (reads_int _) h
  obtain ⟨n, p2, r2, rfl, w2, h⟩ := rthen (reads_int _) h
  obtain ⟨l, p3, r3, rfl, w3, h⟩ := rthen (reads_sl _) h
  obtain ⟨e, p4, r4, rfl, w4, h⟩ := rthen reads_edit h
  cases h
  exact ⟨p1 ++ (p2 ++ (p3 ++ p4)), by simp, w1.append (w2.append (w3.append w4))⟩

theorem reads_unit : Reads rUnit eUnit := by
  intro cs x rest h
  obtain ⟨k, p1, r1, rfl, w1, h⟩ := rthen (reads_int _) h
  obtain ⟨n, p2, r2, rfl, w2, h⟩ := rthen (reads_int _) h
  obtain ⟨l, p3, r3, rfl, w3, h⟩ := rthen reads_tree h
  obtain ⟨e, p4, r4, rfl, w4, h⟩ := rthen reads_edit h
  obtain ⟨b, p5, r5, rfl, w5, h⟩ := rthen reads_bool h
  cases h
  exact ⟨p1 ++ (p2 ++ (p3 ++ (p4 ++ p5))), by simp, w1.append (w2.append (w3.append (w4.append w5)))⟩

theorem reads_el : ∀ T : Ty, Reads (rEl T) (enc T)
  | .u64 => reads_int _
  | .u8 => reads_int _
  | .int => reads_int _
  | .tree => reads_tree
  | .edit => reads_edit
  | .op => reads_op
  | .unit => reads_unit
  | .wedit => by
    intro cs x rest h
    obtain ⟨k, p1, r1, rfl, w1, h⟩ := rthen (reads_int _) h
    obtain ⟨n, p2, r2, rfl, w2, h⟩ := rthen (reads_int _) h
    obtain ⟨l, p3, r3, rfl, w3, h⟩ := rthen (reads_int _) h
    obtain ⟨e, p4, r4, rfl, w4, h⟩ := rthen (reads_int _) h
    cases h
    exact ⟨p1 ++ (p2 ++ (p3 ++ p4)), by simp, w1.append (w2.append (w3.append w4))⟩
  | .kid => by
    intro cs x rest h
    obtain ⟨k, p1, r1, rfl, w1, h⟩ := rthen (reads_int _) h
    obtain ⟨n, p2, r2, rfl, w2, h⟩ := rthen reads_edit h
    cases h
    exact ⟨p1 ++ p2, by simp, w1.append w2⟩
  | .piece => by
    intro cs x rest h
    obtain ⟨k, p1, r1, rfl, w1, h⟩ := rthen (reads_int _) h
    obtain ⟨n, p2, r2, rfl, w2, h⟩ := rthen reads_op h
    obtain ⟨l, p3, r3, rfl, w3, h⟩ := rthen reads_op h
    cases h
    exact ⟨p1 ++ (p2 ++ p3), by simp, w1.append (w2.append w3)⟩
  | .pair => by
    intro cs x rest h
    obtain ⟨k, p1, r1, rfl, w1, h⟩ := rthen (reads_int _) h
    obtain ⟨n, p2, r2, rfl, w2, h⟩ := rthen reads_unit h
    obtain ⟨l, p3, r3, rfl, w3, h⟩ := rthen reads_unit h
    cases h
    exact ⟨p1 ++ (p2 ++ p3), by simp, w1.append (w2.append w3)⟩

def K : Codec U :=
  { tyEq := inferInstanceAs (DecidableEq Ty)
    dflt := fun T => match T with
      | .u64 => (0 : Int) | .u8 => (0 : Int) | .int => (0 : Int) | .tree => Tree.nil | .wedit => WEdit.mk 0 0 0 0 | .kid => KidOf.mk 0 Edit.nil | .op => Op.nil
      | .edit => Edit.nil | .piece => Piece.mk 0 Op.nil Op.nil | .unit => AUnit.nil | .pair => APair.mk 0 AUnit.nil AUnit.nil
    enc := enc
    dec := dec
    aggT := fun T => match T with | .u64 | .u8 | .int => false | _ => true
    sz := fun T => match T with | .u64 | .u8 | .int => 1 | .tree => 3 | .wedit => 4 | .kid => 12 | .op => 14 | .edit => 11 | .piece => 29 | .unit => 17 | .pair => 35
    bytes := fun T => match T with | .u64 | .int => 8 | .u8 => 1 | .tree => 56 | .wedit => 32 | .kid => 208 | .op => 240 | .edit => 200 | .piece => 488 | .unit => 280 | .pair => 568 }

theorem K_ok : CodecOk K := by
  refine ⟨?_, ?_, ?_, ?_, ?_⟩
  · intro T x
    cases T <;> simp [K, enc, eTree, eEdit, eOp, eUnit]
  · intro T x c hc
    have h : (enc T x).all C.plain = true := by cases T <;> rfl
    exact List.all_eq_true.1 h c hc
  · intro T cs x h
    have h' : dec T cs = some x := h
    unfold dec at h'
    split at h'
    · rename_i y he
      cases h'
      obtain ⟨p, hp, hw⟩ := reads_el T _ _ _ he
      rw [List.append_nil] at hp
      subst hp
      exact hw.get
    · cases h'
  · intro T; cases T <;> decide
  · intro T; cases T <;> decide

end Go.AM
