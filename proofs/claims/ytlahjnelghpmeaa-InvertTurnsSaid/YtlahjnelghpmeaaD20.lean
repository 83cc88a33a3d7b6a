import Derived.Test.YtlahjnelghpmeaaAmW
import Derived.Test.YtlahjnelghpmeaaAmU
import Derived.Test.YtlahjnelghpmeaaChecked
import Derived.Test.YtlahjnelghpmeaaRows
import Derived.Test.YtlahjnelghpmeaaAmX
import Derived.ProofKit
import Derived.Test.YtlahjnelghpmeaaD07
set_option linter.unusedSimpArgs false
set_option linter.unusedVariables false
namespace Go.AM.Ytlahjnelghpmeaa
open Go.AM Go.Proofs
def el : Ty → TypeId
  | .u64 => 66
  | .u8 => 5
  | .int => 3
  | .tree => 38
  | .wedit => 86
  | .kid => 63
  | .op => 65
  | .edit => 46
  | .piece => 68
  | .unit => 74
  | .pair => 76
def tb : Tables U :=
  { el := el
    sl := [(22, .op), (25, .piece), (28, .pair), (31, .unit), (35, .u64), (36, .tree), (43, .wedit), (44, .kid), (121, .u8)]
    var := [(2, false, [.int .i64 0]),
      (3, false, [.int .i64 0]),
      (4, false, [.bool false]),
      (5, false, [.int .u8 0]),
      (6, false, [.int .u8 0]),
      (7, true, [.int .i64 0, .int .i64 0, .bool false, .int .u8 0]),
      (8, true, [.int .i64 0, .int .i64 0, .bool false, .int .u8 0]),
      (12, false, [.int .u64 0]),
      (15, false, [.nilp]),
      (16, false, [.nilp]),
      (17, false, [.nilp]),
      (18, true, [.nilp]),
      (19, true, [.nilp]),
      (21, false, [.int .i32 0]),
      (22, false, [.nils]),
      (25, false, [.nils]),
      (28, false, [.nils]),
      (31, false, [.nils]),
      (35, false, [.nils]),
      (36, false, [.nils]),
      (37, true, [.int .i64 0, .nils, .nils]),
      (38, true, [.int .i64 0, .nils, .nils]),
      (43, false, [.nils]),
      (44, false, [.nils]),
      (45, true, [.int .i64 0, .int .i64 0, .nils, .nils, .int .i64 0, .nils, .nils, .nils, .nils, .int .i64 0, .nils]),
      (46, true, [.int .i64 0, .int .i64 0, .nils, .nils, .int .i64 0, .nils, .nils, .nils, .nils, .int .i64 0, .nils]),
      (62, true, [.int .i64 0, .int .i64 0, .int .i64 0, .nils, .nils, .int .i64 0, .nils, .nils, .nils, .nils, .int .i64 0, .nils]),
      (63, true, [.int .i64 0, .int .i64 0, .int .i64 0, .nils, .nils, .int .i64 0, .nils, .nils, .nils, .nils, .int .i64 0, .nils]),
      (64, true, [.int .i64 0, .int .i64 0, .nils, .int .i64 0, .int .i64 0, .nils, .nils, .int .i64 0, .nils, .nils, .nils, .nils, .int .i64 0, .nils]),
      (65, true, [.int .i64 0, .int .i64 0, .nils, .int .i64 0, .int .i64 0, .nils, .nils, .int .i64 0, .nils, .nils, .nils, .nils, .int .i64 0, .nils]),
      (66, false, [.int .u64 0]),
      (67, true, [.int .i64 0, .int .i64 0, .int .i64 0, .nils, .int .i64 0, .int .i64 0, .nils, .nils, .int .i64 0, .nils, .nils, .nils, .nils, .int .i64 0, .nils, .int .i64 0, .int .i64 0, .nils, .int .i64 0, .int .i64 0, .nils, .nils, .int .i64 0, .nils, .nils, .nils, .nils, .int .i64 0, .nils]),
      (68, true, [.int .i64 0, .int .i64 0, .int .i64 0, .nils, .int .i64 0, .int .i64 0, .nils, .nils, .int .i64 0, .nils, .nils, .nils, .nils, .int .i64 0, .nils, .int .i64 0, .int .i64 0, .nils, .int .i64 0, .int .i64 0, .nils, .nils, .int .i64 0, .nils, .nils, .nils, .nils, .int .i64 0, .nils]),
      (70, false, [.nilp]),
      (71, true, [.nils, .int .i64 0]),
      (72, true, [.nils, .int .i64 0]),
      (73, true, [.int .i64 0, .int .i64 0, .int .i64 0, .nils, .nils, .int .i64 0, .int .i64 0, .nils, .nils, .int .i64 0, .nils, .nils, .nils, .nils, .int .i64 0, .nils, .bool false]),
      (74, true, [.int .i64 0, .int .i64 0, .int .i64 0, .nils, .nils, .int .i64 0, .int .i64 0, .nils, .nils, .int .i64 0, .nils, .nils, .nils, .nils, .int .i64 0, .nils, .bool false]),
      (75, true, [.int .i64 0, .int .i64 0, .int .i64 0, .int .i64 0, .nils, .nils, .int .i64 0, .int .i64 0, .nils, .nils, .int .i64 0, .nils, .nils, .nils, .nils, .int .i64 0, .nils, .bool false, .int .i64 0, .int .i64 0, .int .i64 0, .nils, .nils, .int .i64 0, .int .i64 0, .nils, .nils, .int .i64 0, .nils, .nils, .nils, .nils, .int .i64 0, .nils, .bool false]),
      (76, true, [.int .i64 0, .int .i64 0, .int .i64 0, .int .i64 0, .nils, .nils, .int .i64 0, .int .i64 0, .nils, .nils, .int .i64 0, .nils, .nils, .nils, .nils, .int .i64 0, .nils, .bool false, .int .i64 0, .int .i64 0, .int .i64 0, .nils, .nils, .int .i64 0, .int .i64 0, .nils, .nils, .int .i64 0, .nils, .nils, .nils, .nils, .int .i64 0, .nils, .bool false]),
      (85, true, [.int .i64 0, .int .u8 0, .int .u64 0, .int .u64 0]),
      (86, true, [.int .i64 0, .int .u8 0, .int .u64 0, .int .u64 0]),
      (102, false, [.nilp]),
      (103, true, [.nils, .nils, .nils]),
      (104, true, [.nils, .nils, .nils]),
      (107, false, [.nilp]),
      (117, true, [.int .u8 0, .int .u8 0, .int .u8 0, .int .u8 0, .int .u8 0, .int .u8 0, .int .u8 0, .int .u8 0]),
      (121, false, [.nils]),
      (126, true, [.int .i64 0, .int .i64 0, .int .i64 0, .int .i64 0, .int .i64 0, .int .i64 0]),
      (135, false, [.int .u32 0]),
      (136, false, [.int .u8 0]),
      (137, false, [.int .u8 0]),
      (139, false, [.nilp]),
      (140, false, [.int .i32 0]),
      (141, false, [.int .i32 0])]
    fld := [(7, 0, 0, 2), (7, 1, 1, 3), (7, 2, 2, 4), (7, 3, 3, 6), (8, 0, 0, 2), (8, 1, 1, 3), (8, 2, 2, 4), (8, 3, 3, 6), (18, 0, 0, 17), (19, 0, 0, 17), (37, 0, 0, 3), (37, 1, 1, 35), (37, 2, 2, 36), (38, 0, 0, 3), (38, 1, 1, 35), (38, 2, 2, 36), (45, 0, 0, 3), (45, 1, 1, 38), (45, 2, 4, 38), (45, 3, 7, 43), (45, 4, 8, 44), (45, 5, 9, 3), (45, 6, 10, 22), (46, 0, 0, 3), (46, 1, 1, 38), (46, 2, 4, 38), (46, 3, 7, 43), (46, 4, 8, 44), (46, 5, 9, 3), (46, 6, 10, 22), (62, 0, 0, 3), (62, 1, 1, 46), (63, 0, 0, 3), (63, 1, 1, 46), (64, 0, 0, 3), (64, 1, 1, 3), (64, 2, 2, 36), (64, 3, 3, 46), (65, 0, 0, 3), (65, 1, 1, 3), (65, 2, 2, 36), (65, 3, 3, 46), (67, 0, 0, 3), (67, 1, 1, 65), (67, 2, 15, 65), (68, 0, 0, 3), (68, 1, 1, 65), (68, 2, 15, 65), (71, 0, 0, 22), (71, 1, 1, 3), (72, 0, 0, 22), (72, 1, 1, 3), (73, 0, 0, 3), (73, 1, 1, 3), (73, 2, 2, 38), (73, 3, 5, 46), (73, 4, 16, 4), (74, 0, 0, 3), (74, 1, 1, 3), (74, 2, 2, 38), (74, 3, 5, 46), (74, 4, 16, 4), (75, 0, 0, 3), (75, 1, 1, 74), (75, 2, 18, 74), (76, 0, 0, 3), (76, 1, 1, 74), (76, 2, 18, 74), (85, 0, 0, 3), (85, 1, 1, 5), (85, 2, 2, 66), (85, 3, 3, 66), (86, 0, 0, 3), (86, 1, 1, 5), (86, 2, 2, 66), (86, 3, 3, 66), (103, 0, 0, 22), (103, 1, 1, 36), (103, 2, 2, 36), (104, 0, 0, 22), (104, 1, 1, 36), (104, 2, 2, 36)]
    arr := [(117, 8, 5), (126, 6, 3)]
    eqs := [85, 86] }
def cfg : Cfg U := tb.cfg K
theorem varOk : tb.var.all (varB Try.prog) = true := by kernel_rfl
theorem slOk : tb.sl.all (slB Try.prog tb.el) = true := by kernel_rfl
theorem fldOk : tb.fld.all (fldB Try.prog) = true := by kernel_rfl
theorem arrOk : tb.arr.all (arrB Try.prog) = true := by kernel_rfl
theorem elOk : ∀ t, elB Try.prog K tb t = true := by
  intro t
  cases t
  · kernel_rfl
  · kernel_rfl
  · kernel_rfl
  · kernel_rfl
  · kernel_rfl
  · kernel_rfl
  · kernel_rfl
  · kernel_rfl
  · kernel_rfl
  · kernel_rfl
  · kernel_rfl
theorem cfgOk : CfgOk Try.prog cfg := tables_ok K_ok varOk slOk fldOk arrOk elOk (by kernel_rfl) (by kernel_rfl)
theorem vcS : (∀ {a b : Bool}, ((bif a then true else b) = true) = (a = true ∨ b = true)) ∧ (∀ {a b : Bool}, ((bif a then b else false) = true) = (a = true ∧ b = true)) ∧
    (∀ {a b : Bool}, ((bif a then true else b) = false) = (a = false ∧ b = false)) ∧ (∀ {a b : Bool}, ((bif a then b else false) = false) = (a = false ∨ b = false)) ∧
    (∀ (b : Bool), ((!b) = true) = (b = false)) ∧ (∀ (b : Bool), ((!b) = false) = (b = true)) ∧ (∀ {p : Prop} [Decidable p], (decide p = true) = p) ∧ (∀ {p : Prop} {_ : Decidable p}, decide p = false ↔ ¬p) ∧
    (∀ {α : Type} [BEq α] [LawfulBEq α] {a b : α}, (a == b) = true ↔ a = b) ∧ (∀ {α : Type} [BEq α] [LawfulBEq α] {a b : α}, (a == b) = false ↔ a ≠ b) ∧
    (∀ {α : Type} [BEq α] [LawfulBEq α] {a b : α}, (a != b) = true ↔ a ≠ b) ∧ (∀ {α : Type} (a b : α), (a ≠ b) = ¬a = b) ∧ (∀ {α : Type} [BEq α] [LawfulBEq α] {a b : α}, (a != b) = false ↔ a = b) ∧
    (∀ (a b : Bool), ((a || b) = true) = (a = true ∨ b = true)) ∧ (∀ (a b : Bool), ((a && b) = true) = (a = true ∧ b = true)) ∧ (∀ {x y : Bool}, (x || y) = false ↔ x = false ∧ y = false) ∧ (∀ {x y : Bool}, (x && y) = false ↔ x = true → y = false) :=
  ⟨bif_tl, bif_fr, bif_tlf, bif_frf, Bool.not_eq_true', Bool.not_eq_false', decide_eq_true_eq, decide_eq_false_iff_not, beq_iff_eq, beq_eq_false_iff_ne, bne_iff_ne, ne_eq, bne_eq_false_iff_eq, Bool.or_eq_true, Bool.and_eq_true, Bool.or_eq_false_iff, Bool.and_eq_false_imp⟩
abbrev Tr (p : Prop) : Prop := p → p
theorem vcT : (∀ {p : Prop}, Tr p = True) ∧ (∀ {p : Prop}, (True ∧ p) = p) ∧ (∀ {p : Prop}, (p ∧ True) = p) ∧ (∀ {p : Prop}, (p → p) = True) ∧ (∀ {p : Prop}, (True → p) = p) ∧ (∀ {p : Prop}, (p → True) = True) :=
  ⟨by simp, by simp, by simp, by simp, by simp, by simp⟩
end Go.AM.Ytlahjnelghpmeaa

namespace Go.AM.Ytlahjnelghpmeaa
open Go.AM Go.Proofs Go.Proofs.Ytlahjnelghpmeaa Go.ChangeShapes Go.WideShapes Go.RowKit
theorem own : ownKnob Try.prog.godebug = none := by kernel_rfl
theorem laidOut : laidOutB Try.prog = true := by kernel_rfl
theorem treeTypes : TreeTypes cfg := ⟨rfl, rfl, ⟨_, rfl⟩, ⟨_, rfl⟩, ⟨_, rfl, rfl⟩, ⟨_, _, rfl, rfl⟩, ⟨_, _, rfl, rfl, rfl⟩, ⟨_, _, rfl, rfl, rfl⟩⟩
end Go.AM.Ytlahjnelghpmeaa

namespace Go.AM
def byteAt (w : Int) (i : Nat) : Int := w / 256 ^ i % 256
def named (m : Int) (i : Int) : Bool := decide (m / 2 ^ i.toNat % 2 = 1)
def of8 (f : Nat → Int) : Int := f 0 + 256 * (f 1 + 256 * (f 2 + 256 * (f 3 + 256 * (f 4 + 256 * (f 5 + 256 * (f 6 + 256 * f 7))))))
def mixAt (a b m : Int) (i : Nat) : Int := if named m i then byteAt b i else byteAt a i
def mix (a b m : Int) : Int := of8 (mixAt a b m)
mutual
def massE : Edit → Nat
  | .mk _ o n w ks _ os => 1 + mass o + mass n + w.length + os.length + massKs ks + massOs os
def massKs : List (KidOf Edit) → Nat
  | [] => 0
  | k :: r => massKid k + massKs r
def massKid : KidOf Edit → Nat
  | ⟨_, e⟩ => massE e
def massOs : List (OpOf Edit) → Nat
  | [] => 0
  | o :: r => massOp o + massOs r
def massOp : OpOf Edit → Nat
  | ⟨_, _, l, e⟩ => massK l + massE e
end
mutual
def smallE : Edit → Prop
  | .mk _ o n w ks _ os => small o ∧ small n ∧ w.length ≤ 17592186044416 ∧ ks.length ≤ 17592186044416 ∧ os.length ≤ 17592186044416 ∧ smallKs ks ∧ smallOs os
def smallKs : List (KidOf Edit) → Prop
  | [] => True
  | k :: r => smallKid k ∧ smallKs r
def smallKid : KidOf Edit → Prop
  | ⟨_, e⟩ => smallE e
def smallOs : List (OpOf Edit) → Prop
  | [] => True
  | o :: r => smallOp o ∧ smallOs r
def smallOp : OpOf Edit → Prop
  | ⟨_, _, l, e⟩ => l.length ≤ 17592186044416 ∧ smallK l ∧ smallE e
end
def isI (n : Int) : Prop := -9223372036854775808 ≤ n ∧ n ≤ 9223372036854775807
def isW (n : Int) : Prop := 0 ≤ n ∧ n < 18446744073709551616
def rngW (w : WEdit) : Prop := isI w.at_ ∧ (0 ≤ w.mask ∧ w.mask < 256) ∧ isW w.old ∧ isW w.new
mutual
def rngE : Edit → Prop
  | .mk k o n w ks l os => isI k ∧ rng o ∧ rng n ∧ (∀ x ∈ w, rngW x) ∧ isI l ∧ rngKs ks ∧ rngOs os
def rngKs : List (KidOf Edit) → Prop
  | [] => True
  | k :: r => rngKid k ∧ rngKs r
def rngKid : KidOf Edit → Prop
  | ⟨a, e⟩ => isI a ∧ rngE e
def rngOs : List (OpOf Edit) → Prop
  | [] => True
  | o :: r => rngOp o ∧ rngOs r
def rngOp : OpOf Edit → Prop
  | ⟨k, n, l, e⟩ => isI k ∧ isI n ∧ rngK l ∧ rngE e
end
def sh1 (t : Tree) (n : Int) : Int := if n < 0 then n else shallow t 80 n
mutual
def leftE : Edit → Int → Int → Int
  | .mk _ o nw w ks _ os, d, n => if d = 0 ∨ n - 1 - w.length - os.length < 0 then -1 else leftOs os (d - 1) (leftKs ks (d - 1) (sh1 nw (shallow o 80 (n - 1 - w.length - os.length))))
def leftKs : List (KidOf Edit) → Int → Int → Int
  | [], _, n => n
  | k :: r, d, n => if n < 0 then n else leftKs r d (leftKid k d n)
def leftKid : KidOf Edit → Int → Int → Int
  | ⟨_, e⟩, d, n => leftE e d n
def leftOs : List (OpOf Edit) → Int → Int → Int
  | [], _, n => n
  | o :: r, d, n => if n < 0 then n else leftOs r d (leftOp o d n)
def leftOp : OpOf Edit → Int → Int → Int
  | ⟨_, _, l, e⟩, d, n => if shallowK l 80 n < 0 then shallowK l 80 n else leftE e d (shallowK l 80 n)
end
def noneT (t : Tree) : Bool := decide (t.kind = 0 ∧ t.words.length = 0 ∧ t.kids.length = 0)
def sameE (e : Edit) : Bool := decide (e.kind = 0) && noneT e.old && noneT e.new && decide (e.words.length = 0 ∧ e.kids.length = 0 ∧ e.ops.length = 0 ∧ e.list = 0)
def withinW (w m : Int) : Bool := decide (mix w 0 m = 0)
def wordsOk (last : Int) : List WEdit → Bool
  | [] => true
  | w :: r => decide (last < w.at_ ∧ w.at_ ≤ 65534 ∧ w.mask ≠ 0) && withinW w.old w.mask && withinW w.new w.mask && wordsOk w.at_ r
def opLen (o : Op) : Int := if o.kind = 3 then 1 else o.n + o.l.length
def lenA : List Op → Int → Int
  | [], n => n
  | o :: r, n => lenA r (min (if o.kind = 2 then n else n + opLen o) 1048576)
def lenB : List Op → Int → Int
  | [], n => n
  | o :: r, n => lenB r (min (if o.kind = 1 then n else n + opLen o) 1048576)
def treesOk (list : Int) : List Tree → Bool
  | [] => true
  | t :: r => rightT (.mk list [] [t]) 64 && treesOk list r
mutual
def rightE : Edit → Int → Bool
  | .mk k o n w ks l os, d =>
    if d = 0 ∨ k < 0 ∨ 3 < k then false
    else if (k ≠ 1 ∧ ¬(noneT o = true ∧ noneT n = true)) ∨ (k ≠ 2 ∧ ¬(w.length = 0 ∧ ks.length = 0)) ∨ (k ≠ 3 ∧ (l ≠ 0 ∨ os.length ≠ 0)) then false
    else if k = 1 then rightT o 64 && rightT n 64 && decide (o.kind ≠ 10 ∧ n.kind ≠ 10)
    else wordsOk (-1) w && rightKs (-1) ks (d - 1) && decide (¬(k = 3 ∧ (l < 2 ∨ 9 < l))) && rightOs l os (d - 1) && decide (lenA os 0 < 1048576 ∧ lenB os 0 < 1048576)
def rightKs (last : Int) : List (KidOf Edit) → Int → Bool
  | [], _ => true
  | k :: r, d => rightKid last k d && rightKs k.at_ r d
def rightKid (last : Int) : KidOf Edit → Int → Bool
  | ⟨a, e⟩, d => decide (last < a ∧ a ≤ 65534 ∧ e.kind ≠ 0) && rightE e d
def rightOs (list : Int) : List (OpOf Edit) → Int → Bool
  | [], _ => true
  | o :: r, d => rightOp list o d && rightOs list r d
def rightOp (list : Int) : OpOf Edit → Int → Bool
  | ⟨k, n, l, e⟩, d =>
    if k = 0 then decide (1 ≤ n ∧ n ≤ 1048576 ∧ l.length = 0) && sameE e
    else if n ≠ 0 ∨ k < 0 ∨ 3 < k then false
    else if k < 3 then treesOk list l && decide (0 < l.length) && sameE e
    else decide (l.length = 0 ∧ e.kind ≠ 0 ∧ 7 < list) && rightE e d && decide (list = 8 ∨ e.kind = 2 ∨ e.kind = 1 ∧ e.old.kind = 1 ∧ e.new.kind = 1)
end
mutual
def lightE : Edit → Bool
  | .mk _ _ _ _ ks _ os => decide (lenA os 0 ≤ 2000 ∧ lenB os 0 ≤ 2000) && lightKs ks && lightOs os
def lightKs : List (KidOf Edit) → Bool
  | [] => true
  | k :: r => lightKid k && lightKs r
def lightKid : KidOf Edit → Bool
  | ⟨_, e⟩ => lightE e
def lightOs : List (OpOf Edit) → Bool
  | [] => true
  | o :: r => lightOp o && lightOs r
def lightOp : OpOf Edit → Bool
  | ⟨_, _, _, e⟩ => lightE e
end
def good (e : Edit) : Bool := decide (0 ≤ leftE e 80 3000) && rightE e 64 && lightE e
end Go.AM
