/- Printed by program: what is known of each function, and the conditions that its code comes to. -/
import Derived.Test.YtlahjnelghpmeaaD20w
import Derived.Test.YtlahjnelghpmeaaRB07
set_option linter.unusedSimpArgs false
set_option linter.unusedVariables false
namespace Go.AM.Ytlahjnelghpmeaa
open Go.AM Go.Proofs

def args134 : ArgL (Int × Unit) := (.cons (aInt .u8) .nil)
def pre134 (a : Int × Unit) : Prop := 0 ≤ a.1 ∧ a.1 < 256
noncomputable def res134 (a : Int × Unit) : V U := .c (.int .u64 ((widN (a.1).toNat 8 : Nat) : Int))
noncomputable def spec134 : Fs U := fs args134 (fun a => [pre134 a]) res134

def args127 : ArgL (Int × Int × Int × Unit) := (.cons (aInt .u64) (.cons (aInt .u64) (.cons (aInt .u8) .nil)))
def pre127 (a : Int × Int × Int × Unit) : Prop := (0 ≤ a.1 ∧ a.1 < 18446744073709551616) ∧ (0 ≤ a.2.1 ∧ a.2.1 < 18446744073709551616) ∧ (0 ≤ a.2.2.1 ∧ a.2.2.1 < 256)
noncomputable def res127 (a : Int × Int × Int × Unit) : V U := .c (.int .u64 (mix a.1 a.2.1 a.2.2.1))
noncomputable def spec127 : Fs U := fs args127 (fun a => [pre127 a]) res127

def args119 : ArgL (Tree × Unit) := (.cons (aEl .tree) .nil)
def pre119 (a : Tree × Unit) : Prop := mass a.1 ≤ 1000000 ∧ rng a.1
noncomputable def res119 (a : Tree × Unit) : V U := .c (.bool (decide (Tree.kind a.1 ≠ 10) && rightT a.1 64))
noncomputable def spec119 : Fs U := fs args119 (fun a => [pre119 a]) res119

def args137 : ArgL (Int × Tree × Unit) := (.cons (aInt .i64) (.cons (aEl .tree) .nil))
def pre137 (a : Int × Tree × Unit) : Prop := mass a.2.1 ≤ 900000 ∧ rng a.2.1 ∧ isI a.1
noncomputable def res137 (a : Int × Tree × Unit) : V U := .c (.bool (rightT (Tree.mk a.1 [] [a.2.1]) 64))
noncomputable def spec137 : Fs U := fs args137 (fun a => [pre137 a]) res137

def args138 : ArgL (Int × Edit × Unit) := (.cons (aInt .i64) (.cons (aEl .edit) .nil))
def pre138 (a : Int × Edit × Unit) : Prop := True
noncomputable def res138 (a : Int × Edit × Unit) : V U := .c (.bool (withinB a.1 a.2.1))
noncomputable def spec138 : Fs U := fs args138 (fun a => [pre138 a]) res138

def args120 : ArgL (List WEdit × Unit) := (.cons (aSl .wedit) .nil)
def pre120 (a : List WEdit × Unit) : Prop := (a.1).length ≤ 1000000 ∧ ∀ x ∈ a.1, rngW x
noncomputable def res120 (a : List WEdit × Unit) : V U := .c (.bool (wordsOk (-1) a.1))
noncomputable def spec120 : Fs U := fs args120 (fun a => [pre120 a]) res120

/-! cento/word.Wide -/
noncomputable def know134 : List (FuncId × Fs U) := []
def lv134 : Lives U := fun i => match i with
  | 0 => ([(0, [])], [])
  | 1 => ([(0, []), (3, [])], [])
  | 2 => ([(0, []), (3, []), (5, [])], [])
  | 3 => ([(0, []), (3, []), (5, []), (6, [])], [])
  | 4 => ([(0, []), (3, []), (4, []), (5, [])], [])
  | 5 => ([(0, []), (3, []), (4, []), (5, []), (12, [])], [])
  | 6 => ([(0, []), (3, []), (5, [])], [])
  | 7 => ([(0, []), (3, []), (5, [])], [])
  | 8 => ([(2, [])], [])
  | _ => ([], [])
def head134_0 (m : Int) (x3 : Int) (x5 : Int) : LSt U := (⟨[(0, .c (.int .u8 m)), (3, .c (.int .u64 x3)), (5, .c (.int .i64 x5))], [], []⟩ : LSt U)
abbrev W134 (m : Int) (Q : AExit → LSt U → Prop) : Prop := awp cfg (know know134) (drawOk cfg (know know134)) Try.f134.ntmps lv134 (cd Try.f134 []) (⟨[(0, .c (.int .u8 m))], [], []⟩ : LSt U) Q
/-- the body -/
theorem vc134 (m : Int) (Q : AExit → LSt U → Prop) (h : LoopWp (awp cfg (know know134) (drawOk cfg (know know134)) Try.f134.ntmps lv134 (cd Try.f134 [1, 1, 0, 1, 0, 0])) (head134_0 m 0 0) (AExit.inBlock 0 (seqK cfg (know know134) (drawOk cfg (know know134)) Try.f134.ntmps lv134 (cd Try.f134 [1, 1, 1]) Q))) :
    W134 m Q := by
  have e_ : (awp cfg (know know134) (drawOk cfg (know know134)) Try.f134.ntmps lv134 (cd Try.f134 []) (⟨[(0, .c (.int .u8 m))], [], []⟩ : LSt U) Q) = ((((LoopWp (awp cfg (know know134) (drawOk cfg (know know134)) Try.f134.ntmps lv134 (cd Try.f134 [1, 1, 0, 1, 0, 0])) (head134_0 m 0 0) (AExit.inBlock 0 (seqK cfg (know know134) (drawOk cfg (know know134)) Try.f134.ntmps lv134 (cd Try.f134 [1, 1, 1]) Q)))))) := by kernel_rfl
  exact e_.mpr h
abbrev W134_l0 (m : Int) (x3 : Int) (x5 : Int) (N0 : LSt U → Prop) (Q : AExit → LSt U → Prop) : Prop := awp cfg (know know134) (drawOk cfg (know know134)) Try.f134.ntmps lv134 (cd Try.f134 [1, 1, 0, 1, 0, 0]) (head134_0 m x3 x5) (AExit.then N0 (AExit.inBlock 0 (seqK cfg (know know134) (drawOk cfg (know know134)) Try.f134.ntmps lv134 (cd Try.f134 [1, 1, 1]) Q)))
/-- the loop at [1, 1, 0, 1, 0] -/
theorem vc134_l0 (m : Int) (x3 : Int) (x5 : Int) (N0 : LSt U → Prop) (Q : AExit → LSt U → Prop) (h : ((decide ((x5 : Int) < 8)) = true → ((0 : Int) ≤ x5) ∧ (((((IntKind.wrap .u8 (BitVec.ofInt (IntKind.bits .u8) (Int.fdiv m (2 ^ (min (Int.toNat x5) (IntKind.bits .u8)))) &&& BitVec.ofInt (IntKind.bits .u8) 1).toNat) : Int) == 1) = true → (InR ((8 : Int) * x5)) ∧ ((0 : Int) ≤ ((8 : Int) * x5)) ∧ ((InR ((x5 : Int) + 1)) ∧ (N0 (head134_0 m (IntKind.wrap .u64 (BitVec.ofInt (IntKind.bits .u64) x3 ||| BitVec.ofInt (IntKind.bits .u64) (IntKind.wrap .u64 ((255 : Int) * 2 ^ (min (Int.toNat ((8 : Int) * x5)) (IntKind.bits .u64))))).toNat) ((x5 : Int) + 1))))) ∧ ((((IntKind.wrap .u8 (BitVec.ofInt (IntKind.bits .u8) (Int.fdiv m (2 ^ (min (Int.toNat x5) (IntKind.bits .u8)))) &&& BitVec.ofInt (IntKind.bits .u8) 1).toNat) : Int) == 1) = false → (InR ((x5 : Int) + 1)) ∧ (N0 (head134_0 m x3 ((x5 : Int) + 1)))))) ∧ ((decide ((x5 : Int) < 8)) = false → Q .ret (⟨[(2, .c (.int .u64 x3))], [], []⟩ : LSt U))) :
    W134_l0 m x3 x5 N0 Q := by
  have e_ : (awp cfg (know know134) (drawOk cfg (know know134)) Try.f134.ntmps lv134 (cd Try.f134 [1, 1, 0, 1, 0, 0]) (head134_0 m x3 x5) (AExit.then N0 (AExit.inBlock 0 (seqK cfg (know know134) (drawOk cfg (know know134)) Try.f134.ntmps lv134 (cd Try.f134 [1, 1, 1]) Q)))) = ((((decide ((x5 : Int) < 8)) = true → (((0 : Int) ≤ x5) ∧ (((((IntKind.wrap .u8 (BitVec.ofInt (IntKind.bits .u8) (Int.fdiv m (2 ^ (min (Int.toNat x5) (IntKind.bits .u8)))) &&& BitVec.ofInt (IntKind.bits .u8) 1).toNat) : Int) == 1) = true → (InR ((8 : Int) * x5)) ∧ ((0 : Int) ≤ ((8 : Int) * x5)) ∧ ((InR ((x5 : Int) + 1)) ∧ (N0 (head134_0 m (IntKind.wrap .u64 (BitVec.ofInt (IntKind.bits .u64) x3 ||| BitVec.ofInt (IntKind.bits .u64) (IntKind.wrap .u64 ((255 : Int) * 2 ^ (min (Int.toNat ((8 : Int) * x5)) (IntKind.bits .u64))))).toNat) ((x5 : Int) + 1))))) ∧ ((((IntKind.wrap .u8 (BitVec.ofInt (IntKind.bits .u8) (Int.fdiv m (2 ^ (min (Int.toNat x5) (IntKind.bits .u8)))) &&& BitVec.ofInt (IntKind.bits .u8) 1).toNat) : Int) == 1) = false → (InR ((x5 : Int) + 1)) ∧ (N0 (head134_0 m x3 ((x5 : Int) + 1))))))) ∧ ((decide ((x5 : Int) < 8)) = false → (Q .ret (⟨[(2, .c (.int .u64 x3))], [], []⟩ : LSt U))))) := by kernel_rfl
  exact e_.mpr ⟨fun c_1 => ⟨(h.1 c_1).1, ⟨fun c_2 => ⟨((h.1 c_1).2.1 c_2).1, ((h.1 c_1).2.1 c_2).2.1, ⟨((h.1 c_1).2.1 c_2).2.2.1, ((h.1 c_1).2.1 c_2).2.2.2⟩⟩, fun c_2 => ⟨((h.1 c_1).2.2 c_2).1, ((h.1 c_1).2.2 c_2).2⟩⟩⟩, fun c_1 => (h.2 c_1)⟩
def Body134 (m : Int)  : Prop := awp cfg (know (know134)) (drawOk cfg (know (know134))) Try.f134.ntmps lv134 (cd Try.f134 []) (entry (args134.can (m, ())) []) (EndsQ cfg Try.f134.ntmps Try.f134.results.toList (res134 (m, ())) [])
theorem make134 (hb : ∀ (m : Int) (_ : Unit), pre134 (m, ()) → Body134 m) : Contract Try.prog cfg 134 spec134 :=
  contract_flat (l := []) cfgOk rfl (trivial) lv134 Try.func134 rfl rfl 1 (fun _ => rfl) (by decide) (fun ⟨m, _⟩ => hb m ())

/-! cento/word.Mix -/
noncomputable def know127 : List (FuncId × Fs U) := [(134, spec134)]
def lv127 : Lives U := fun i => match i with
  | 0 => ([(0, []), (1, []), (2, [])], [])
  | 1 => ([(6, [])], [])
  | _ => ([], [])
abbrev W127 (a : Int) (b : Int) (m : Int) (Q : AExit → LSt U → Prop) : Prop := awp cfg (know know127) (drawOk cfg (know know127)) Try.f127.ntmps lv127 (cd Try.f127 []) (⟨[(0, .c (.int .u64 a)), (1, .c (.int .u64 b)), (2, .c (.int .u8 m))], [], []⟩ : LSt U) Q
/-- the body -/
theorem vc127 (a : Int) (b : Int) (m : Int) (Q : AExit → LSt U → Prop) (h : (pre134 (m, ())) ∧ (pre134 (m, ())) ∧ (Q .ret (⟨[(6, .c (.int .u64 (IntKind.wrap .u64 (BitVec.ofInt (IntKind.bits .u64) (IntKind.wrap .u64 (BitVec.ofInt (IntKind.bits .u64) a &&& ~~~(BitVec.ofInt (IntKind.bits .u64) ((widN (m).toNat 8 : Nat) : Int))).toNat) ||| BitVec.ofInt (IntKind.bits .u64) (IntKind.wrap .u64 (BitVec.ofInt (IntKind.bits .u64) b &&& BitVec.ofInt (IntKind.bits .u64) ((widN (m).toNat 8 : Nat) : Int)).toNat)).toNat)))], [], []⟩ : LSt U))) :
    W127 a b m Q := by
  have e_ : (awp cfg (know know127) (drawOk cfg (know know127)) Try.f127.ntmps lv127 (cd Try.f127 []) (⟨[(0, .c (.int .u64 a)), (1, .c (.int .u64 b)), (2, .c (.int .u8 m))], [], []⟩ : LSt U) Q) = (((pre134 (m, ())) ∧ (pre134 (m, ())) ∧ (Q .ret (⟨[(6, .c (.int .u64 (IntKind.wrap .u64 (BitVec.ofInt (IntKind.bits .u64) (IntKind.wrap .u64 (BitVec.ofInt (IntKind.bits .u64) a &&& ~~~(BitVec.ofInt (IntKind.bits .u64) ((widN (m).toNat 8 : Nat) : Int))).toNat) ||| BitVec.ofInt (IntKind.bits .u64) (IntKind.wrap .u64 (BitVec.ofInt (IntKind.bits .u64) b &&& BitVec.ofInt (IntKind.bits .u64) ((widN (m).toNat 8 : Nat) : Int)).toNat)).toNat)))], [], []⟩ : LSt U)))) := by kernel_rfl
  exact e_.mpr ⟨h.1, h.2.1, h.2.2⟩
def Body127 (a : Int) (b : Int) (m : Int)  : Prop := awp cfg (know (know127)) (drawOk cfg (know (know127))) Try.f127.ntmps lv127 (cd Try.f127 []) (entry (args127.can (a, b, m, ())) []) (EndsQ cfg Try.f127.ntmps Try.f127.results.toList (res127 (a, b, m, ())) [])
theorem make127 (c134 : Contract Try.prog cfg 134 spec134) (hb : ∀ (a : Int) (b : Int) (m : Int) (_ : Unit), pre127 (a, b, m, ()) → Body127 a b m) : Contract Try.prog cfg 127 spec127 :=
  contract_flat (l := [(134, spec134)]) cfgOk rfl (⟨c134, trivial⟩) lv127 Try.func127 rfl rfl 3 (fun _ => rfl) (by decide) (fun ⟨a, b, m, _⟩ => hb a b m ())

/-! cento/edit.value -/
noncomputable def know119 : List (FuncId × Fs U) := [(46, spec46)]
def lv119 : Lives U := fun i => match i with
  | 0 => ([(1, [])], [((.loc 1), [])])
  | 1 => ([(2, [])], [])
  | _ => ([], [])
abbrev W119 (t : Tree) (Q : AExit → LSt U → Prop) : Prop := awp cfg (know know119) (drawOk cfg (know know119)) Try.f119.ntmps lv119 (cd Try.f119 []) (⟨[(0, .agg [.int .i64 (Tree.kind t), .slice (U := U) .u64 (Tree.words t) .unk, .slice (U := U) .tree (Tree.kids t) .unk])], [], []⟩ : LSt U) Q
/-- the body -/
theorem vc119 (t : Tree) (Q : AExit → LSt U → Prop) (h : ((((Tree.kind t) : Int) != 10) = true → pre46 ((Tree.mk (Tree.kind t) (Tree.words t) (Tree.kids t)), ())) ∧ (Q .ret (⟨[(2, .c (.bool (bif (((Tree.kind t) : Int) != 10) then (rightT (Tree.mk (Tree.kind t) (Tree.words t) (Tree.kids t)) 64) else false)))], [], []⟩ : LSt U))) :
    W119 t Q := by
  have e_ : (awp cfg (know know119) (drawOk cfg (know know119)) Try.f119.ntmps lv119 (cd Try.f119 []) (⟨[(0, .agg [.int .i64 (Tree.kind t), .slice (U := U) .u64 (Tree.words t) .unk, .slice (U := U) .tree (Tree.kids t) .unk])], [], []⟩ : LSt U) Q) = ((((((Tree.kind t) : Int) != 10) = true → (((Tree.kind t) : Int) != 10) = true) ∧ ((((Tree.kind t) : Int) != 10) = true → pre46 ((Tree.mk (Tree.kind t) (Tree.words t) (Tree.kids t)), ())) ∧ (((((Tree.kind t) : Int) != 10) = true → (((Tree.kind t) : Int) != 10) = true)) ∧ (Q .ret (⟨[(2, .c (.bool (bif (((Tree.kind t) : Int) != 10) then (rightT (Tree.mk (Tree.kind t) (Tree.words t) (Tree.kids t)) 64) else false)))], [], []⟩ : LSt U)))) := by kernel_rfl
  exact e_.mpr ⟨fun x => x, h.1, (by generalize (((Tree.kind t) : Int) != 10) = b0; revert b0; decide), h.2⟩
def Body119 (t : Tree)  : Prop := awp cfg (know (know119)) (drawOk cfg (know (know119))) Try.f119.ntmps lv119 (cd Try.f119 []) (entry (args119.can (t, ())) []) (EndsQ cfg Try.f119.ntmps Try.f119.results.toList (res119 (t, ())) [])
theorem make119 (c46 : Contract Try.prog cfg 46 spec46) (hb : ∀ (t : Tree) (_ : Unit), pre119 (t, ()) → Body119 t) : Contract Try.prog cfg 119 spec119 :=
  contract_flat (l := [(46, spec46)]) cfgOk rfl (⟨c46, trivial⟩) lv119 Try.func119 rfl rfl 1 (fun _ => rfl) (by decide) (fun ⟨t, _⟩ => hb t ())

/-! cento/edit.kid -/
noncomputable def know137 : List (FuncId × Fs U) := [(46, spec46)]
def lv137 : Lives U := fun i => match i with
  | 0 => ([(0, []), (3, [])], [((.loc 3), [])])
  | 1 => ([(4, [])], [])
  | _ => ([], [])
abbrev W137 (list : Int) (t : Tree) (Q : AExit → LSt U → Prop) : Prop := awp cfg (know know137) (drawOk cfg (know know137)) Try.f137.ntmps lv137 (cd Try.f137 []) (⟨[(0, .c (.int .i64 list)), (1, .agg [.int .i64 (Tree.kind t), .slice (U := U) .u64 (Tree.words t) .unk, .slice (U := U) .tree (Tree.kids t) .unk])], [], []⟩ : LSt U) Q
/-- the body -/
theorem vc137 (list : Int) (t : Tree) (Q : AExit → LSt U → Prop) (h : (pre46 ((Tree.mk list ([]) ([(Tree.mk (Tree.kind t) (Tree.words t) (Tree.kids t))])), ())) ∧ (Q .ret (⟨[(4, .c (.bool (rightT (Tree.mk list ([]) ([(Tree.mk (Tree.kind t) (Tree.words t) (Tree.kids t))])) 64)))], [], []⟩ : LSt U))) :
    W137 list t Q := by
  have e_ : (awp cfg (know know137) (drawOk cfg (know know137)) Try.f137.ntmps lv137 (cd Try.f137 []) (⟨[(0, .c (.int .i64 list)), (1, .agg [.int .i64 (Tree.kind t), .slice (U := U) .u64 (Tree.words t) .unk, .slice (U := U) .tree (Tree.kids t) .unk])], [], []⟩ : LSt U) Q) = (((pre46 ((Tree.mk list ([]) ([(Tree.mk (Tree.kind t) (Tree.words t) (Tree.kids t))])), ())) ∧ (Q .ret (⟨[(4, .c (.bool (rightT (Tree.mk list ([]) ([(Tree.mk (Tree.kind t) (Tree.words t) (Tree.kids t))])) 64)))], [], []⟩ : LSt U)))) := by kernel_rfl
  exact e_.mpr ⟨h.1, h.2⟩
def Body137 (list : Int) (t : Tree)  : Prop := awp cfg (know (know137)) (drawOk cfg (know (know137))) Try.f137.ntmps lv137 (cd Try.f137 []) (entry (args137.can (list, t, ())) []) (EndsQ cfg Try.f137.ntmps Try.f137.results.toList (res137 (list, t, ())) [])
theorem make137 (c46 : Contract Try.prog cfg 46 spec46) (hb : ∀ (list : Int) (t : Tree) (_ : Unit), pre137 (list, t, ()) → Body137 list t) : Contract Try.prog cfg 137 spec137 :=
  contract_flat (l := [(46, spec46)]) cfgOk rfl (⟨c46, trivial⟩) lv137 Try.func137 rfl rfl 2 (fun _ => rfl) (by decide) (fun ⟨list, t, _⟩ => hb list t ())

/-! cento/edit.within -/
noncomputable def know138 : List (FuncId × Fs U) := [(49, spec49)]
def lv138 : Lives U := fun i => match i with
  | 0 => ([(0, []), (3, [])], [((.loc 3), [])])
  | 1 => ([(0, []), (3, []), (5, [])], [((.loc 3), [])])
  | 2 => ([(4, [])], [])
  | 3 => ([(3, []), (13, [])], [((.loc 3), [])])
  | 4 => ([(4, [])], [])
  | 5 => ([(4, [])], [])
  | _ => ([], [])
abbrev W138 (list : Int) (e : Edit) (Q : AExit → LSt U → Prop) : Prop := awp cfg (know know138) (drawOk cfg (know know138)) Try.f138.ntmps lv138 (cd Try.f138 []) (⟨[(0, .c (.int .i64 list)), (1, .agg [.int .i64 (Edit.kind e), .int .i64 (Tree.kind (Edit.old e)), .slice (U := U) .u64 (Tree.words (Edit.old e)) .unk, .slice (U := U) .tree (Tree.kids (Edit.old e)) .unk, .int .i64 (Tree.kind (Edit.new e)), .slice (U := U) .u64 (Tree.words (Edit.new e)) .unk, .slice (U := U) .tree (Tree.kids (Edit.new e)) .unk, .slice (U := U) .wedit (Edit.words e) .unk, .slice (U := U) .kid (Edit.kids e) .unk, .int .i64 (Edit.list e), .slice (U := U) .op (Edit.ops e) .unk])], [], []⟩ : LSt U) Q
/-- the body -/
theorem vc138 (list : Int) (e : Edit) (Q : AExit → LSt U → Prop) (h : (pre49 (list, ())) ∧ (((bif (decide (2 ≤ list ∧ list ≤ 7)) then true else (((Edit.kind e) : Int) == 0)) = true → Q .ret (⟨[(4, .c (.bool false))], [], []⟩ : LSt U)) ∧ ((bif (decide (2 ≤ list ∧ list ≤ 7)) then true else (((Edit.kind e) : Int) == 0)) = false → ((bif ((list : Int) == 8) then true else (((Edit.kind e) : Int) == 2)) = true → Q .ret (⟨[(4, .c (.bool true))], [], []⟩ : LSt U)) ∧ ((bif ((list : Int) == 8) then true else (((Edit.kind e) : Int) == 2)) = false → Q .ret (⟨[(4, .c (.bool (bif (bif (((Edit.kind e) : Int) == 1) then (((Tree.kind (Edit.old e)) : Int) == 1) else false) then (((Tree.kind (Edit.new e)) : Int) == 1) else false)))], [], []⟩ : LSt U))))) :
    W138 list e Q := by
  have e_ : (awp cfg (know know138) (drawOk cfg (know know138)) Try.f138.ntmps lv138 (cd Try.f138 []) (⟨[(0, .c (.int .i64 list)), (1, .agg [.int .i64 (Edit.kind e), .int .i64 (Tree.kind (Edit.old e)), .slice (U := U) .u64 (Tree.words (Edit.old e)) .unk, .slice (U := U) .tree (Tree.kids (Edit.old e)) .unk, .int .i64 (Tree.kind (Edit.new e)), .slice (U := U) .u64 (Tree.words (Edit.new e)) .unk, .slice (U := U) .tree (Tree.kids (Edit.new e)) .unk, .slice (U := U) .wedit (Edit.words e) .unk, .slice (U := U) .kid (Edit.kids e) .unk, .int .i64 (Edit.list e), .slice (U := U) .op (Edit.ops e) .unk])], [], []⟩ : LSt U) Q) = (((pre49 (list, ())) ∧ ((!(decide (2 ≤ list ∧ list ≤ 7))) = true → (!(decide (2 ≤ list ∧ list ≤ 7))) = true) ∧ ((!(decide (2 ≤ list ∧ list ≤ 7))) = true → (!(decide (2 ≤ list ∧ list ≤ 7))) = true) ∧ (((decide (2 ≤ list ∧ list ≤ 7)) = false → (!(decide (2 ≤ list ∧ list ≤ 7))) = true)) ∧ (((bif (decide (2 ≤ list ∧ list ≤ 7)) then true else (((Edit.kind e) : Int) == 0)) = true → (Q .ret (⟨[(4, .c (.bool false))], [], []⟩ : LSt U))) ∧ ((bif (decide (2 ≤ list ∧ list ≤ 7)) then true else (((Edit.kind e) : Int) == 0)) = false → ((!((list : Int) == 8)) = true → (!((list : Int) == 8)) = true) ∧ ((!((list : Int) == 8)) = true → (!((list : Int) == 8)) = true) ∧ ((((list : Int) == 8) = false → (!((list : Int) == 8)) = true)) ∧ (((bif ((list : Int) == 8) then true else (((Edit.kind e) : Int) == 2)) = true → (Q .ret (⟨[(4, .c (.bool true))], [], []⟩ : LSt U))) ∧ ((bif ((list : Int) == 8) then true else (((Edit.kind e) : Int) == 2)) = false → ((((Edit.kind e) : Int) == 1) = true → (((Edit.kind e) : Int) == 1) = true) ∧ ((((Edit.kind e) : Int) == 1) = true → (((Edit.kind e) : Int) == 1) = true) ∧ ((((Edit.kind e) : Int) == 1) = true → (((Edit.kind e) : Int) == 1) = true) ∧ (((((Edit.kind e) : Int) == 1) = true → (((Edit.kind e) : Int) == 1) = true)) ∧ ((bif (((Edit.kind e) : Int) == 1) then (((Tree.kind (Edit.old e)) : Int) == 1) else false) = true → (bif (((Edit.kind e) : Int) == 1) then (((Tree.kind (Edit.old e)) : Int) == 1) else false) = true) ∧ ((bif (((Edit.kind e) : Int) == 1) then (((Tree.kind (Edit.old e)) : Int) == 1) else false) = true → (bif (((Edit.kind e) : Int) == 1) then (((Tree.kind (Edit.old e)) : Int) == 1) else false) = true) ∧ ((bif (((Edit.kind e) : Int) == 1) then (((Tree.kind (Edit.old e)) : Int) == 1) else false) = true → (bif (((Edit.kind e) : Int) == 1) then (((Tree.kind (Edit.old e)) : Int) == 1) else false) = true) ∧ (((bif (((Edit.kind e) : Int) == 1) then (((Tree.kind (Edit.old e)) : Int) == 1) else false) = true → (bif (((Edit.kind e) : Int) == 1) then (((Tree.kind (Edit.old e)) : Int) == 1) else false) = true)) ∧ (Q .ret (⟨[(4, .c (.bool (bif (bif (((Edit.kind e) : Int) == 1) then (((Tree.kind (Edit.old e)) : Int) == 1) else false) then (((Tree.kind (Edit.new e)) : Int) == 1) else false)))], [], []⟩ : LSt U)))))))) := by kernel_rfl
  exact e_.mpr ⟨h.1, fun x => x, fun x => x, (by generalize (decide (2 ≤ list ∧ list ≤ 7)) = b0; revert b0; decide), ⟨fun c_3 => (h.2.1 c_3), fun c_3 => ⟨fun x => x, fun x => x, (by generalize ((list : Int) == 8) = b0; revert b0; decide), ⟨fun c_4 => ((h.2.2 c_3).1 c_4), fun c_4 => ⟨fun x => x, fun x => x, fun x => x, (by generalize (((Edit.kind e) : Int) == 1) = b0; revert b0; decide), fun x => x, fun x => x, fun x => x, (by generalize (((Tree.kind (Edit.old e)) : Int) == 1) = b0; generalize (((Edit.kind e) : Int) == 1) = b1; revert b0 b1; decide), ((h.2.2 c_3).2 c_4)⟩⟩⟩⟩⟩
def Body138 (list : Int) (e : Edit)  : Prop := awp cfg (know (know138)) (drawOk cfg (know (know138))) Try.f138.ntmps lv138 (cd Try.f138 []) (entry (args138.can (list, e, ())) []) (EndsQ cfg Try.f138.ntmps Try.f138.results.toList (res138 (list, e, ())) [])
theorem make138 (c49 : Contract Try.prog cfg 49 spec49) (hb : ∀ (list : Int) (e : Edit) (_ : Unit), pre138 (list, e, ()) → Body138 list e) : Contract Try.prog cfg 138 spec138 :=
  contract_flat (l := [(49, spec49)]) cfgOk rfl (⟨c49, trivial⟩) lv138 Try.func138 rfl rfl 2 (fun _ => rfl) (by decide) (fun ⟨list, e, _⟩ => hb list e ())

/-! cento/edit.words -/
noncomputable def know120 : List (FuncId × Fs U) := [(127, spec127)]
def lv120 : Lives U := fun i => match i with
  | 0 => ([(0, [])], [])
  | 1 => ([(0, []), (5, []), (6, []), (7, [])], [])
  | 2 => ([(0, []), (5, []), (6, []), (7, []), (8, [])], [])
  | 3 => ([(0, []), (3, []), (4, []), (5, []), (6, []), (7, [])], [((.loc 4), [])])
  | 4 => ([(0, []), (4, []), (5, []), (6, []), (7, []), (39, [])], [((.loc 4), [])])
  | 5 => ([(2, [])], [])
  | 6 => ([(0, []), (5, []), (6, []), (7, []), (53, [])], [])
  | 7 => ([(2, [])], [])
  | 8 => ([(0, []), (5, []), (6, []), (7, [])], [])
  | 9 => ([(2, [])], [])
  | _ => ([], [])
def head120_0 (l : List WEdit) (x7 : Int) : LSt U := (⟨[(0, .c (.slice (U := U) .wedit l .unk)), (5, .c (.slice (U := U) .wedit l .unk)), (6, .c (.int .i64 (l.length : Int))), (7, .c (.int .i64 x7))], [], []⟩ : LSt U)
abbrev W120 (l : List WEdit) (Q : AExit → LSt U → Prop) : Prop := awp cfg (know know120) (drawOk cfg (know know120)) Try.f120.ntmps lv120 (cd Try.f120 []) (⟨[(0, .c (.slice (U := U) .wedit l .unk))], [], []⟩ : LSt U) Q
/-- the body -/
theorem vc120 (l : List WEdit) (Q : AExit → LSt U → Prop) (h : LoopWp (awp cfg (know know120) (drawOk cfg (know know120)) Try.f120.ntmps lv120 (cd Try.f120 [1, 0, 1, 0, 0])) (head120_0 l 0) (AExit.inBlock 0 (seqK cfg (know know120) (drawOk cfg (know know120)) Try.f120.ntmps lv120 (cd Try.f120 [1, 1]) Q))) :
    W120 l Q := by
  have e_ : (awp cfg (know know120) (drawOk cfg (know know120)) Try.f120.ntmps lv120 (cd Try.f120 []) (⟨[(0, .c (.slice (U := U) .wedit l .unk))], [], []⟩ : LSt U) Q) = (((LoopWp (awp cfg (know know120) (drawOk cfg (know know120)) Try.f120.ntmps lv120 (cd Try.f120 [1, 0, 1, 0, 0])) (head120_0 l 0) (AExit.inBlock 0 (seqK cfg (know know120) (drawOk cfg (know know120)) Try.f120.ntmps lv120 (cd Try.f120 [1, 1]) Q))))) := by kernel_rfl
  exact e_.mpr h
abbrev W120_l0 (l : List WEdit) (x7 : Int) (N0 : LSt U → Prop) (Q : AExit → LSt U → Prop) : Prop := awp cfg (know know120) (drawOk cfg (know know120)) Try.f120.ntmps lv120 (cd Try.f120 [1, 0, 1, 0, 0]) (head120_0 l x7) (AExit.then N0 (AExit.inBlock 0 (seqK cfg (know know120) (drawOk cfg (know know120)) Try.f120.ntmps lv120 (cd Try.f120 [1, 1]) Q)))
/-- the loop at [1, 0, 1, 0] -/
theorem vc120_l0 (l : List WEdit) (x7 : Int) (N0 : LSt U → Prop) (Q : AExit → LSt U → Prop) (h : ∀ y_1, y_1 = (List.getD l (Int.toNat x7) (WEdit.mk 0 0 0 0)) → ∀ y_2, y_2 = (List.getD l (Int.toNat ((x7 : Int) - 1)) (WEdit.mk 0 0 0 0)) → ((decide ((x7 : Int) < (l.length : Int))) = true → ((0 : Int) ≤ x7 ∧ x7 < (l.length : Int)) ∧ ((((!(bif (decide (((WEdit.at_ y_1) : Int) < 0)) then true else (decide ((65535 : Int) ≤ (WEdit.at_ y_1))))) && (decide ((0 : Int) < x7))) = true → InR ((x7 : Int) - 1)) ∧ (((!(bif (decide (((WEdit.at_ y_1) : Int) < 0)) then true else (decide ((65535 : Int) ≤ (WEdit.at_ y_1))))) && (decide ((0 : Int) < x7))) = true → (0 : Int) ≤ ((x7 : Int) - 1) ∧ ((x7 : Int) - 1) < (l.length : Int)) ∧ (((bif (bif (bif (decide (((WEdit.at_ y_1) : Int) < 0)) then true else (decide ((65535 : Int) ≤ (WEdit.at_ y_1)))) then true else (bif (decide ((0 : Int) < x7)) then (decide (((WEdit.at_ y_1) : Int) ≤ (WEdit.at_ y_2))) else false)) then true else (((WEdit.mask y_1) : Int) == 0)) = true → Q .ret (⟨[(2, .c (.bool false))], [], []⟩ : LSt U)) ∧ ((bif (bif (bif (decide (((WEdit.at_ y_1) : Int) < 0)) then true else (decide ((65535 : Int) ≤ (WEdit.at_ y_1)))) then true else (bif (decide ((0 : Int) < x7)) then (decide (((WEdit.at_ y_1) : Int) ≤ (WEdit.at_ y_2))) else false)) then true else (((WEdit.mask y_1) : Int) == 0)) = false → (pre127 ((WEdit.old y_1), 0, (WEdit.mask y_1), ())) ∧ ((!(((mix (WEdit.old y_1) 0 (WEdit.mask y_1)) : Int) != 0)) = true → pre127 ((WEdit.new y_1), 0, (WEdit.mask y_1), ())) ∧ (((bif (((mix (WEdit.old y_1) 0 (WEdit.mask y_1)) : Int) != 0) then true else (((mix (WEdit.new y_1) 0 (WEdit.mask y_1)) : Int) != 0)) = true → Q .ret (⟨[(2, .c (.bool false))], [], []⟩ : LSt U)) ∧ ((bif (((mix (WEdit.old y_1) 0 (WEdit.mask y_1)) : Int) != 0) then true else (((mix (WEdit.new y_1) 0 (WEdit.mask y_1)) : Int) != 0)) = false → (InR ((x7 : Int) + 1)) ∧ (N0 (head120_0 l ((x7 : Int) + 1))))))))) ∧ ((decide ((x7 : Int) < (l.length : Int))) = false → Q .ret (⟨[(2, .c (.bool true))], [], []⟩ : LSt U))) :
    W120_l0 l x7 N0 Q := by
  have e_ : (awp cfg (know know120) (drawOk cfg (know know120)) Try.f120.ntmps lv120 (cd Try.f120 [1, 0, 1, 0, 0]) (head120_0 l x7) (AExit.then N0 (AExit.inBlock 0 (seqK cfg (know know120) (drawOk cfg (know know120)) Try.f120.ntmps lv120 (cd Try.f120 [1, 1]) Q)))) = (let y_1 := (List.getD l (Int.toNat x7) (WEdit.mk 0 0 0 0)); let y_2 := (List.getD l (Int.toNat ((x7 : Int) - 1)) (WEdit.mk 0 0 0 0)); (((decide ((x7 : Int) < (l.length : Int))) = true → ((0 : Int) ≤ x7 ∧ x7 < (l.length : Int)) ∧ (((!(decide (((WEdit.at_ y_1) : Int) < 0))) = true → (!(decide (((WEdit.at_ y_1) : Int) < 0))) = true) ∧ ((!(decide (((WEdit.at_ y_1) : Int) < 0))) = true → (!(decide (((WEdit.at_ y_1) : Int) < 0))) = true) ∧ (((decide (((WEdit.at_ y_1) : Int) < 0)) = false → (!(decide (((WEdit.at_ y_1) : Int) < 0))) = true)) ∧ ((!(bif (decide (((WEdit.at_ y_1) : Int) < 0)) then true else (decide ((65535 : Int) ≤ (WEdit.at_ y_1))))) = true → (!(bif (decide (((WEdit.at_ y_1) : Int) < 0)) then true else (decide ((65535 : Int) ≤ (WEdit.at_ y_1))))) = true) ∧ ((!(bif (decide (((WEdit.at_ y_1) : Int) < 0)) then true else (decide ((65535 : Int) ≤ (WEdit.at_ y_1))))) = true → (!(bif (decide (((WEdit.at_ y_1) : Int) < 0)) then true else (decide ((65535 : Int) ≤ (WEdit.at_ y_1))))) = true) ∧ (((!(bif (decide (((WEdit.at_ y_1) : Int) < 0)) then true else (decide ((65535 : Int) ≤ (WEdit.at_ y_1))))) && (decide ((0 : Int) < x7))) = true → ((!(bif (decide (((WEdit.at_ y_1) : Int) < 0)) then true else (decide ((65535 : Int) ≤ (WEdit.at_ y_1))))) && (decide ((0 : Int) < x7))) = true) ∧ (((!(bif (decide (((WEdit.at_ y_1) : Int) < 0)) then true else (decide ((65535 : Int) ≤ (WEdit.at_ y_1))))) && (decide ((0 : Int) < x7))) = true → InR ((x7 : Int) - 1)) ∧ (((!(bif (decide (((WEdit.at_ y_1) : Int) < 0)) then true else (decide ((65535 : Int) ≤ (WEdit.at_ y_1))))) && (decide ((0 : Int) < x7))) = true → ((!(bif (decide (((WEdit.at_ y_1) : Int) < 0)) then true else (decide ((65535 : Int) ≤ (WEdit.at_ y_1))))) && (decide ((0 : Int) < x7))) = true) ∧ (((!(bif (decide (((WEdit.at_ y_1) : Int) < 0)) then true else (decide ((65535 : Int) ≤ (WEdit.at_ y_1))))) && (decide ((0 : Int) < x7))) = true → ((!(bif (decide (((WEdit.at_ y_1) : Int) < 0)) then true else (decide ((65535 : Int) ≤ (WEdit.at_ y_1))))) && (decide ((0 : Int) < x7))) = true) ∧ (((!(bif (decide (((WEdit.at_ y_1) : Int) < 0)) then true else (decide ((65535 : Int) ≤ (WEdit.at_ y_1))))) && (decide ((0 : Int) < x7))) = true → (0 : Int) ≤ ((x7 : Int) - 1) ∧ ((x7 : Int) - 1) < (l.length : Int)) ∧ (((!(bif (decide (((WEdit.at_ y_1) : Int) < 0)) then true else (decide ((65535 : Int) ≤ (WEdit.at_ y_1))))) && (decide ((0 : Int) < x7))) = true → ((!(bif (decide (((WEdit.at_ y_1) : Int) < 0)) then true else (decide ((65535 : Int) ≤ (WEdit.at_ y_1))))) && (decide ((0 : Int) < x7))) = true) ∧ (((!(bif (decide (((WEdit.at_ y_1) : Int) < 0)) then true else (decide ((65535 : Int) ≤ (WEdit.at_ y_1))))) && (decide ((0 : Int) < x7))) = true → ((!(bif (decide (((WEdit.at_ y_1) : Int) < 0)) then true else (decide ((65535 : Int) ≤ (WEdit.at_ y_1))))) && (decide ((0 : Int) < x7))) = true) ∧ (((!(bif (decide (((WEdit.at_ y_1) : Int) < 0)) then true else (decide ((65535 : Int) ≤ (WEdit.at_ y_1))))) && (decide ((0 : Int) < x7))) = true → ((!(bif (decide (((WEdit.at_ y_1) : Int) < 0)) then true else (decide ((65535 : Int) ≤ (WEdit.at_ y_1))))) && (decide ((0 : Int) < x7))) = true) ∧ (((!(bif (decide (((WEdit.at_ y_1) : Int) < 0)) then true else (decide ((65535 : Int) ≤ (WEdit.at_ y_1))))) && (decide ((0 : Int) < x7))) = true → ((!(bif (decide (((WEdit.at_ y_1) : Int) < 0)) then true else (decide ((65535 : Int) ≤ (WEdit.at_ y_1))))) && (decide ((0 : Int) < x7))) = true) ∧ (((!(bif (decide (((WEdit.at_ y_1) : Int) < 0)) then true else (decide ((65535 : Int) ≤ (WEdit.at_ y_1))))) && (decide ((0 : Int) < x7))) = true → ((!(bif (decide (((WEdit.at_ y_1) : Int) < 0)) then true else (decide ((65535 : Int) ≤ (WEdit.at_ y_1))))) && (decide ((0 : Int) < x7))) = true) ∧ ((!(bif (decide (((WEdit.at_ y_1) : Int) < 0)) then true else (decide ((65535 : Int) ≤ (WEdit.at_ y_1))))) = true → (True → (!(bif (decide (((WEdit.at_ y_1) : Int) < 0)) then true else (decide ((65535 : Int) ≤ (WEdit.at_ y_1))))) = true)) ∧ ((!(bif (decide (((WEdit.at_ y_1) : Int) < 0)) then true else (decide ((65535 : Int) ≤ (WEdit.at_ y_1))))) = true → ((decide ((0 : Int) < x7)) = true → ((!(bif (decide (((WEdit.at_ y_1) : Int) < 0)) then true else (decide ((65535 : Int) ≤ (WEdit.at_ y_1))))) && (decide ((0 : Int) < x7))) = true)) ∧ (((bif (decide (((WEdit.at_ y_1) : Int) < 0)) then true else (decide ((65535 : Int) ≤ (WEdit.at_ y_1)))) = false → (!(bif (decide (((WEdit.at_ y_1) : Int) < 0)) then true else (decide ((65535 : Int) ≤ (WEdit.at_ y_1))))) = true)) ∧ ((!(bif (bif (decide (((WEdit.at_ y_1) : Int) < 0)) then true else (decide ((65535 : Int) ≤ (WEdit.at_ y_1)))) then true else (bif (decide ((0 : Int) < x7)) then (decide (((WEdit.at_ y_1) : Int) ≤ (WEdit.at_ y_2))) else false))) = true → (!(bif (bif (decide (((WEdit.at_ y_1) : Int) < 0)) then true else (decide ((65535 : Int) ≤ (WEdit.at_ y_1)))) then true else (bif (decide ((0 : Int) < x7)) then (decide (((WEdit.at_ y_1) : Int) ≤ (WEdit.at_ y_2))) else false))) = true) ∧ ((!(bif (bif (decide (((WEdit.at_ y_1) : Int) < 0)) then true else (decide ((65535 : Int) ≤ (WEdit.at_ y_1)))) then true else (bif (decide ((0 : Int) < x7)) then (decide (((WEdit.at_ y_1) : Int) ≤ (WEdit.at_ y_2))) else false))) = true → (!(bif (bif (decide (((WEdit.at_ y_1) : Int) < 0)) then true else (decide ((65535 : Int) ≤ (WEdit.at_ y_1)))) then true else (bif (decide ((0 : Int) < x7)) then (decide (((WEdit.at_ y_1) : Int) ≤ (WEdit.at_ y_2))) else false))) = true) ∧ (((bif (bif (decide (((WEdit.at_ y_1) : Int) < 0)) then true else (decide ((65535 : Int) ≤ (WEdit.at_ y_1)))) then true else (bif (decide ((0 : Int) < x7)) then (decide (((WEdit.at_ y_1) : Int) ≤ (WEdit.at_ y_2))) else false)) = false → (!(bif (bif (decide (((WEdit.at_ y_1) : Int) < 0)) then true else (decide ((65535 : Int) ≤ (WEdit.at_ y_1)))) then true else (bif (decide ((0 : Int) < x7)) then (decide (((WEdit.at_ y_1) : Int) ≤ (WEdit.at_ y_2))) else false))) = true)) ∧ (((bif (bif (bif (decide (((WEdit.at_ y_1) : Int) < 0)) then true else (decide ((65535 : Int) ≤ (WEdit.at_ y_1)))) then true else (bif (decide ((0 : Int) < x7)) then (decide (((WEdit.at_ y_1) : Int) ≤ (WEdit.at_ y_2))) else false)) then true else (((WEdit.mask y_1) : Int) == 0)) = true → (Q .ret (⟨[(2, .c (.bool false))], [], []⟩ : LSt U))) ∧ ((bif (bif (bif (decide (((WEdit.at_ y_1) : Int) < 0)) then true else (decide ((65535 : Int) ≤ (WEdit.at_ y_1)))) then true else (bif (decide ((0 : Int) < x7)) then (decide (((WEdit.at_ y_1) : Int) ≤ (WEdit.at_ y_2))) else false)) then true else (((WEdit.mask y_1) : Int) == 0)) = false → (pre127 ((WEdit.old y_1), 0, (WEdit.mask y_1), ())) ∧ ((!(((mix (WEdit.old y_1) 0 (WEdit.mask y_1)) : Int) != 0)) = true → (!(((mix (WEdit.old y_1) 0 (WEdit.mask y_1)) : Int) != 0)) = true) ∧ ((!(((mix (WEdit.old y_1) 0 (WEdit.mask y_1)) : Int) != 0)) = true → (!(((mix (WEdit.old y_1) 0 (WEdit.mask y_1)) : Int) != 0)) = true) ∧ ((!(((mix (WEdit.old y_1) 0 (WEdit.mask y_1)) : Int) != 0)) = true → (!(((mix (WEdit.old y_1) 0 (WEdit.mask y_1)) : Int) != 0)) = true) ∧ ((!(((mix (WEdit.old y_1) 0 (WEdit.mask y_1)) : Int) != 0)) = true → (!(((mix (WEdit.old y_1) 0 (WEdit.mask y_1)) : Int) != 0)) = true) ∧ ((!(((mix (WEdit.old y_1) 0 (WEdit.mask y_1)) : Int) != 0)) = true → pre127 ((WEdit.new y_1), 0, (WEdit.mask y_1), ())) ∧ ((!(((mix (WEdit.old y_1) 0 (WEdit.mask y_1)) : Int) != 0)) = true → (!(((mix (WEdit.old y_1) 0 (WEdit.mask y_1)) : Int) != 0)) = true) ∧ (((((mix (WEdit.old y_1) 0 (WEdit.mask y_1)) : Int) != 0) = false → (!(((mix (WEdit.old y_1) 0 (WEdit.mask y_1)) : Int) != 0)) = true)) ∧ (((bif (((mix (WEdit.old y_1) 0 (WEdit.mask y_1)) : Int) != 0) then true else (((mix (WEdit.new y_1) 0 (WEdit.mask y_1)) : Int) != 0)) = true → (Q .ret (⟨[(2, .c (.bool false))], [], []⟩ : LSt U))) ∧ ((bif (((mix (WEdit.old y_1) 0 (WEdit.mask y_1)) : Int) != 0) then true else (((mix (WEdit.new y_1) 0 (WEdit.mask y_1)) : Int) != 0)) = false → (InR ((x7 : Int) + 1)) ∧ (N0 (head120_0 l ((x7 : Int) + 1))))))))) ∧ ((decide ((x7 : Int) < (l.length : Int))) = false → (Q .ret (⟨[(2, .c (.bool true))], [], []⟩ : LSt U))))) := by kernel_rfl
  exact e_.mpr (by intro y_1 y_2; exact ⟨fun c_5 => ⟨((h y_1 rfl y_2 rfl).1 c_5).1, ⟨fun x => x, fun x => x, (by generalize (decide (((WEdit.at_ y_1) : Int) < 0)) = b0; revert b0; decide), fun x => x, fun x => x, fun x => x, ((h y_1 rfl y_2 rfl).1 c_5).2.1, fun x => x, fun x => x, ((h y_1 rfl y_2 rfl).1 c_5).2.2.1, fun x => x, fun x => x, fun x => x, fun x => x, fun x => x, (by generalize (decide ((65535 : Int) ≤ (WEdit.at_ y_1))) = b0; generalize (decide (((WEdit.at_ y_1) : Int) < 0)) = b1; revert b0 b1; decide), (by generalize (decide ((65535 : Int) ≤ (WEdit.at_ y_1))) = b0; generalize (decide (((WEdit.at_ y_1) : Int) < 0)) = b1; generalize (decide ((0 : Int) < x7)) = b2; revert b0 b1 b2; decide), (by generalize (decide ((65535 : Int) ≤ (WEdit.at_ y_1))) = b0; generalize (decide (((WEdit.at_ y_1) : Int) < 0)) = b1; revert b0 b1; decide), fun x => x, fun x => x, (by generalize (decide (((WEdit.at_ y_1) : Int) ≤ (WEdit.at_ y_2))) = b0; generalize (decide ((65535 : Int) ≤ (WEdit.at_ y_1))) = b1; generalize (decide (((WEdit.at_ y_1) : Int) < 0)) = b2; generalize (decide ((0 : Int) < x7)) = b3; revert b0 b1 b2 b3; decide), ⟨fun c_6 => (((h y_1 rfl y_2 rfl).1 c_5).2.2.2.1 c_6), fun c_6 => ⟨(((h y_1 rfl y_2 rfl).1 c_5).2.2.2.2 c_6).1, fun x => x, fun x => x, fun x => x, fun x => x, (((h y_1 rfl y_2 rfl).1 c_5).2.2.2.2 c_6).2.1, fun x => x, (by generalize (((mix (WEdit.old y_1) 0 (WEdit.mask y_1)) : Int) != 0) = b0; revert b0; decide), ⟨fun c_7 => ((((h y_1 rfl y_2 rfl).1 c_5).2.2.2.2 c_6).2.2.1 c_7), fun c_7 => ⟨((((h y_1 rfl y_2 rfl).1 c_5).2.2.2.2 c_6).2.2.2 c_7).1, ((((h y_1 rfl y_2 rfl).1 c_5).2.2.2.2 c_6).2.2.2 c_7).2⟩⟩⟩⟩⟩⟩, fun c_5 => ((h y_1 rfl y_2 rfl).2 c_5)⟩)
def Body120 (l : List WEdit)  : Prop := awp cfg (know (know120)) (drawOk cfg (know (know120))) Try.f120.ntmps lv120 (cd Try.f120 []) (entry (args120.can (l, ())) []) (EndsQ cfg Try.f120.ntmps Try.f120.results.toList (res120 (l, ())) [])
theorem make120 (c127 : Contract Try.prog cfg 127 spec127) (hb : ∀ (l : List WEdit) (_ : Unit), pre120 (l, ()) → Body120 l) : Contract Try.prog cfg 120 spec120 :=
  contract_flat (l := [(127, spec127)]) cfgOk rfl (⟨c127, trivial⟩) lv120 Try.func120 rfl rfl 1 (fun _ => rfl) (by decide) (fun ⟨l, _⟩ => hb l ())

end Go.AM.Ytlahjnelghpmeaa

namespace Go.AM.Ytlahjnelghpmeaa
open Go.AM Go.Proofs

theorem bit_of : ∀ n : Fin 256, ∀ i : Fin 8, IntKind.wrap .u8 (BitVec.ofInt (IntKind.bits .u8) (Int.fdiv (n.1 : Int) (2 ^ (min (Int.toNat (i.1 : Int)) (IntKind.bits .u8)))) &&& BitVec.ofInt (IntKind.bits .u8) 1).toNat = ((n.1 / 2 ^ i.1 % 2 : Nat) : Int) := by decide +kernel
theorem or_byte : ∀ n : Fin 256, ∀ i : Fin 8, IntKind.wrap .u64 (BitVec.ofInt (IntKind.bits .u64) ((widN n.1 i.1 : Nat) : Int) ||| BitVec.ofInt (IntKind.bits .u64) (IntKind.wrap .u64 (255 * 2 ^ (min (Int.toNat (8 * (i.1 : Int))) (IntKind.bits .u64))))).toNat = ((widN n.1 i.1 + 255 * 2 ^ (8 * i.1) : Nat) : Int) := by decide +kernel

theorem c134 : Contract Try.prog cfg 134 spec134 := by
  refine make134 ?_
  intro m _ hp
  simp only [pre134] at hp
  obtain ⟨n, rfl⟩ := Int.eq_ofNat_of_zero_le hp.1
  have hn : n < 256 := by omega
  refine vc134 _ _ ?_
  refine loop_rule (ι := Nat) (fun i => head134_0 n ((widN n i : Nat) : Int) i) (fun i => i ≤ 8) (fun i => 8 - i) 0 rfl (by omega) ?_
  intro i hi
  refine vc134_l0 _ _ _ _ _ ?_
  (simp only [bif_tl, bif_fr, bif_tlf, bif_frf, Bool.not_eq_true', Bool.not_eq_false', decide_eq_true_eq, decide_eq_false_iff_not, beq_iff_eq, beq_eq_false_iff_ne, bne_iff_ne, ne_eq, bne_eq_false_iff_eq, Bool.or_eq_true, Bool.and_eq_true, Bool.or_eq_false_iff, Bool.and_eq_false_imp])
  refine ⟨fun hc => ⟨by omega, fun hq => ⟨by unfold InR; omega, by omega, by unfold InR; omega, i + 1, ?_, by omega, by omega⟩, fun hq => ⟨by unfold InR; omega, i + 1, ?_, by omega, by omega⟩⟩, fun hc => ?_⟩
  · have h1 := bit_of ⟨n, hn⟩ ⟨i, by omega⟩
    have h2 := or_byte ⟨n, hn⟩ ⟨i, by omega⟩
    simp only at h1 h2
    rw [h1] at hq
    rw [h2]
    have e : widN n (i + 1) = widN n i + 255 * 2 ^ (8 * i) := by simp only [widN]; rw [if_pos (by omega)]
    rw [e]
    rfl
  · have h1 := bit_of ⟨n, hn⟩ ⟨i, by omega⟩
    simp only at h1
    rw [h1] at hq
    have e : widN n (i + 1) = widN n i := by simp only [widN]; rw [if_neg (by omega)]; omega
    rw [e]
    rfl
  · have : i = 8 := by omega
    subst this
    exact ends_int rfl rfl

theorem ofInt_nat (a : Nat) (h : a < 2 ^ 64) : (BitVec.ofInt 64 (a : Int)).toNat = a := by
  rw [BitVec.toNat_ofInt]
  omega

theorem c127 : Contract Try.prog cfg 127 spec127 := by
  refine make127 c134 ?_
  intro a b m _ hp
  simp only [pre127] at hp
  obtain ⟨⟨a0, a1⟩, ⟨b0, b1⟩, m0, m1⟩ := hp
  obtain ⟨x, rfl⟩ := Int.eq_ofNat_of_zero_le a0
  obtain ⟨y, rfl⟩ := Int.eq_ofNat_of_zero_le b0
  obtain ⟨n, rfl⟩ := Int.eq_ofNat_of_zero_le m0
  have hn : n < 256 := by omega
  have hx : x < 2 ^ 64 := by omega
  have hy : y < 2 ^ 64 := by omega
  have hw := widW_lt ⟨n, hn⟩
  have hw2 := widN_eq ⟨n, hn⟩
  simp only at hw hw2
  rw [← hw2] at hw
  refine vc127 _ _ _ _ ?_
  refine ⟨⟨m0, m1⟩, ⟨m0, m1⟩, ends_int rfl ?_⟩
  have em : mix x y n = (((x &&& (2 ^ 64 - 1 - widN n 8)) ||| (y &&& widN n 8) : Nat) : Int) := by rw [← mixW_mix, ← mix_bits x y n hn]
  have e1 : (BitVec.ofInt 64 (x : Int) &&& ~~~(BitVec.ofInt 64 ((widN n 8 : Nat) : Int))).toNat = x &&& (2 ^ 64 - 1 - widN n 8) := by
    rw [BitVec.toNat_and, BitVec.toNat_not, ofInt_nat x hx, ofInt_nat _ hw]
  have e2 : (BitVec.ofInt 64 (y : Int) &&& BitVec.ofInt 64 ((widN n 8 : Nat) : Int)).toNat = y &&& widN n 8 := by
    rw [BitVec.toNat_and, ofInt_nat y hy, ofInt_nat _ hw]
  have l1 : x &&& (2 ^ 64 - 1 - widN n 8) < 2 ^ 64 := Nat.lt_of_le_of_lt Nat.and_le_left hx
  have l2 : y &&& widN n 8 < 2 ^ 64 := Nat.lt_of_le_of_lt Nat.and_le_left hy
  have l3 : (x &&& (2 ^ 64 - 1 - widN n 8)) ||| (y &&& widN n 8) < 2 ^ 64 := Nat.or_lt_two_pow l1 l2
  have key : IntKind.wrap .u64 ((BitVec.ofInt 64 (IntKind.wrap .u64 ((BitVec.ofInt 64 (x : Int) &&& ~~~(BitVec.ofInt 64 ((widN n 8 : Nat) : Int))).toNat : Int)) ||| BitVec.ofInt 64 (IntKind.wrap .u64 ((BitVec.ofInt 64 (y : Int) &&& BitVec.ofInt 64 ((widN n 8 : Nat) : Int)).toNat : Int))).toNat : Int) = mix x y n := by
    have w1 : ∀ k : Nat, k < 2 ^ 64 → IntKind.wrap .u64 (k : Int) = k := fun k hk => wrap_u64 (by omega) (by omega)
    rw [e1, e2, w1 _ l1, w1 _ l2, BitVec.toNat_or, ofInt_nat _ l1, ofInt_nat _ l2, w1 _ l3, em]
  exact key

theorem c119 : Contract Try.prog cfg 119 spec119 := by
  refine make119 c46 ?_
  intro t _ hp
  refine vc119 _ _ ?_
  (simp only [Tree.eta, Edit.eta, Tree.kind_mk, Tree.words_mk, Tree.kids_mk])
  refine ⟨fun _ => hp, ends_bool rfl ?_⟩
  rw [Bool.eq_iff_iff]
  (simp only [bif_tl, bif_fr, bif_tlf, bif_frf, Bool.not_eq_true', Bool.not_eq_false', decide_eq_true_eq, decide_eq_false_iff_not, beq_iff_eq, beq_eq_false_iff_ne, bne_iff_ne, ne_eq, bne_eq_false_iff_eq, Bool.or_eq_true, Bool.and_eq_true, Bool.or_eq_false_iff, Bool.and_eq_false_imp])

theorem c137 : Contract Try.prog cfg 137 spec137 := by
  refine make137 c46 ?_
  intro list t _ hp
  simp only [pre137] at hp
  refine vc137 _ _ _ ?_
  (simp only [Tree.eta, Edit.eta, Tree.kind_mk, Tree.words_mk, Tree.kids_mk])
  refine ⟨⟨?_, ?_⟩, by (repeat' (first | exact trivial | exact rfl | refine And.intro ?_ ?_))⟩
  · simp only [mass, massK, List.length_nil]; omega
  · simp only [rng, rngK]
    have hi := hp.2.2
    unfold isI at hi
    exact ⟨hi, by simp, hp.2.1, trivial⟩

theorem c138 : Contract Try.prog cfg 138 spec138 := by
  refine make138 c49 ?_
  intro list e _ hp
  refine vc138 _ _ _ ?_
  (simp only [bif_tl, bif_fr, bif_tlf, bif_frf, Bool.not_eq_true', Bool.not_eq_false', decide_eq_true_eq, decide_eq_false_iff_not, beq_iff_eq, beq_eq_false_iff_ne, bne_iff_ne, ne_eq, bne_eq_false_iff_eq, Bool.or_eq_true, Bool.and_eq_true, Bool.or_eq_false_iff, Bool.and_eq_false_imp])
  refine ⟨trivial, fun h => ?_, fun h => ⟨fun h2 => ?_, fun h2 => ?_⟩⟩
  · exact ends_bool rfl (by show false = withinB list e; unfold withinB; rw [if_pos h])
  · exact ends_bool rfl (by show true = withinB list e; unfold withinB; rw [if_neg (by omega), if_pos h2])
  · refine ends_bool rfl ?_
    show _ = withinB list e
    unfold withinB
    rw [if_neg (by omega), if_neg (by omega), Bool.eq_iff_iff]
    (simp only [bif_tl, bif_fr, bif_tlf, bif_frf, Bool.not_eq_true', Bool.not_eq_false', decide_eq_true_eq, decide_eq_false_iff_not, beq_iff_eq, beq_eq_false_iff_ne, bne_iff_ne, ne_eq, bne_eq_false_iff_eq, Bool.or_eq_true, Bool.and_eq_true, Bool.or_eq_false_iff, Bool.and_eq_false_imp])
    omega

theorem wordsOk_cons (last : Int) (w : WEdit) (r : List WEdit) : wordsOk last (w :: r) = (decide (last < w.at_ ∧ w.at_ ≤ 65534 ∧ w.mask ≠ 0) && withinW w.old w.mask && withinW w.new w.mask && wordsOk w.at_ r) := rfl

theorem c120 : Contract Try.prog cfg 120 spec120 := by
  refine make120 c127 ?_
  intro l _ hp
  simp only [pre120] at hp
  refine vc120 _ _ ?_
  refine loop_rule (ι := Int) (fun i => head120_0 l i) (fun i => 0 ≤ i ∧ i ≤ l.length ∧ (i ≠ 0 → 0 ≤ (l.getD (i - 1).toNat (WEdit.mk 0 0 0 0)).at_) ∧ wordsOk (if i = 0 then -1 else (l.getD (i - 1).toNat (WEdit.mk 0 0 0 0)).at_) (l.drop i.toNat) = wordsOk (-1) l) (fun i => ((l.length : Int) - i).toNat) 0 rfl ⟨by omega, by omega, by simp, by simp⟩ ?_
  rintro i ⟨h1, h2, hpos, h3⟩
  refine vc120_l0 _ _ _ _ ?_
  rintro y1 hy1 y2 hy2
  (simp only [bif_tl, bif_fr, bif_tlf, bif_frf, Bool.not_eq_true', Bool.not_eq_false', decide_eq_true_eq, decide_eq_false_iff_not, beq_iff_eq, beq_eq_false_iff_ne, bne_iff_ne, ne_eq, bne_eq_false_iff_eq, Bool.or_eq_true, Bool.and_eq_true, Bool.or_eq_false_iff, Bool.and_eq_false_imp])
  refine ⟨fun hi => ?_, fun hi => ?_⟩
  · have hm := hp.2 _ (mem_getD (l := l) (i := i.toNat) (by omega) (WEdit.mk 0 0 0 0))
    rw [dropI h1 hi (WEdit.mk 0 0 0 0), wordsOk_cons] at h3
    rw [← hy1] at h3 hm
    rw [← hy2] at h3 hpos
    obtain ⟨r1, r2, r3, r4⟩ := hm
    unfold isW at r3 r4
    have hw : ∀ x : Int, withinW x y1.mask = decide (mix x 0 y1.mask = 0) := fun x => rfl
    refine ⟨⟨h1, hi⟩, fun _ => by unfold InR; omega, fun _ => ⟨by omega, by omega⟩, fun hq => ?_, fun hq => ⟨⟨r3, by dsimp only; omega, r2⟩, fun _ => ⟨r4, by dsimp only; omega, r2⟩, fun hz => ?_, fun hz => ⟨by unfold InR; omega, i + 1, rfl, ⟨by omega, by omega, fun _ => by rw [show i + 1 - 1 = i by omega, ← hy1]; omega, ?_⟩, by omega⟩⟩⟩
    · refine ends_bool rfl ?_
      show false = wordsOk (-1) l
      rw [← h3, decide_eq_false]
      · rfl
      · split <;> omega
    · refine ends_bool rfl ?_
      show false = wordsOk (-1) l
      rw [← h3, hw, hw]
      rcases hz with hz | hz
      · rw [decide_eq_false hz]; simp
      · rw [decide_eq_false hz]; simp
    · rw [if_neg (by omega), show i + 1 - 1 = i by omega, ← hy1, ← h3, hw, hw, decide_eq_true hz.1, decide_eq_true hz.2, decide_eq_true]
      · simp
      · split <;> omega
  · rw [List.drop_of_length_le (by omega)] at h3
    exact ends_bool rfl (by show true = wordsOk (-1) l; rw [← h3]; rfl)

end Go.AM.Ytlahjnelghpmeaa

namespace Go.AM.Ytlahjnelghpmeaa
open Go.AM Go.Proofs

def args136 : ArgM (Tree × (Int × Unit) × Unit) := (.cons (aEl .tree) (.obj 0 (.cons (cInt .i64) .nil) .nil))
def pre136 (a : Tree × (Int × Unit) × Unit) : Prop := mass a.1 ≤ 900000 ∧ rng a.1 ∧ isI a.2.1.1
noncomputable def res136 (a : Tree × (Int × Unit) × Unit) : V U := .c (.bool (!(rightT (Tree.mk a.2.1.1 [] [a.1]) 64)))
noncomputable def resX136 (a : Tree × (Int × Unit) × Unit) : List (List (C U)) := [[.int .i64 a.2.1.1]]
noncomputable def spec136 : Fs U := fsX args136 (fun a => [pre136 a]) res136 resX136

def args139 : ArgM (List Tree × (Int × Unit) × Unit) := (.cons (aSl .tree) (.clo 136 0 (.cons (cInt .i64) .nil) .nil))
def pre139 (a : List Tree × (Int × Unit) × Unit) : Prop := massK a.1 ≤ 900000 ∧ rngK a.1 ∧ isI a.2.1.1
noncomputable def res139 (a : List Tree × (Int × Unit) × Unit) : V U := .c (.int .i64 (badAt a.2.1.1 a.1 0))
noncomputable def resX139 (a : List Tree × (Int × Unit) × Unit) : List (List (C U)) := [[.int .i64 a.2.1.1]]
noncomputable def spec139 : Fs U := fsX args139 (fun a => [pre139 a]) res139 resX139

def args135 : ArgM (List Tree × (Int × Unit) × Unit) := (.cons (aSl .tree) (.clo 136 0 (.cons (cInt .i64) .nil) .nil))
def pre135 (a : List Tree × (Int × Unit) × Unit) : Prop := massK a.1 ≤ 900000 ∧ rngK a.1 ∧ isI a.2.1.1
noncomputable def res135 (a : List Tree × (Int × Unit) × Unit) : V U := .c (.bool (!(treesOk a.2.1.1 a.1)))
noncomputable def resX135 (a : List Tree × (Int × Unit) × Unit) : List (List (C U)) := [[.int .i64 a.2.1.1]]
noncomputable def spec135 : Fs U := fsX args135 (fun a => [pre135 a]) res135 resX135

/-! cento/edit.op$1 -/
noncomputable def know136 : List (FuncId × Fs U) := [(137, spec137)]
def lv136 : Lives U := fun i => match i with
  | 0 => ([(1, []), (2, [])], [((.loc 2), []), ((.x 0), [])])
  | 1 => ([(3, [])], [((.x 0), [])])
  | _ => ([], [])
abbrev W136 (t : Tree) (list : Int) (Q : AExit → LSt U → Prop) : Prop := awp cfg (know know136) (drawOk cfg (know know136)) Try.f136.ntmps lv136 (cd Try.f136 []) (⟨[(0, .agg [.int .i64 (Tree.kind t), .slice (U := U) .u64 (Tree.words t) .unk, .slice (U := U) .tree (Tree.kids t) .unk]), (1, .ptr (.x 0) 0)], [((.x 0), [.int .i64 list])], []⟩ : LSt U) Q
/-- the body -/
theorem vc136 (t : Tree) (list : Int) (Q : AExit → LSt U → Prop) (h : (pre137 (list, (Tree.mk (Tree.kind t) (Tree.words t) (Tree.kids t)), ())) ∧ (Q .ret (⟨[(3, .c (.bool (!(rightT (Tree.mk list [] [(Tree.mk (Tree.kind t) (Tree.words t) (Tree.kids t))]) 64))))], [((.x 0), [.int .i64 list])], []⟩ : LSt U))) :
    W136 t list Q := by
  have e_ : (awp cfg (know know136) (drawOk cfg (know know136)) Try.f136.ntmps lv136 (cd Try.f136 []) (⟨[(0, .agg [.int .i64 (Tree.kind t), .slice (U := U) .u64 (Tree.words t) .unk, .slice (U := U) .tree (Tree.kids t) .unk]), (1, .ptr (.x 0) 0)], [((.x 0), [.int .i64 list])], []⟩ : LSt U) Q) = (((pre137 (list, (Tree.mk (Tree.kind t) (Tree.words t) (Tree.kids t)), ())) ∧ (Q .ret (⟨[(3, .c (.bool (!(rightT (Tree.mk list [] [(Tree.mk (Tree.kind t) (Tree.words t) (Tree.kids t))]) 64))))], [((.x 0), [.int .i64 list])], []⟩ : LSt U)))) := by kernel_rfl
  exact e_.mpr ⟨h.1, h.2⟩
def Body136 (t : Tree) (list : Int)  : Prop := awp cfg (know (know136)) (drawOk cfg (know (know136))) Try.f136.ntmps lv136 (cd Try.f136 []) (entry (args136.can (t, (list, ()), ())) (args136.canX (t, (list, ()), ()))) (EndsQ cfg Try.f136.ntmps Try.f136.results.toList (res136 (t, (list, ()), ())) (resX136 (t, (list, ()), ())))
theorem make136 (c137 : Contract Try.prog cfg 137 spec137) (hb : ∀ (t : Tree) (list : Int) (_ : Unit), pre136 (t, (list, ()), ()) → Body136 t list) : Contract Try.prog cfg 136 spec136 :=
  contractX_flat (l := [(137, spec137)]) cfgOk rfl (⟨c137, trivial⟩) lv136 Try.func136 rfl rfl 2 (fun _ => rfl) (by decide) (fun ⟨t, ⟨list, _⟩, _⟩ => hb t list ())

/-! slices.IndexFunc[[]cento/api.Tree,cento/api.Tree] -/
noncomputable def know139 : List (FuncId × Fs U) := [(136, spec136)]
def lv139 : Lives U := fun i => match i with
  | 0 => ([(0, []), (1, [])], [((.x 0), [])])
  | 1 => ([(0, []), (1, []), (7, []), (8, [])], [((.x 0), [])])
  | 2 => ([(0, []), (1, []), (7, []), (8, []), (9, [])], [((.x 0), [])])
  | 3 => ([(0, []), (1, []), (5, []), (7, []), (8, [])], [((.x 0), [])])
  | 4 => ([(0, []), (1, []), (5, []), (7, []), (8, []), (16, [])], [((.x 0), [])])
  | 5 => ([(4, [])], [((.x 0), [])])
  | 6 => ([(0, []), (1, []), (7, []), (8, [])], [((.x 0), [])])
  | 7 => ([(4, [])], [((.x 0), [])])
  | _ => ([], [])
def head139_0 (l : List Tree) (list : Int) (x8 : Int) : LSt U := (⟨[(0, .c (.slice (U := U) .tree l .unk)), (1, .clo 136 [(.x 0)]), (7, .c (.int .i64 (l.length : Int))), (8, .c (.int .i64 x8))], [((.x 0), [.int .i64 list])], []⟩ : LSt U)
abbrev W139 (l : List Tree) (list : Int) (Q : AExit → LSt U → Prop) : Prop := awp cfg (know know139) (drawOk cfg (know know139)) Try.f139.ntmps lv139 (cd Try.f139 []) (⟨[(0, .c (.slice (U := U) .tree l .unk)), (1, .clo 136 [(.x 0)])], [((.x 0), [.int .i64 list])], []⟩ : LSt U) Q
/-- the body -/
theorem vc139 (l : List Tree) (list : Int) (Q : AExit → LSt U → Prop) (h : LoopWp (awp cfg (know know139) (drawOk cfg (know know139)) Try.f139.ntmps lv139 (cd Try.f139 [1, 0, 1, 0, 0])) (head139_0 l list 0) (AExit.inBlock 0 (seqK cfg (know know139) (drawOk cfg (know know139)) Try.f139.ntmps lv139 (cd Try.f139 [1, 1]) Q))) :
    W139 l list Q := by
  have e_ : (awp cfg (know know139) (drawOk cfg (know know139)) Try.f139.ntmps lv139 (cd Try.f139 []) (⟨[(0, .c (.slice (U := U) .tree l .unk)), (1, .clo 136 [(.x 0)])], [((.x 0), [.int .i64 list])], []⟩ : LSt U) Q) = (((LoopWp (awp cfg (know know139) (drawOk cfg (know know139)) Try.f139.ntmps lv139 (cd Try.f139 [1, 0, 1, 0, 0])) (head139_0 l list 0) (AExit.inBlock 0 (seqK cfg (know know139) (drawOk cfg (know know139)) Try.f139.ntmps lv139 (cd Try.f139 [1, 1]) Q))))) := by kernel_rfl
  exact e_.mpr h
abbrev W139_l0 (l : List Tree) (list : Int) (x8 : Int) (N0 : LSt U → Prop) (Q : AExit → LSt U → Prop) : Prop := awp cfg (know know139) (drawOk cfg (know know139)) Try.f139.ntmps lv139 (cd Try.f139 [1, 0, 1, 0, 0]) (head139_0 l list x8) (AExit.then N0 (AExit.inBlock 0 (seqK cfg (know know139) (drawOk cfg (know know139)) Try.f139.ntmps lv139 (cd Try.f139 [1, 1]) Q)))
/-- the loop at [1, 0, 1, 0] -/
theorem vc139_l0 (l : List Tree) (list : Int) (x8 : Int) (N0 : LSt U → Prop) (Q : AExit → LSt U → Prop) (h : ((decide ((x8 : Int) < (l.length : Int))) = true → ((0 : Int) ≤ x8 ∧ x8 < (l.length : Int)) ∧ (pre136 ((Tree.mk (Tree.kind (List.getD l (Int.toNat x8) Tree.nil)) (Tree.words (List.getD l (Int.toNat x8) Tree.nil)) (Tree.kids (List.getD l (Int.toNat x8) Tree.nil))), (list, ()), ())) ∧ (((!(rightT (Tree.mk list [] [(Tree.mk (Tree.kind (List.getD l (Int.toNat x8) Tree.nil)) (Tree.words (List.getD l (Int.toNat x8) Tree.nil)) (Tree.kids (List.getD l (Int.toNat x8) Tree.nil)))]) 64)) = true → Q .ret (⟨[(4, .c (.int .i64 x8))], [((.x 0), [.int .i64 list])], []⟩ : LSt U)) ∧ ((!(rightT (Tree.mk list [] [(Tree.mk (Tree.kind (List.getD l (Int.toNat x8) Tree.nil)) (Tree.words (List.getD l (Int.toNat x8) Tree.nil)) (Tree.kids (List.getD l (Int.toNat x8) Tree.nil)))]) 64)) = false → (InR ((x8 : Int) + 1)) ∧ (N0 (head139_0 l list ((x8 : Int) + 1)))))) ∧ ((decide ((x8 : Int) < (l.length : Int))) = false → Q .ret (⟨[(4, .c (.int .i64 (-1)))], [((.x 0), [.int .i64 list])], []⟩ : LSt U))) :
    W139_l0 l list x8 N0 Q := by
  have e_ : (awp cfg (know know139) (drawOk cfg (know know139)) Try.f139.ntmps lv139 (cd Try.f139 [1, 0, 1, 0, 0]) (head139_0 l list x8) (AExit.then N0 (AExit.inBlock 0 (seqK cfg (know know139) (drawOk cfg (know know139)) Try.f139.ntmps lv139 (cd Try.f139 [1, 1]) Q)))) = ((((decide ((x8 : Int) < (l.length : Int))) = true → (((0 : Int) ≤ x8 ∧ x8 < (l.length : Int)) ∧ (pre136 ((Tree.mk (Tree.kind (List.getD l (Int.toNat x8) Tree.nil)) (Tree.words (List.getD l (Int.toNat x8) Tree.nil)) (Tree.kids (List.getD l (Int.toNat x8) Tree.nil))), (list, ()), ())) ∧ (((!(rightT (Tree.mk list [] [(Tree.mk (Tree.kind (List.getD l (Int.toNat x8) Tree.nil)) (Tree.words (List.getD l (Int.toNat x8) Tree.nil)) (Tree.kids (List.getD l (Int.toNat x8) Tree.nil)))]) 64)) = true → (Q .ret (⟨[(4, .c (.int .i64 x8))], [((.x 0), [.int .i64 list])], []⟩ : LSt U))) ∧ ((!(rightT (Tree.mk list [] [(Tree.mk (Tree.kind (List.getD l (Int.toNat x8) Tree.nil)) (Tree.words (List.getD l (Int.toNat x8) Tree.nil)) (Tree.kids (List.getD l (Int.toNat x8) Tree.nil)))]) 64)) = false → (InR ((x8 : Int) + 1)) ∧ (N0 (head139_0 l list ((x8 : Int) + 1))))))) ∧ ((decide ((x8 : Int) < (l.length : Int))) = false → (Q .ret (⟨[(4, .c (.int .i64 (-1)))], [((.x 0), [.int .i64 list])], []⟩ : LSt U))))) := by kernel_rfl
  exact e_.mpr ⟨fun c_1 => ⟨(h.1 c_1).1, (h.1 c_1).2.1, ⟨fun c_2 => ((h.1 c_1).2.2.1 c_2), fun c_2 => ⟨((h.1 c_1).2.2.2 c_2).1, ((h.1 c_1).2.2.2 c_2).2⟩⟩⟩, fun c_1 => (h.2 c_1)⟩
def Body139 (l : List Tree) (list : Int)  : Prop := awp cfg (know (know139)) (drawOk cfg (know (know139))) Try.f139.ntmps lv139 (cd Try.f139 []) (entry (args139.can (l, (list, ()), ())) (args139.canX (l, (list, ()), ()))) (EndsQ cfg Try.f139.ntmps Try.f139.results.toList (res139 (l, (list, ()), ())) (resX139 (l, (list, ()), ())))
theorem make139 (c136 : Contract Try.prog cfg 136 spec136) (hb : ∀ (l : List Tree) (list : Int) (_ : Unit), pre139 (l, (list, ()), ()) → Body139 l list) : Contract Try.prog cfg 139 spec139 :=
  contractX_flat (l := [(136, spec136)]) cfgOk rfl (⟨c136, trivial⟩) lv139 Try.func139 rfl rfl 2 (fun _ => rfl) (by decide) (fun ⟨l, ⟨list, _⟩, _⟩ => hb l list ())

/-! slices.ContainsFunc[[]cento/api.Tree,cento/api.Tree] -/
noncomputable def know135 : List (FuncId × Fs U) := [(139, spec139)]
def lv135 : Lives U := fun i => match i with
  | 0 => ([(0, []), (1, [])], [((.x 0), [])])
  | 1 => ([(4, [])], [((.x 0), [])])
  | _ => ([], [])
abbrev W135 (l : List Tree) (list : Int) (Q : AExit → LSt U → Prop) : Prop := awp cfg (know know135) (drawOk cfg (know know135)) Try.f135.ntmps lv135 (cd Try.f135 []) (⟨[(0, .c (.slice (U := U) .tree l .unk)), (1, .clo 136 [(.x 0)])], [((.x 0), [.int .i64 list])], []⟩ : LSt U) Q
/-- the body -/
theorem vc135 (l : List Tree) (list : Int) (Q : AExit → LSt U → Prop) (h : (pre139 (l, (list, ()), ())) ∧ (Q .ret (⟨[(4, .c (.bool (decide ((0 : Int) ≤ (badAt list l 0)))))], [((.x 0), [.int .i64 list])], []⟩ : LSt U))) :
    W135 l list Q := by
  have e_ : (awp cfg (know know135) (drawOk cfg (know know135)) Try.f135.ntmps lv135 (cd Try.f135 []) (⟨[(0, .c (.slice (U := U) .tree l .unk)), (1, .clo 136 [(.x 0)])], [((.x 0), [.int .i64 list])], []⟩ : LSt U) Q) = (((pre139 (l, (list, ()), ())) ∧ (Q .ret (⟨[(4, .c (.bool (decide ((0 : Int) ≤ (badAt list l 0)))))], [((.x 0), [.int .i64 list])], []⟩ : LSt U)))) := by kernel_rfl
  exact e_.mpr ⟨h.1, h.2⟩
def Body135 (l : List Tree) (list : Int)  : Prop := awp cfg (know (know135)) (drawOk cfg (know (know135))) Try.f135.ntmps lv135 (cd Try.f135 []) (entry (args135.can (l, (list, ()), ())) (args135.canX (l, (list, ()), ()))) (EndsQ cfg Try.f135.ntmps Try.f135.results.toList (res135 (l, (list, ()), ())) (resX135 (l, (list, ()), ())))
theorem make135 (c139 : Contract Try.prog cfg 139 spec139) (hb : ∀ (l : List Tree) (list : Int) (_ : Unit), pre135 (l, (list, ()), ()) → Body135 l list) : Contract Try.prog cfg 135 spec135 :=
  contractX_flat (l := [(139, spec139)]) cfgOk rfl (⟨c139, trivial⟩) lv135 Try.func135 rfl rfl 2 (fun _ => rfl) (by decide) (fun ⟨l, ⟨list, _⟩, _⟩ => hb l list ())

end Go.AM.Ytlahjnelghpmeaa

namespace Go.AM.Ytlahjnelghpmeaa
open Go.AM Go.Proofs

theorem c136 : Contract Try.prog cfg 136 spec136 := by
  refine make136 c137 ?_
  intro t list _ hp
  simp only [pre136] at hp
  refine vc136 _ _ _ ?_
  (simp only [Tree.eta, Edit.eta, Tree.kind_mk, Tree.words_mk, Tree.kids_mk])
  refine ⟨by simp only [pre137]; exact hp, ?_⟩
  simp only [res136, resX136]
  (repeat' (first | exact trivial | exact rfl | refine And.intro ?_ ?_))

theorem badAt_drop {list : Int} {l : List Tree} : ∀ (i : Nat), (∀ t ∈ l.take i, rightT (Tree.mk list [] [t]) 64 = true) → i ≤ l.length → badAt list l 0 = badAt list (l.drop i) i
  | 0, _, _ => by simp
  | i + 1, h, hi => by
    have ih := badAt_drop i (fun t ht => h t (by rw [List.take_add_one]; exact List.mem_append.2 (Or.inl ht))) (by omega)
    rw [ih]
    have e : l.drop i = l.getD i Tree.nil :: l.drop (i + 1) := by
      have := dropI (l := l) (i := (i : Int)) (by omega) (by omega) Tree.nil
      simpa using this
    have hm : l.getD i Tree.nil ∈ l.take (i + 1) := by
      rw [List.mem_take_iff_getElem]
      exact ⟨i, by omega, by simp [List.getD, List.getElem?_eq_getElem (show i < l.length by omega)]⟩
    rw [e, badAt, if_pos (h _ hm)]
    simp

theorem c139 : Contract Try.prog cfg 139 spec139 := by
  refine make139 c136 ?_
  intro l list _ hp
  simp only [pre139] at hp
  refine vc139 _ _ _ ?_
  refine loop_rule (ι := Int) (fun s => head139_0 l list s) (fun s => 0 ≤ s ∧ s ≤ l.length ∧ ∀ t ∈ l.take s.toNat, rightT (Tree.mk list [] [t]) 64 = true) (fun s => ((l.length : Int) - s).toNat) 0 rfl ⟨by simp, by simp, by simp⟩ ?_
  rintro i ⟨g1, g2, g3⟩
  have hb := badAt_drop (list := list) (l := l) i.toNat g3 (by omega)
  have hl := massK_len l
  refine vc139_l0 _ _ _ _ _ ?_
  (simp only [bif_tl, bif_fr, bif_tlf, bif_frf, Bool.not_eq_true', Bool.not_eq_false', decide_eq_true_eq, decide_eq_false_iff_not, beq_iff_eq, beq_eq_false_iff_ne, bne_iff_ne, ne_eq, bne_eq_false_iff_eq, Bool.or_eq_true, Bool.and_eq_true, Bool.or_eq_false_iff, Bool.and_eq_false_imp])
  (simp only [Tree.eta, Edit.eta, Tree.kind_mk, Tree.words_mk, Tree.kids_mk])
  refine ⟨fun hi => ⟨⟨g1, hi⟩, ?_, fun hc => ?_, fun hc => ?_⟩, fun hi => ?_⟩
  · have hm := mem_getD (l := l) (i := i.toNat) (by omega) Tree.nil
    simp only [pre136]
    have h1 := massK_mem hm
    exact ⟨by omega, rngK_mem hp.2.1 hm, hp.2.2⟩
  · rw [dropI g1 hi Tree.nil, badAt, if_neg (by rw [hc]; decide)] at hb
    simp only [res139, resX139]
    rw [hb, show ((i.toNat : Nat) : Int) = i by omega]
    (repeat' (first | exact trivial | exact rfl | refine And.intro ?_ ?_))
  · refine ⟨by unfold InR; omega, i + 1, rfl, ⟨by omega, by omega, fun t ht => ?_⟩, by omega⟩
    rw [show (i + 1).toNat = i.toNat + 1 by omega, List.take_add_one] at ht
    rcases List.mem_append.1 ht with ht | ht
    · exact g3 t ht
    · have e : l[i.toNat]? = some (l.getD i.toNat Tree.nil) := by
        simp [List.getD, List.getElem?_eq_getElem (show i.toNat < l.length by omega)]
      rw [e] at ht
      simp only [Option.toList_some, List.mem_singleton] at ht
      subst ht
      exact hc
  · rw [List.drop_of_length_le (by omega)] at hb
    simp only [res139, resX139]
    rw [hb, badAt]
    (repeat' (first | exact trivial | exact rfl | refine And.intro ?_ ?_))

theorem c135 : Contract Try.prog cfg 135 spec135 := by
  refine make135 c139 ?_
  intro l list _ hp
  simp only [pre135] at hp
  refine vc135 _ _ _ ?_
  have hb := badAt_iff list l 0 (by decide)
  refine ⟨by simp only [pre139]; exact hp, ?_⟩
  have e : decide (0 ≤ badAt list l 0) = !(treesOk list l) := by
    rw [Bool.eq_iff_iff, decide_eq_true_eq, hb]
    cases treesOk list l <;> simp
  simp only [res135, resX135]
  rw [e]
  (repeat' (first | exact trivial | exact rfl | refine And.intro ?_ ?_))

end Go.AM.Ytlahjnelghpmeaa

namespace Go.AM
def wr (n : Int) : Int := IntKind.wrap .i64 n
def opLenW (o : Op) : Int := if o.kind = 3 then 1 else wr (o.n + o.l.length)
def capW (n : Int) : Int := if 1048576 < n then 1048576 else n
def lenAW : List Op → Int → Int
  | [], n => n
  | o :: r, n => lenAW r (if o.kind = 2 then n else capW (wr (n + opLenW o)))
def lenBW : List Op → Int → Int
  | [], n => n
  | o :: r, n => lenBW r (if o.kind = 1 then n else capW (wr (n + opLenW o)))
def bareE (e : Edit) : Bool :=
  if (e.kind ≠ 1 ∧ ¬(noneT e.old = true ∧ noneT e.new = true)) ∨ (e.kind ≠ 2 ∧ ¬(e.words.length = 0 ∧ e.kids.length = 0)) ∨ (e.kind ≠ 3 ∧ (e.list ≠ 0 ∨ e.ops.length ≠ 0)) then false else true
end Go.AM

namespace Go.AM.Ytlahjnelghpmeaa
open Go.AM Go.Proofs

def args56 : ArgL (Edit × Unit) := (.cons (aEl .edit) .nil)
def pre56 (a : Edit × Unit) : Prop := massE a.1 ≤ 1000000
noncomputable def res56 (a : Edit × Unit) : V U := .tup [(false, [.int .i64 (lenAW (Edit.ops a.1) 0)]), (false, [.int .i64 (lenBW (Edit.ops a.1) 0)])]
noncomputable def spec56 : Fs U := fs args56 (fun a => [pre56 a]) res56

/-! cento/edit.Lengths -/
noncomputable def know56 : List (FuncId × Fs U) := []
def lv56 : Lives U := fun i => match i with
  | 0 => ([(1, [])], [((.loc 1), [])])
  | 1 => ([(1, []), (4, []), (5, [])], [((.loc 1), [])])
  | 2 => ([(4, []), (5, []), (10, []), (11, []), (12, [])], [])
  | 3 => ([(4, []), (5, []), (10, []), (11, []), (12, []), (13, [])], [])
  | 4 => ([(4, []), (5, []), (7, []), (10, []), (11, []), (12, [])], [((.loc 7), [])])
  | 5 => ([(4, []), (5, []), (7, []), (8, []), (10, []), (11, []), (12, [])], [((.loc 7), [])])
  | 6 => ([(4, []), (5, []), (7, []), (8, []), (10, []), (11, []), (12, []), (24, [])], [((.loc 7), [])])
  | 7 => ([(4, []), (5, []), (7, []), (8, []), (10, []), (11, []), (12, []), (24, [])], [((.loc 7), [])])
  | 8 => ([(4, []), (5, []), (7, []), (8, []), (10, []), (11, []), (12, []), (27, [])], [((.loc 7), [])])
  | 9 => ([(4, []), (5, []), (7, []), (8, []), (10, []), (11, []), (12, []), (27, [])], [((.loc 7), [])])
  | 10 => ([(4, []), (5, []), (8, []), (10, []), (11, []), (12, []), (34, [])], [])
  | 11 => ([(4, []), (5, []), (10, []), (11, []), (12, [])], [])
  | 12 => ([(4, []), (5, []), (10, []), (11, []), (12, [])], [])
  | 13 => ([(2, []), (3, [])], [])
  | _ => ([], [])
def head56_0 (e : Edit) (x4 : Int) (x5 : Int) (x12 : Int) : LSt U := (⟨[(4, .c (.int .i64 x4)), (5, .c (.int .i64 x5)), (10, .c (.slice (U := U) .op (Edit.ops e) .unk)), (11, .c (.int .i64 ((Edit.ops e).length : Int))), (12, .c (.int .i64 x12))], [], []⟩ : LSt U)
def head56_1 (e : Edit) (x4 : Int) (x5 : Int) (x12 : Int) (x8_a : Int) : LSt U := (⟨[(4, .c (.int .i64 x4)), (5, .c (.int .i64 x5)), (7, .ptr (.loc 7) 0), (8, .c (.int .i64 x8_a)), (10, .c (.slice (U := U) .op (Edit.ops e) .unk)), (11, .c (.int .i64 ((Edit.ops e).length : Int))), (12, .c (.int .i64 x12)), (24, .c (.bool (((OpOf.kind (List.getD (Edit.ops e) (Int.toNat x12) Op.nil)) : Int) == 3)))], [((.loc 7), [.int .i64 (OpOf.kind (List.getD (Edit.ops e) (Int.toNat x12) Op.nil)), .int .i64 (OpOf.n (List.getD (Edit.ops e) (Int.toNat x12) Op.nil)), .slice (U := U) .tree (OpOf.l (List.getD (Edit.ops e) (Int.toNat x12) Op.nil)) .unk, .int .i64 (Edit.kind (OpOf.e (List.getD (Edit.ops e) (Int.toNat x12) Op.nil))), .int .i64 (Tree.kind (Edit.old (OpOf.e (List.getD (Edit.ops e) (Int.toNat x12) Op.nil)))), .slice (U := U) .u64 (Tree.words (Edit.old (OpOf.e (List.getD (Edit.ops e) (Int.toNat x12) Op.nil)))) .unk, .slice (U := U) .tree (Tree.kids (Edit.old (OpOf.e (List.getD (Edit.ops e) (Int.toNat x12) Op.nil)))) .unk, .int .i64 (Tree.kind (Edit.new (OpOf.e (List.getD (Edit.ops e) (Int.toNat x12) Op.nil)))), .slice (U := U) .u64 (Tree.words (Edit.new (OpOf.e (List.getD (Edit.ops e) (Int.toNat x12) Op.nil)))) .unk, .slice (U := U) .tree (Tree.kids (Edit.new (OpOf.e (List.getD (Edit.ops e) (Int.toNat x12) Op.nil)))) .unk, .slice (U := U) .wedit (Edit.words (OpOf.e (List.getD (Edit.ops e) (Int.toNat x12) Op.nil))) .unk, .slice (U := U) .kid (Edit.kids (OpOf.e (List.getD (Edit.ops e) (Int.toNat x12) Op.nil))) .unk, .int .i64 (Edit.list (OpOf.e (List.getD (Edit.ops e) (Int.toNat x12) Op.nil))), .slice (U := U) .op (Edit.ops (OpOf.e (List.getD (Edit.ops e) (Int.toNat x12) Op.nil))) .unk])], []⟩ : LSt U)
def head56_2 (e : Edit) (x5 : Int) (x12 : Int) (x8_a : Int) (x4_b : Int) : LSt U := (⟨[(4, .c (.int .i64 x4_b)), (5, .c (.int .i64 x5)), (7, .ptr (.loc 7) 0), (8, .c (.int .i64 x8_a)), (10, .c (.slice (U := U) .op (Edit.ops e) .unk)), (11, .c (.int .i64 ((Edit.ops e).length : Int))), (12, .c (.int .i64 x12)), (27, .c (.bool (((OpOf.kind (List.getD (Edit.ops e) (Int.toNat x12) Op.nil)) : Int) != 2)))], [((.loc 7), [.int .i64 (OpOf.kind (List.getD (Edit.ops e) (Int.toNat x12) Op.nil)), .int .i64 (OpOf.n (List.getD (Edit.ops e) (Int.toNat x12) Op.nil)), .slice (U := U) .tree (OpOf.l (List.getD (Edit.ops e) (Int.toNat x12) Op.nil)) .unk, .int .i64 (Edit.kind (OpOf.e (List.getD (Edit.ops e) (Int.toNat x12) Op.nil))), .int .i64 (Tree.kind (Edit.old (OpOf.e (List.getD (Edit.ops e) (Int.toNat x12) Op.nil)))), .slice (U := U) .u64 (Tree.words (Edit.old (OpOf.e (List.getD (Edit.ops e) (Int.toNat x12) Op.nil)))) .unk, .slice (U := U) .tree (Tree.kids (Edit.old (OpOf.e (List.getD (Edit.ops e) (Int.toNat x12) Op.nil)))) .unk, .int .i64 (Tree.kind (Edit.new (OpOf.e (List.getD (Edit.ops e) (Int.toNat x12) Op.nil)))), .slice (U := U) .u64 (Tree.words (Edit.new (OpOf.e (List.getD (Edit.ops e) (Int.toNat x12) Op.nil)))) .unk, .slice (U := U) .tree (Tree.kids (Edit.new (OpOf.e (List.getD (Edit.ops e) (Int.toNat x12) Op.nil)))) .unk, .slice (U := U) .wedit (Edit.words (OpOf.e (List.getD (Edit.ops e) (Int.toNat x12) Op.nil))) .unk, .slice (U := U) .kid (Edit.kids (OpOf.e (List.getD (Edit.ops e) (Int.toNat x12) Op.nil))) .unk, .int .i64 (Edit.list (OpOf.e (List.getD (Edit.ops e) (Int.toNat x12) Op.nil))), .slice (U := U) .op (Edit.ops (OpOf.e (List.getD (Edit.ops e) (Int.toNat x12) Op.nil))) .unk])], []⟩ : LSt U)
abbrev W56 (e : Edit) (Q : AExit → LSt U → Prop) : Prop := awp cfg (knowW know56) (drawOk cfg (knowW know56)) Try.f56.ntmps lv56 (cd Try.f56 []) (⟨[(0, .agg [.int .i64 (Edit.kind e), .int .i64 (Tree.kind (Edit.old e)), .slice (U := U) .u64 (Tree.words (Edit.old e)) .unk, .slice (U := U) .tree (Tree.kids (Edit.old e)) .unk, .int .i64 (Tree.kind (Edit.new e)), .slice (U := U) .u64 (Tree.words (Edit.new e)) .unk, .slice (U := U) .tree (Tree.kids (Edit.new e)) .unk, .slice (U := U) .wedit (Edit.words e) .unk, .slice (U := U) .kid (Edit.kids e) .unk, .int .i64 (Edit.list e), .slice (U := U) .op (Edit.ops e) .unk])], [], []⟩ : LSt U) Q
/-- the body -/
theorem vc56 (e : Edit) (Q : AExit → LSt U → Prop) (h : LoopWp (awp cfg (knowW know56) (drawOk cfg (knowW know56)) Try.f56.ntmps lv56 (cd Try.f56 [1, 1, 0, 1, 0, 0])) (head56_0 e 0 0 0) (AExit.inBlock 0 (seqK cfg (knowW know56) (drawOk cfg (knowW know56)) Try.f56.ntmps lv56 (cd Try.f56 [1, 1, 1]) Q))) :
    W56 e Q := by
  have e_ : (awp cfg (knowW know56) (drawOk cfg (knowW know56)) Try.f56.ntmps lv56 (cd Try.f56 []) (⟨[(0, .agg [.int .i64 (Edit.kind e), .int .i64 (Tree.kind (Edit.old e)), .slice (U := U) .u64 (Tree.words (Edit.old e)) .unk, .slice (U := U) .tree (Tree.kids (Edit.old e)) .unk, .int .i64 (Tree.kind (Edit.new e)), .slice (U := U) .u64 (Tree.words (Edit.new e)) .unk, .slice (U := U) .tree (Tree.kids (Edit.new e)) .unk, .slice (U := U) .wedit (Edit.words e) .unk, .slice (U := U) .kid (Edit.kids e) .unk, .int .i64 (Edit.list e), .slice (U := U) .op (Edit.ops e) .unk])], [], []⟩ : LSt U) Q) = ((((LoopWp (awp cfg (knowW know56) (drawOk cfg (knowW know56)) Try.f56.ntmps lv56 (cd Try.f56 [1, 1, 0, 1, 0, 0])) (head56_0 e 0 0 0) (AExit.inBlock 0 (seqK cfg (knowW know56) (drawOk cfg (knowW know56)) Try.f56.ntmps lv56 (cd Try.f56 [1, 1, 1]) Q)))))) := by kernel_rfl
  exact e_.mpr h
abbrev W56_l0 (e : Edit) (x4 : Int) (x5 : Int) (x12 : Int) (N0 : LSt U → Prop) (Q : AExit → LSt U → Prop) : Prop := awp cfg (knowW know56) (drawOk cfg (knowW know56)) Try.f56.ntmps lv56 (cd Try.f56 [1, 1, 0, 1, 0, 0]) (head56_0 e x4 x5 x12) (AExit.then N0 (AExit.inBlock 0 (seqK cfg (knowW know56) (drawOk cfg (knowW know56)) Try.f56.ntmps lv56 (cd Try.f56 [1, 1, 1]) Q)))
/-- the loop at [1, 1, 0, 1, 0] -/
theorem vc56_l0 (e : Edit) (x4 : Int) (x5 : Int) (x12 : Int) (N0 : LSt U → Prop) (Q : AExit → LSt U → Prop) (h : ((decide ((x12 : Int) < ((Edit.ops e).length : Int))) = true → ((0 : Int) ≤ x12 ∧ x12 < ((Edit.ops e).length : Int)) ∧ (((((OpOf.kind (List.getD (Edit.ops e) (Int.toNat x12) Op.nil)) : Int) == 3) = true → awp cfg (knowW know56) (drawOk cfg (knowW know56)) Try.f56.ntmps lv56 (cd Try.f56 [1, 1, 0, 1, 0, 0, 1, 1, 0, 0, 1, 1, 1]) (head56_1 e x4 x5 x12 1) (AExit.inBlock 1 (seqK cfg (knowW know56) (drawOk cfg (knowW know56)) Try.f56.ntmps lv56 (cd Try.f56 [1, 1, 0, 1, 0, 0, 1, 1, 1]) (AExit.then N0 (AExit.inBlock 0 (seqK cfg (knowW know56) (drawOk cfg (knowW know56)) Try.f56.ntmps lv56 (cd Try.f56 [1, 1, 1]) Q)))))) ∧ ((((OpOf.kind (List.getD (Edit.ops e) (Int.toNat x12) Op.nil)) : Int) == 3) = false → awp cfg (knowW know56) (drawOk cfg (knowW know56)) Try.f56.ntmps lv56 (cd Try.f56 [1, 1, 0, 1, 0, 0, 1, 1, 0, 0, 1, 1, 1]) (head56_1 e x4 x5 x12 (IntKind.wrap .i64 (((OpOf.n (List.getD (Edit.ops e) (Int.toNat x12) Op.nil)) : Int) + ((OpOf.l (List.getD (Edit.ops e) (Int.toNat x12) Op.nil)).length : Int)))) (AExit.inBlock 1 (seqK cfg (knowW know56) (drawOk cfg (knowW know56)) Try.f56.ntmps lv56 (cd Try.f56 [1, 1, 0, 1, 0, 0, 1, 1, 1]) (AExit.then N0 (AExit.inBlock 0 (seqK cfg (knowW know56) (drawOk cfg (knowW know56)) Try.f56.ntmps lv56 (cd Try.f56 [1, 1, 1]) Q)))))))) ∧ ((decide ((x12 : Int) < ((Edit.ops e).length : Int))) = false → Q .ret (⟨[(2, .c (.int .i64 x4)), (3, .c (.int .i64 x5))], [], []⟩ : LSt U))) :
    W56_l0 e x4 x5 x12 N0 Q := by
  have e_ : (awp cfg (knowW know56) (drawOk cfg (knowW know56)) Try.f56.ntmps lv56 (cd Try.f56 [1, 1, 0, 1, 0, 0]) (head56_0 e x4 x5 x12) (AExit.then N0 (AExit.inBlock 0 (seqK cfg (knowW know56) (drawOk cfg (knowW know56)) Try.f56.ntmps lv56 (cd Try.f56 [1, 1, 1]) Q)))) = ((((decide ((x12 : Int) < ((Edit.ops e).length : Int))) = true → ((0 : Int) ≤ x12 ∧ x12 < ((Edit.ops e).length : Int)) ∧ (((((((OpOf.kind (List.getD (Edit.ops e) (Int.toNat x12) Op.nil)) : Int) == 3) = true → (awp cfg (knowW know56) (drawOk cfg (knowW know56)) Try.f56.ntmps lv56 (cd Try.f56 [1, 1, 0, 1, 0, 0, 1, 1, 0, 0, 1, 1, 1]) (head56_1 e x4 x5 x12 1) (AExit.inBlock 1 (seqK cfg (knowW know56) (drawOk cfg (knowW know56)) Try.f56.ntmps lv56 (cd Try.f56 [1, 1, 0, 1, 0, 0, 1, 1, 1]) (AExit.then N0 (AExit.inBlock 0 (seqK cfg (knowW know56) (drawOk cfg (knowW know56)) Try.f56.ntmps lv56 (cd Try.f56 [1, 1, 1]) Q))))))) ∧ ((((OpOf.kind (List.getD (Edit.ops e) (Int.toNat x12) Op.nil)) : Int) == 3) = false → awp cfg (knowW know56) (drawOk cfg (knowW know56)) Try.f56.ntmps lv56 (cd Try.f56 [1, 1, 0, 1, 0, 0, 1, 1, 0, 0, 1, 1, 1]) (head56_1 e x4 x5 x12 (IntKind.wrap .i64 (((OpOf.n (List.getD (Edit.ops e) (Int.toNat x12) Op.nil)) : Int) + ((OpOf.l (List.getD (Edit.ops e) (Int.toNat x12) Op.nil)).length : Int)))) (AExit.inBlock 1 (seqK cfg (knowW know56) (drawOk cfg (knowW know56)) Try.f56.ntmps lv56 (cd Try.f56 [1, 1, 0, 1, 0, 0, 1, 1, 1]) (AExit.then N0 (AExit.inBlock 0 (seqK cfg (knowW know56) (drawOk cfg (knowW know56)) Try.f56.ntmps lv56 (cd Try.f56 [1, 1, 1]) Q)))))))))) ∧ ((decide ((x12 : Int) < ((Edit.ops e).length : Int))) = false → (Q .ret (⟨[(2, .c (.int .i64 x4)), (3, .c (.int .i64 x5))], [], []⟩ : LSt U))))) := by kernel_rfl
  exact e_.mpr ⟨fun c_1 => ⟨(h.1 c_1).1, ⟨fun c_2 => ((h.1 c_1).2.1 c_2), fun c_2 => ((h.1 c_1).2.2 c_2)⟩⟩, fun c_1 => (h.2 c_1)⟩
abbrev W56_c1 (e : Edit) (x4 : Int) (x5 : Int) (x12 : Int) (x8_a : Int) (N0 : LSt U → Prop) (Q : AExit → LSt U → Prop) : Prop := awp cfg (knowW know56) (drawOk cfg (knowW know56)) Try.f56.ntmps lv56 (cd Try.f56 [1, 1, 0, 1, 0, 0, 1, 1, 0, 0, 1, 1, 1]) (head56_1 e x4 x5 x12 x8_a) (AExit.inBlock 1 (seqK cfg (knowW know56) (drawOk cfg (knowW know56)) Try.f56.ntmps lv56 (cd Try.f56 [1, 1, 0, 1, 0, 0, 1, 1, 1]) (AExit.then N0 (AExit.inBlock 0 (seqK cfg (knowW know56) (drawOk cfg (knowW know56)) Try.f56.ntmps lv56 (cd Try.f56 [1, 1, 1]) Q)))))
/-- what follows at [1, 1, 0, 1, 0, 0, 1, 1, 0, 0, 1, 1, 1] -/
theorem vc56_c1 (e : Edit) (x4 : Int) (x5 : Int) (x12 : Int) (x8_a : Int) (N0 : LSt U → Prop) (Q : AExit → LSt U → Prop) (h : ((((OpOf.kind (List.getD (Edit.ops e) (Int.toNat x12) Op.nil)) : Int) != 2) = true → awp cfg (knowW know56) (drawOk cfg (knowW know56)) Try.f56.ntmps lv56 (cd Try.f56 [1, 1, 0, 1, 0, 0, 1, 1, 0, 0, 1, 1, 1, 1]) (head56_2 e x5 x12 x8_a (if (1048576 : Int) < (IntKind.wrap .i64 ((x4 : Int) + x8_a)) then 1048576 else (IntKind.wrap .i64 ((x4 : Int) + x8_a)))) (AExit.inBlock 1 (seqK cfg (knowW know56) (drawOk cfg (knowW know56)) Try.f56.ntmps lv56 (cd Try.f56 [1, 1, 0, 1, 0, 0, 1, 1, 1]) (AExit.then N0 (AExit.inBlock 0 (seqK cfg (knowW know56) (drawOk cfg (knowW know56)) Try.f56.ntmps lv56 (cd Try.f56 [1, 1, 1]) Q)))))) ∧ ((((OpOf.kind (List.getD (Edit.ops e) (Int.toNat x12) Op.nil)) : Int) != 2) = false → awp cfg (knowW know56) (drawOk cfg (knowW know56)) Try.f56.ntmps lv56 (cd Try.f56 [1, 1, 0, 1, 0, 0, 1, 1, 0, 0, 1, 1, 1, 1]) (head56_2 e x5 x12 x8_a x4) (AExit.inBlock 1 (seqK cfg (knowW know56) (drawOk cfg (knowW know56)) Try.f56.ntmps lv56 (cd Try.f56 [1, 1, 0, 1, 0, 0, 1, 1, 1]) (AExit.then N0 (AExit.inBlock 0 (seqK cfg (knowW know56) (drawOk cfg (knowW know56)) Try.f56.ntmps lv56 (cd Try.f56 [1, 1, 1]) Q))))))) :
    W56_c1 e x4 x5 x12 x8_a N0 Q := by
  have e_ : (awp cfg (knowW know56) (drawOk cfg (knowW know56)) Try.f56.ntmps lv56 (cd Try.f56 [1, 1, 0, 1, 0, 0, 1, 1, 0, 0, 1, 1, 1]) (head56_1 e x4 x5 x12 x8_a) (AExit.inBlock 1 (seqK cfg (knowW know56) (drawOk cfg (knowW know56)) Try.f56.ntmps lv56 (cd Try.f56 [1, 1, 0, 1, 0, 0, 1, 1, 1]) (AExit.then N0 (AExit.inBlock 0 (seqK cfg (knowW know56) (drawOk cfg (knowW know56)) Try.f56.ntmps lv56 (cd Try.f56 [1, 1, 1]) Q)))))) = ((((((OpOf.kind (List.getD (Edit.ops e) (Int.toNat x12) Op.nil)) : Int) != 2) = true → (awp cfg (knowW know56) (drawOk cfg (knowW know56)) Try.f56.ntmps lv56 (cd Try.f56 [1, 1, 0, 1, 0, 0, 1, 1, 0, 0, 1, 1, 1, 1]) (head56_2 e x5 x12 x8_a (if (1048576 : Int) < (IntKind.wrap .i64 ((x4 : Int) + x8_a)) then 1048576 else (IntKind.wrap .i64 ((x4 : Int) + x8_a)))) (AExit.inBlock 1 (seqK cfg (knowW know56) (drawOk cfg (knowW know56)) Try.f56.ntmps lv56 (cd Try.f56 [1, 1, 0, 1, 0, 0, 1, 1, 1]) (AExit.then N0 (AExit.inBlock 0 (seqK cfg (knowW know56) (drawOk cfg (knowW know56)) Try.f56.ntmps lv56 (cd Try.f56 [1, 1, 1]) Q))))))) ∧ ((((OpOf.kind (List.getD (Edit.ops e) (Int.toNat x12) Op.nil)) : Int) != 2) = false → awp cfg (knowW know56) (drawOk cfg (knowW know56)) Try.f56.ntmps lv56 (cd Try.f56 [1, 1, 0, 1, 0, 0, 1, 1, 0, 0, 1, 1, 1, 1]) (head56_2 e x5 x12 x8_a x4) (AExit.inBlock 1 (seqK cfg (knowW know56) (drawOk cfg (knowW know56)) Try.f56.ntmps lv56 (cd Try.f56 [1, 1, 0, 1, 0, 0, 1, 1, 1]) (AExit.then N0 (AExit.inBlock 0 (seqK cfg (knowW know56) (drawOk cfg (knowW know56)) Try.f56.ntmps lv56 (cd Try.f56 [1, 1, 1]) Q)))))))) := by kernel_rfl
  exact e_.mpr ⟨fun c_3 => (h.1 c_3), fun c_3 => (h.2 c_3)⟩
abbrev W56_c2 (e : Edit) (x5 : Int) (x12 : Int) (x8_a : Int) (x4_b : Int) (N0 : LSt U → Prop) (Q : AExit → LSt U → Prop) : Prop := awp cfg (knowW know56) (drawOk cfg (knowW know56)) Try.f56.ntmps lv56 (cd Try.f56 [1, 1, 0, 1, 0, 0, 1, 1, 0, 0, 1, 1, 1, 1]) (head56_2 e x5 x12 x8_a x4_b) (AExit.inBlock 1 (seqK cfg (knowW know56) (drawOk cfg (knowW know56)) Try.f56.ntmps lv56 (cd Try.f56 [1, 1, 0, 1, 0, 0, 1, 1, 1]) (AExit.then N0 (AExit.inBlock 0 (seqK cfg (knowW know56) (drawOk cfg (knowW know56)) Try.f56.ntmps lv56 (cd Try.f56 [1, 1, 1]) Q)))))
/-- what follows at [1, 1, 0, 1, 0, 0, 1, 1, 0, 0, 1, 1, 1, 1] -/
theorem vc56_c2 (e : Edit) (x5 : Int) (x12 : Int) (x8_a : Int) (x4_b : Int) (N0 : LSt U → Prop) (Q : AExit → LSt U → Prop) (h : ((((OpOf.kind (List.getD (Edit.ops e) (Int.toNat x12) Op.nil)) : Int) != 1) = true → N0 (head56_0 e x4_b (if (1048576 : Int) < (IntKind.wrap .i64 ((x5 : Int) + x8_a)) then 1048576 else (IntKind.wrap .i64 ((x5 : Int) + x8_a))) (IntKind.wrap .i64 ((x12 : Int) + 1)))) ∧ ((((OpOf.kind (List.getD (Edit.ops e) (Int.toNat x12) Op.nil)) : Int) != 1) = false → N0 (head56_0 e x4_b x5 (IntKind.wrap .i64 ((x12 : Int) + 1))))) :
    W56_c2 e x5 x12 x8_a x4_b N0 Q := by
  have e_ : (awp cfg (knowW know56) (drawOk cfg (knowW know56)) Try.f56.ntmps lv56 (cd Try.f56 [1, 1, 0, 1, 0, 0, 1, 1, 0, 0, 1, 1, 1, 1]) (head56_2 e x5 x12 x8_a x4_b) (AExit.inBlock 1 (seqK cfg (knowW know56) (drawOk cfg (knowW know56)) Try.f56.ntmps lv56 (cd Try.f56 [1, 1, 0, 1, 0, 0, 1, 1, 1]) (AExit.then N0 (AExit.inBlock 0 (seqK cfg (knowW know56) (drawOk cfg (knowW know56)) Try.f56.ntmps lv56 (cd Try.f56 [1, 1, 1]) Q)))))) = ((((((OpOf.kind (List.getD (Edit.ops e) (Int.toNat x12) Op.nil)) : Int) != 1) = true → ((N0 (head56_0 e x4_b (if (1048576 : Int) < (IntKind.wrap .i64 ((x5 : Int) + x8_a)) then 1048576 else (IntKind.wrap .i64 ((x5 : Int) + x8_a))) (IntKind.wrap .i64 ((x12 : Int) + 1)))))) ∧ ((((OpOf.kind (List.getD (Edit.ops e) (Int.toNat x12) Op.nil)) : Int) != 1) = false → (N0 (head56_0 e x4_b x5 (IntKind.wrap .i64 ((x12 : Int) + 1))))))) := by kernel_rfl
  exact e_.mpr ⟨fun c_4 => (h.1 c_4), fun c_4 => (h.2 c_4)⟩
def Body56 (e : Edit)  : Prop := awp cfg (knowW (know56)) (drawOk cfg (knowW (know56))) Try.f56.ntmps lv56 (cd Try.f56 []) (entry (args56.can (e, ())) []) (EndsQ cfg Try.f56.ntmps Try.f56.results.toList (res56 (e, ())) [])
theorem make56 (hb : ∀ (e : Edit) (_ : Unit), pre56 (e, ()) → Body56 e) : Contract Try.prog cfg 56 spec56 :=
  contract_flatW (l := []) cfgOk rfl (trivial) lv56 Try.func56 rfl rfl 1 (fun _ => rfl) (by decide) (fun ⟨e, _⟩ => hb e ())

/-! cento/centoref20.Lengths -/
end Go.AM.Ytlahjnelghpmeaa

namespace Go.AM.Ytlahjnelghpmeaa
open Go.AM Go.Proofs

theorem wr_in {n : Int} (h : InR n) : wr n = n := by
  unfold InR at h
  simp [wr, IntKind.wrap, IntKind.signed, IntKind.bits]
  split <;> omega

theorem lenAW_drop {l : List Op} {i : Int} (n : Int) (h0 : 0 ≤ i) (h : i < l.length) : lenAW (l.drop i.toNat) n = lenAW (l.drop (i + 1).toNat) (if (l.getD i.toNat Op.nil).kind = 2 then n else capW (wr (n + opLenW (l.getD i.toNat Op.nil)))) := by
  rw [dropI h0 h Op.nil, lenAW]
theorem lenBW_drop {l : List Op} {i : Int} (n : Int) (h0 : 0 ≤ i) (h : i < l.length) : lenBW (l.drop i.toNat) n = lenBW (l.drop (i + 1).toNat) (if (l.getD i.toNat Op.nil).kind = 1 then n else capW (wr (n + opLenW (l.getD i.toNat Op.nil)))) := by
  rw [dropI h0 h Op.nil, lenBW]

theorem c56 : Contract Try.prog cfg 56 spec56 := by
  refine make56 ?_
  intro e _ hp
  simp only [pre56] at hp
  have h1 := len_massE e
  have h2 := massOs_len e.ops
  refine vc56 _ _ ?_
  refine loop_rule (ι := Int × Int × Int) (fun s => head56_0 e s.1 s.2.1 s.2.2) (fun s => (0 ≤ s.2.2 ∧ s.2.2 ≤ e.ops.length) ∧ lenAW (e.ops.drop s.2.2.toNat) s.1 = lenAW e.ops 0 ∧ lenBW (e.ops.drop s.2.2.toNat) s.2.1 = lenBW e.ops 0) (fun s => ((e.ops.length : Int) - s.2.2).toNat) (0, 0, 0) rfl ⟨⟨by simp, by simp⟩, rfl, rfl⟩ ?_
  rintro ⟨n, m, i⟩ ⟨⟨g1, g2⟩, g3, g4⟩
  dsimp only at g1 g2 g3 g4
  refine vc56_l0 _ _ _ _ _ _ ?_
  (simp only [bif_tl, bif_fr, bif_tlf, bif_frf, Bool.not_eq_true', Bool.not_eq_false', decide_eq_true_eq, decide_eq_false_iff_not, beq_iff_eq, beq_eq_false_iff_ne, bne_iff_ne, ne_eq, bne_eq_false_iff_eq, Bool.or_eq_true, Bool.and_eq_true, Bool.or_eq_false_iff, Bool.and_eq_false_imp])
  refine ⟨fun hi => ⟨⟨g1, hi⟩, ?_⟩, fun hi => ?_⟩
  · rw [lenAW_drop _ g1 hi] at g3
    rw [lenBW_drop _ g1 hi] at g4
    have hk : IntKind.wrap .i64 (i + 1) = i + 1 := wr_in (by unfold InR; omega)
    generalize hy : e.ops.getD i.toNat Op.nil = y at *
    have key : ∀ k : Int, k = opLenW y → ∀ (Q' : AExit → LSt U → Prop), W56_c1 e n m i k (fun s2 => ∃ j : Int × Int × Int, s2 = head56_0 e j.1 j.2.1 j.2.2 ∧ ((0 ≤ j.2.2 ∧ j.2.2 ≤ e.ops.length) ∧ lenAW (e.ops.drop j.2.2.toNat) j.1 = lenAW e.ops 0 ∧ lenBW (e.ops.drop j.2.2.toNat) j.2.1 = lenBW e.ops 0) ∧ ((e.ops.length : Int) - j.2.2).toNat < ((e.ops.length : Int) - i).toNat) Q' := by
      rintro k rfl Q'
      have step2 : ∀ a : Int, a = (if y.kind = 2 then n else capW (wr (n + opLenW y))) → W56_c2 e m i (opLenW y) a (fun s2 => ∃ j : Int × Int × Int, s2 = head56_0 e j.1 j.2.1 j.2.2 ∧ ((0 ≤ j.2.2 ∧ j.2.2 ≤ e.ops.length) ∧ lenAW (e.ops.drop j.2.2.toNat) j.1 = lenAW e.ops 0 ∧ lenBW (e.ops.drop j.2.2.toNat) j.2.1 = lenBW e.ops 0) ∧ ((e.ops.length : Int) - j.2.2).toNat < ((e.ops.length : Int) - i).toNat) Q' := by
        rintro a ha
        refine vc56_c2 _ _ _ _ _ _ _ ?_
        rw [hy, hk]
        (simp only [bif_tl, bif_fr, bif_tlf, bif_frf, Bool.not_eq_true', Bool.not_eq_false', decide_eq_true_eq, decide_eq_false_iff_not, beq_iff_eq, beq_eq_false_iff_ne, bne_iff_ne, ne_eq, bne_eq_false_iff_eq, Bool.or_eq_true, Bool.and_eq_true, Bool.or_eq_false_iff, Bool.and_eq_false_imp])
        rw [← ha] at g3
        refine ⟨fun hb => ⟨(a, _, i + 1), rfl, ⟨⟨by dsimp only; omega, by dsimp only; omega⟩, g3, ?_⟩, by dsimp only; omega⟩, fun hb => ⟨(a, _, i + 1), rfl, ⟨⟨by dsimp only; omega, by dsimp only; omega⟩, g3, ?_⟩, by dsimp only; omega⟩⟩
        · rw [if_neg hb] at g4; exact g4
        · rw [if_pos hb] at g4; exact g4
      refine vc56_c1 _ _ _ _ _ _ _ ?_
      rw [hy]
      (simp only [bif_tl, bif_fr, bif_tlf, bif_frf, Bool.not_eq_true', Bool.not_eq_false', decide_eq_true_eq, decide_eq_false_iff_not, beq_iff_eq, beq_eq_false_iff_ne, bne_iff_ne, ne_eq, bne_eq_false_iff_eq, Bool.or_eq_true, Bool.and_eq_true, Bool.or_eq_false_iff, Bool.and_eq_false_imp])
      exact ⟨fun hb => step2 _ (by rw [if_neg hb]; rfl), fun hb => step2 _ (by rw [if_pos hb])⟩
    exact ⟨fun hb => key _ (by unfold opLenW; rw [if_pos hb]) _, fun hb => key _ (by unfold opLenW; rw [if_neg hb]; rfl) _⟩
  · rw [List.drop_of_length_le (by omega)] at g3 g4
    simp only [lenAW, lenBW] at g3 g4
    rw [g3, g4]
    (repeat' (first | exact trivial | exact rfl | refine And.intro ?_ ?_))

/-- Of steps that may be, they are the lengths. -/
theorem lenAW_eq : ∀ (l : List Op) (n : Int), (∀ o ∈ l, (0 ≤ o.n ∧ o.n ≤ 1048576) ∧ o.l.length ≤ 1000000) → 0 ≤ n → n ≤ 1048576 → lenAW l n = lenA l n
  | [], _, _, _, _ => rfl
  | o :: r, n, h, h0, hn => by
    have ho := h o (List.mem_cons_self ..)
    have hl := opLen_eq o
    have ew : opLenW o = opLen o := by
      unfold opLenW; rw [hl]
      split
      · rfl
      · exact wr_in (by unfold InR; omega)
    have hb : 0 ≤ opLen o ∧ opLen o ≤ 3000000 := by rw [hl]; split <;> omega
    simp only [lenAW, lenA]
    rw [ew, wr_in (by unfold InR; omega)]
    have e2 : (if o.kind = 2 then n else capW (n + opLen o)) = min (if o.kind = 2 then n else n + opLen o) 1048576 := by
      unfold capW; split
      · omega
      · split <;> omega
    rw [e2]
    exact lenAW_eq r _ (fun x hx => h x (List.mem_cons_of_mem _ hx)) (by split <;> omega) (by omega)
theorem lenBW_eq : ∀ (l : List Op) (n : Int), (∀ o ∈ l, (0 ≤ o.n ∧ o.n ≤ 1048576) ∧ o.l.length ≤ 1000000) → 0 ≤ n → n ≤ 1048576 → lenBW l n = lenB l n
  | [], _, _, _, _ => rfl
  | o :: r, n, h, h0, hn => by
    have ho := h o (List.mem_cons_self ..)
    have hl := opLen_eq o
    have ew : opLenW o = opLen o := by
      unfold opLenW; rw [hl]
      split
      · rfl
      · exact wr_in (by unfold InR; omega)
    have hb : 0 ≤ opLen o ∧ opLen o ≤ 3000000 := by rw [hl]; split <;> omega
    simp only [lenBW, lenB]
    rw [ew, wr_in (by unfold InR; omega)]
    have e2 : (if o.kind = 1 then n else capW (n + opLen o)) = min (if o.kind = 1 then n else n + opLen o) 1048576 := by
      unfold capW; split
      · omega
      · split <;> omega
    rw [e2]
    exact lenBW_eq r _ (fun x hx => h x (List.mem_cons_of_mem _ hx)) (by split <;> omega) (by omega)

end Go.AM.Ytlahjnelghpmeaa

namespace Go.AM.Ytlahjnelghpmeaa
open Go.AM Go.Proofs

def args91 : ArgL (List WEdit × List WEdit × Unit) := (.cons (aSl .wedit) (.cons (aSl .wedit) .nil))
def pre91 (a : List WEdit × List WEdit × Unit) : Prop := (a.1).length ≤ 1000000
noncomputable def res91 (a : List WEdit × List WEdit × Unit) : V U := .c (.bool (eqX a.1 a.2.1))
noncomputable def spec91 : Fs U := fs args91 (fun a => [pre91 a]) res91

def args96 : ArgL (List Tree × List Tree × Unit × Unit) := (.cons (aSl .tree) (.cons (aSl .tree) (.cons (aFn 34) .nil)))
def pre96 (a : List Tree × List Tree × Unit × Unit) : Prop := massK a.1 ≤ 1000000 ∧ massK a.2.1 ≤ 1000000
noncomputable def res96 (a : List Tree × List Tree × Unit × Unit) : V U := .c (.bool (eqX (normsT a.1) (normsT a.2.1)))
noncomputable def spec96 : Fs U := fs args96 (fun a => [pre96 a]) res96

/-! slices.Equal[[]cento/api.WordEdit,cento/api.WordEdit] -/
noncomputable def know91 : List (FuncId × Fs U) := []
def lv91 : Lives U := fun i => match i with
  | 0 => ([(0, []), (1, [])], [])
  | 1 => ([(0, []), (1, []), (10, [])], [])
  | 2 => ([(4, [])], [])
  | 3 => ([(0, []), (1, []), (12, []), (13, [])], [])
  | 4 => ([(0, []), (1, []), (12, []), (13, []), (14, [])], [])
  | 5 => ([(0, []), (1, []), (5, []), (12, []), (13, [])], [])
  | 6 => ([(0, []), (1, []), (12, []), (13, []), (24, [])], [])
  | 7 => ([(4, [])], [])
  | 8 => ([(0, []), (1, []), (12, []), (13, [])], [])
  | 9 => ([(4, [])], [])
  | _ => ([], [])
def head91_0 (a : List WEdit) (b : List WEdit) (x13 : Int) : LSt U := (⟨[(0, .c (.slice (U := U) .wedit a .unk)), (1, .c (.slice (U := U) .wedit b .unk)), (12, .c (.int .i64 (a.length : Int))), (13, .c (.int .i64 x13))], [], []⟩ : LSt U)
abbrev W91 (a : List WEdit) (b : List WEdit) (Q : AExit → LSt U → Prop) : Prop := awp cfg (know know91) (drawOk cfg (know know91)) Try.f91.ntmps lv91 (cd Try.f91 []) (⟨[(0, .c (.slice (U := U) .wedit a .unk)), (1, .c (.slice (U := U) .wedit b .unk))], [], []⟩ : LSt U) Q
/-- the body -/
theorem vc91 (a : List WEdit) (b : List WEdit) (Q : AExit → LSt U → Prop) (h : ((((a.length : Int) : Int) != (b.length : Int)) = true → Q .ret (⟨[(4, .c (.bool false))], [], []⟩ : LSt U)) ∧ ((((a.length : Int) : Int) != (b.length : Int)) = false → LoopWp (awp cfg (know know91) (drawOk cfg (know know91)) Try.f91.ntmps lv91 (cd Try.f91 [1, 1, 0, 1, 0, 0])) (head91_0 a b 0) (AExit.inBlock 0 (seqK cfg (know know91) (drawOk cfg (know know91)) Try.f91.ntmps lv91 (cd Try.f91 [1, 1, 1]) Q)))) :
    W91 a b Q := by
  have e_ : (awp cfg (know know91) (drawOk cfg (know know91)) Try.f91.ntmps lv91 (cd Try.f91 []) (⟨[(0, .c (.slice (U := U) .wedit a .unk)), (1, .c (.slice (U := U) .wedit b .unk))], [], []⟩ : LSt U) Q) = (((((((a.length : Int) : Int) != (b.length : Int)) = true → (Q .ret (⟨[(4, .c (.bool false))], [], []⟩ : LSt U))) ∧ ((((a.length : Int) : Int) != (b.length : Int)) = false → (LoopWp (awp cfg (know know91) (drawOk cfg (know know91)) Try.f91.ntmps lv91 (cd Try.f91 [1, 1, 0, 1, 0, 0])) (head91_0 a b 0) (AExit.inBlock 0 (seqK cfg (know know91) (drawOk cfg (know know91)) Try.f91.ntmps lv91 (cd Try.f91 [1, 1, 1]) Q))))))) := by kernel_rfl
  exact e_.mpr ⟨fun c_1 => (h.1 c_1), fun c_1 => (h.2 c_1)⟩
abbrev W91_l0 (a : List WEdit) (b : List WEdit) (x13 : Int) (N0 : LSt U → Prop) (Q : AExit → LSt U → Prop) : Prop := awp cfg (know know91) (drawOk cfg (know know91)) Try.f91.ntmps lv91 (cd Try.f91 [1, 1, 0, 1, 0, 0]) (head91_0 a b x13) (AExit.then N0 (AExit.inBlock 0 (seqK cfg (know know91) (drawOk cfg (know know91)) Try.f91.ntmps lv91 (cd Try.f91 [1, 1, 1]) Q)))
/-- the loop at [1, 1, 0, 1, 0] -/
theorem vc91_l0 (a : List WEdit) (b : List WEdit) (x13 : Int) (N0 : LSt U → Prop) (Q : AExit → LSt U → Prop) (h : ((decide ((x13 : Int) < (a.length : Int))) = true → ((0 : Int) ≤ x13 ∧ x13 < (a.length : Int)) ∧ ((0 : Int) ≤ x13 ∧ x13 < (b.length : Int)) ∧ (((!((((WEdit.at_ (List.getD a (Int.toNat x13) (WEdit.mk 0 0 0 0))) : Int) == (WEdit.at_ (List.getD b (Int.toNat x13) (WEdit.mk 0 0 0 0)))) && ((((WEdit.mask (List.getD a (Int.toNat x13) (WEdit.mk 0 0 0 0))) : Int) == (WEdit.mask (List.getD b (Int.toNat x13) (WEdit.mk 0 0 0 0)))) && ((((WEdit.old (List.getD a (Int.toNat x13) (WEdit.mk 0 0 0 0))) : Int) == (WEdit.old (List.getD b (Int.toNat x13) (WEdit.mk 0 0 0 0)))) && ((((WEdit.new (List.getD a (Int.toNat x13) (WEdit.mk 0 0 0 0))) : Int) == (WEdit.new (List.getD b (Int.toNat x13) (WEdit.mk 0 0 0 0)))) && true))))) = true → Q .ret (⟨[(4, .c (.bool false))], [], []⟩ : LSt U)) ∧ ((!((((WEdit.at_ (List.getD a (Int.toNat x13) (WEdit.mk 0 0 0 0))) : Int) == (WEdit.at_ (List.getD b (Int.toNat x13) (WEdit.mk 0 0 0 0)))) && ((((WEdit.mask (List.getD a (Int.toNat x13) (WEdit.mk 0 0 0 0))) : Int) == (WEdit.mask (List.getD b (Int.toNat x13) (WEdit.mk 0 0 0 0)))) && ((((WEdit.old (List.getD a (Int.toNat x13) (WEdit.mk 0 0 0 0))) : Int) == (WEdit.old (List.getD b (Int.toNat x13) (WEdit.mk 0 0 0 0)))) && ((((WEdit.new (List.getD a (Int.toNat x13) (WEdit.mk 0 0 0 0))) : Int) == (WEdit.new (List.getD b (Int.toNat x13) (WEdit.mk 0 0 0 0)))) && true))))) = false → (InR ((x13 : Int) + 1)) ∧ (N0 (head91_0 a b ((x13 : Int) + 1)))))) ∧ ((decide ((x13 : Int) < (a.length : Int))) = false → Q .ret (⟨[(4, .c (.bool true))], [], []⟩ : LSt U))) :
    W91_l0 a b x13 N0 Q := by
  have e_ : (awp cfg (know know91) (drawOk cfg (know know91)) Try.f91.ntmps lv91 (cd Try.f91 [1, 1, 0, 1, 0, 0]) (head91_0 a b x13) (AExit.then N0 (AExit.inBlock 0 (seqK cfg (know know91) (drawOk cfg (know know91)) Try.f91.ntmps lv91 (cd Try.f91 [1, 1, 1]) Q)))) = ((((decide ((x13 : Int) < (a.length : Int))) = true → (((0 : Int) ≤ x13 ∧ x13 < (a.length : Int)) ∧ ((0 : Int) ≤ x13 ∧ x13 < (b.length : Int)) ∧ (((!((((WEdit.at_ (List.getD a (Int.toNat x13) (WEdit.mk 0 0 0 0))) : Int) == (WEdit.at_ (List.getD b (Int.toNat x13) (WEdit.mk 0 0 0 0)))) && ((((WEdit.mask (List.getD a (Int.toNat x13) (WEdit.mk 0 0 0 0))) : Int) == (WEdit.mask (List.getD b (Int.toNat x13) (WEdit.mk 0 0 0 0)))) && ((((WEdit.old (List.getD a (Int.toNat x13) (WEdit.mk 0 0 0 0))) : Int) == (WEdit.old (List.getD b (Int.toNat x13) (WEdit.mk 0 0 0 0)))) && ((((WEdit.new (List.getD a (Int.toNat x13) (WEdit.mk 0 0 0 0))) : Int) == (WEdit.new (List.getD b (Int.toNat x13) (WEdit.mk 0 0 0 0)))) && true))))) = true → (Q .ret (⟨[(4, .c (.bool false))], [], []⟩ : LSt U))) ∧ ((!((((WEdit.at_ (List.getD a (Int.toNat x13) (WEdit.mk 0 0 0 0))) : Int) == (WEdit.at_ (List.getD b (Int.toNat x13) (WEdit.mk 0 0 0 0)))) && ((((WEdit.mask (List.getD a (Int.toNat x13) (WEdit.mk 0 0 0 0))) : Int) == (WEdit.mask (List.getD b (Int.toNat x13) (WEdit.mk 0 0 0 0)))) && ((((WEdit.old (List.getD a (Int.toNat x13) (WEdit.mk 0 0 0 0))) : Int) == (WEdit.old (List.getD b (Int.toNat x13) (WEdit.mk 0 0 0 0)))) && ((((WEdit.new (List.getD a (Int.toNat x13) (WEdit.mk 0 0 0 0))) : Int) == (WEdit.new (List.getD b (Int.toNat x13) (WEdit.mk 0 0 0 0)))) && true))))) = false → (InR ((x13 : Int) + 1)) ∧ (N0 (head91_0 a b ((x13 : Int) + 1))))))) ∧ ((decide ((x13 : Int) < (a.length : Int))) = false → (Q .ret (⟨[(4, .c (.bool true))], [], []⟩ : LSt U))))) := by kernel_rfl
  exact e_.mpr ⟨fun c_2 => ⟨(h.1 c_2).1, (h.1 c_2).2.1, ⟨fun c_3 => ((h.1 c_2).2.2.1 c_3), fun c_3 => ⟨((h.1 c_2).2.2.2 c_3).1, ((h.1 c_2).2.2.2 c_3).2⟩⟩⟩, fun c_2 => (h.2 c_2)⟩
def Body91 (a : List WEdit) (b : List WEdit)  : Prop := awp cfg (know (know91)) (drawOk cfg (know (know91))) Try.f91.ntmps lv91 (cd Try.f91 []) (entry (args91.can (a, b, ())) []) (EndsQ cfg Try.f91.ntmps Try.f91.results.toList (res91 (a, b, ())) [])
theorem make91 (hb : ∀ (a : List WEdit) (b : List WEdit) (_ : Unit), pre91 (a, b, ()) → Body91 a b) : Contract Try.prog cfg 91 spec91 :=
  contract_flat (l := []) cfgOk rfl (trivial) lv91 Try.func91 rfl rfl 2 (fun _ => rfl) (by decide) (fun ⟨a, b, _⟩ => hb a b ())

/-! slices.EqualFunc[[]cento/api.Tree,[]cento/api.Tree,cento/api.Tree,cento/api.Tree] -/
noncomputable def know96 : List (FuncId × Fs U) := [(34, spec34)]
def lv96 : Lives U := fun i => match i with
  | 0 => ([(0, []), (1, []), (2, [])], [])
  | 1 => ([(0, []), (1, []), (2, []), (14, [])], [])
  | 2 => ([(6, [])], [])
  | 3 => ([(1, []), (2, []), (15, []), (16, []), (17, [])], [])
  | 4 => ([(1, []), (2, []), (15, []), (16, []), (17, []), (18, [])], [])
  | 5 => ([(1, []), (2, []), (7, []), (8, []), (15, []), (16, []), (17, [])], [((.loc 8), [])])
  | 6 => ([(1, []), (2, []), (8, []), (9, []), (15, []), (16, []), (17, [])], [((.loc 8), []), ((.loc 9), [])])
  | 7 => ([(1, []), (2, []), (15, []), (16, []), (17, []), (30, [])], [])
  | 8 => ([(6, [])], [])
  | 9 => ([(1, []), (2, []), (15, []), (16, []), (17, [])], [])
  | 10 => ([(6, [])], [])
  | _ => ([], [])
def head96_0 (a : List Tree) (b : List Tree) (f : Unit) (x17 : Int) : LSt U := (⟨[(1, .c (.slice (U := U) .tree b .unk)), (2, .fn 34), (15, .c (.slice (U := U) .tree a .unk)), (16, .c (.int .i64 (a.length : Int))), (17, .c (.int .i64 x17))], [], []⟩ : LSt U)
abbrev W96 (a : List Tree) (b : List Tree) (f : Unit) (Q : AExit → LSt U → Prop) : Prop := awp cfg (know know96) (drawOk cfg (know know96)) Try.f96.ntmps lv96 (cd Try.f96 []) (⟨[(0, .c (.slice (U := U) .tree a .unk)), (1, .c (.slice (U := U) .tree b .unk)), (2, .fn 34)], [], []⟩ : LSt U) Q
/-- the body -/
theorem vc96 (a : List Tree) (b : List Tree) (f : Unit) (Q : AExit → LSt U → Prop) (h : ((((a.length : Int) : Int) != (b.length : Int)) = true → Q .ret (⟨[(6, .c (.bool false))], [], []⟩ : LSt U)) ∧ ((((a.length : Int) : Int) != (b.length : Int)) = false → LoopWp (awp cfg (know know96) (drawOk cfg (know know96)) Try.f96.ntmps lv96 (cd Try.f96 [1, 1, 0, 1, 0, 0])) (head96_0 a b f 0) (AExit.inBlock 0 (seqK cfg (know know96) (drawOk cfg (know know96)) Try.f96.ntmps lv96 (cd Try.f96 [1, 1, 1]) Q)))) :
    W96 a b f Q := by
  have e_ : (awp cfg (know know96) (drawOk cfg (know know96)) Try.f96.ntmps lv96 (cd Try.f96 []) (⟨[(0, .c (.slice (U := U) .tree a .unk)), (1, .c (.slice (U := U) .tree b .unk)), (2, .fn 34)], [], []⟩ : LSt U) Q) = (((((((a.length : Int) : Int) != (b.length : Int)) = true → (Q .ret (⟨[(6, .c (.bool false))], [], []⟩ : LSt U))) ∧ ((((a.length : Int) : Int) != (b.length : Int)) = false → (LoopWp (awp cfg (know know96) (drawOk cfg (know know96)) Try.f96.ntmps lv96 (cd Try.f96 [1, 1, 0, 1, 0, 0])) (head96_0 a b f 0) (AExit.inBlock 0 (seqK cfg (know know96) (drawOk cfg (know know96)) Try.f96.ntmps lv96 (cd Try.f96 [1, 1, 1]) Q))))))) := by kernel_rfl
  exact e_.mpr ⟨fun c_4 => (h.1 c_4), fun c_4 => (h.2 c_4)⟩
abbrev W96_l0 (a : List Tree) (b : List Tree) (f : Unit) (x17 : Int) (N0 : LSt U → Prop) (Q : AExit → LSt U → Prop) : Prop := awp cfg (know know96) (drawOk cfg (know know96)) Try.f96.ntmps lv96 (cd Try.f96 [1, 1, 0, 1, 0, 0]) (head96_0 a b f x17) (AExit.then N0 (AExit.inBlock 0 (seqK cfg (know know96) (drawOk cfg (know know96)) Try.f96.ntmps lv96 (cd Try.f96 [1, 1, 1]) Q)))
/-- the loop at [1, 1, 0, 1, 0] -/
theorem vc96_l0 (a : List Tree) (b : List Tree) (f : Unit) (x17 : Int) (N0 : LSt U → Prop) (Q : AExit → LSt U → Prop) (h : ((decide ((x17 : Int) < (a.length : Int))) = true → ((0 : Int) ≤ x17 ∧ x17 < (a.length : Int)) ∧ (((0 : Int) ≤ x17 ∧ x17 < (b.length : Int)) ∧ ((pre34 ((Tree.mk (Tree.kind (List.getD a (Int.toNat x17) Tree.nil)) (Tree.words (List.getD a (Int.toNat x17) Tree.nil)) (Tree.kids (List.getD a (Int.toNat x17) Tree.nil))), (Tree.mk (Tree.kind (List.getD b (Int.toNat x17) Tree.nil)) (Tree.words (List.getD b (Int.toNat x17) Tree.nil)) (Tree.kids (List.getD b (Int.toNat x17) Tree.nil))), ())) ∧ (((!(sameT (normT (Tree.mk (Tree.kind (List.getD a (Int.toNat x17) Tree.nil)) (Tree.words (List.getD a (Int.toNat x17) Tree.nil)) (Tree.kids (List.getD a (Int.toNat x17) Tree.nil)))) (normT (Tree.mk (Tree.kind (List.getD b (Int.toNat x17) Tree.nil)) (Tree.words (List.getD b (Int.toNat x17) Tree.nil)) (Tree.kids (List.getD b (Int.toNat x17) Tree.nil)))))) = true → Q .ret (⟨[(6, .c (.bool false))], [], []⟩ : LSt U)) ∧ ((!(sameT (normT (Tree.mk (Tree.kind (List.getD a (Int.toNat x17) Tree.nil)) (Tree.words (List.getD a (Int.toNat x17) Tree.nil)) (Tree.kids (List.getD a (Int.toNat x17) Tree.nil)))) (normT (Tree.mk (Tree.kind (List.getD b (Int.toNat x17) Tree.nil)) (Tree.words (List.getD b (Int.toNat x17) Tree.nil)) (Tree.kids (List.getD b (Int.toNat x17) Tree.nil)))))) = false → (InR ((x17 : Int) + 1)) ∧ (N0 (head96_0 a b f ((x17 : Int) + 1)))))))) ∧ ((decide ((x17 : Int) < (a.length : Int))) = false → Q .ret (⟨[(6, .c (.bool true))], [], []⟩ : LSt U))) :
    W96_l0 a b f x17 N0 Q := by
  have e_ : (awp cfg (know know96) (drawOk cfg (know know96)) Try.f96.ntmps lv96 (cd Try.f96 [1, 1, 0, 1, 0, 0]) (head96_0 a b f x17) (AExit.then N0 (AExit.inBlock 0 (seqK cfg (know know96) (drawOk cfg (know know96)) Try.f96.ntmps lv96 (cd Try.f96 [1, 1, 1]) Q)))) = ((((decide ((x17 : Int) < (a.length : Int))) = true → ((0 : Int) ≤ x17 ∧ x17 < (a.length : Int)) ∧ (((0 : Int) ≤ x17 ∧ x17 < (b.length : Int)) ∧ ((pre34 ((Tree.mk (Tree.kind (List.getD a (Int.toNat x17) Tree.nil)) (Tree.words (List.getD a (Int.toNat x17) Tree.nil)) (Tree.kids (List.getD a (Int.toNat x17) Tree.nil))), (Tree.mk (Tree.kind (List.getD b (Int.toNat x17) Tree.nil)) (Tree.words (List.getD b (Int.toNat x17) Tree.nil)) (Tree.kids (List.getD b (Int.toNat x17) Tree.nil))), ())) ∧ (((!(sameT (normT (Tree.mk (Tree.kind (List.getD a (Int.toNat x17) Tree.nil)) (Tree.words (List.getD a (Int.toNat x17) Tree.nil)) (Tree.kids (List.getD a (Int.toNat x17) Tree.nil)))) (normT (Tree.mk (Tree.kind (List.getD b (Int.toNat x17) Tree.nil)) (Tree.words (List.getD b (Int.toNat x17) Tree.nil)) (Tree.kids (List.getD b (Int.toNat x17) Tree.nil)))))) = true → (Q .ret (⟨[(6, .c (.bool false))], [], []⟩ : LSt U))) ∧ ((!(sameT (normT (Tree.mk (Tree.kind (List.getD a (Int.toNat x17) Tree.nil)) (Tree.words (List.getD a (Int.toNat x17) Tree.nil)) (Tree.kids (List.getD a (Int.toNat x17) Tree.nil)))) (normT (Tree.mk (Tree.kind (List.getD b (Int.toNat x17) Tree.nil)) (Tree.words (List.getD b (Int.toNat x17) Tree.nil)) (Tree.kids (List.getD b (Int.toNat x17) Tree.nil)))))) = false → (InR ((x17 : Int) + 1)) ∧ (N0 (head96_0 a b f ((x17 : Int) + 1)))))))) ∧ ((decide ((x17 : Int) < (a.length : Int))) = false → (Q .ret (⟨[(6, .c (.bool true))], [], []⟩ : LSt U))))) := by kernel_rfl
  exact e_.mpr ⟨fun c_5 => ⟨(h.1 c_5).1, ⟨(h.1 c_5).2.1, ⟨(h.1 c_5).2.2.1, ⟨fun c_6 => ((h.1 c_5).2.2.2.1 c_6), fun c_6 => ⟨((h.1 c_5).2.2.2.2 c_6).1, ((h.1 c_5).2.2.2.2 c_6).2⟩⟩⟩⟩⟩, fun c_5 => (h.2 c_5)⟩
def Body96 (a : List Tree) (b : List Tree) (f : Unit)  : Prop := awp cfg (know (know96)) (drawOk cfg (know (know96))) Try.f96.ntmps lv96 (cd Try.f96 []) (entry (args96.can (a, b, f, ())) []) (EndsQ cfg Try.f96.ntmps Try.f96.results.toList (res96 (a, b, f, ())) [])
theorem make96 (c34 : Contract Try.prog cfg 34 spec34) (hb : ∀ (a : List Tree) (b : List Tree) (f : Unit) (_ : Unit), pre96 (a, b, f, ()) → Body96 a b f) : Contract Try.prog cfg 96 spec96 :=
  contract_flat (l := [(34, spec34)]) cfgOk rfl (⟨c34, trivial⟩) lv96 Try.func96 rfl rfl 3 (fun _ => rfl) (by decide) (fun ⟨a, b, f, _⟩ => hb a b f ())

end Go.AM.Ytlahjnelghpmeaa

namespace Go.AM.Ytlahjnelghpmeaa
open Go.AM Go.Proofs

theorem c91 : Contract Try.prog cfg 91 spec91 := by
  refine make91 ?_
  intro a b _ hp
  simp only [pre91] at hp
  refine vc91 _ _ _ ?_
  (simp only [bif_tl, bif_fr, bif_tlf, bif_frf, Bool.not_eq_true', Bool.not_eq_false', decide_eq_true_eq, decide_eq_false_iff_not, beq_iff_eq, beq_eq_false_iff_ne, bne_iff_ne, ne_eq, bne_eq_false_iff_eq, Bool.or_eq_true, Bool.and_eq_true, Bool.or_eq_false_iff, Bool.and_eq_false_imp])
  refine ⟨fun hc => ends_bool rfl (eqX_no (a := a) (b := b) (fun h => hc (by rw [h]))).symm, fun hc => ?_⟩
  have hl : a.length = b.length := by omega
  refine loop_rule (ι := Int) (fun i => head91_0 a b i) (fun i => 0 ≤ i ∧ i ≤ a.length ∧ ∀ j : Nat, (j : Int) < i → a.getD j (WEdit.mk 0 0 0 0) = b.getD j (WEdit.mk 0 0 0 0)) (fun i => ((a.length : Int) - i).toNat) 0 rfl ⟨by omega, by omega, by intro j hj; omega⟩ ?_
  rintro i ⟨h1, h2, h3⟩
  refine vc91_l0 _ _ _ _ _ ?_
  (simp only [bif_tl, bif_fr, bif_tlf, bif_frf, Bool.not_eq_true', Bool.not_eq_false', decide_eq_true_eq, decide_eq_false_iff_not, beq_iff_eq, beq_eq_false_iff_ne, bne_iff_ne, ne_eq, bne_eq_false_iff_eq, Bool.or_eq_true, Bool.and_eq_true, Bool.or_eq_false_iff, Bool.and_eq_false_imp])
  simp only [and_true]
  refine ⟨fun hi => ⟨⟨h1, hi⟩, ⟨h1, by omega⟩, fun hq => ?_, fun hq => ⟨by unfold InR; omega, i + 1, rfl, ⟨by omega, by omega, ?_⟩, by omega⟩⟩, fun hi => ?_⟩
  · refine ends_bool rfl (eqX_no (a := a) (b := b) (fun h => ?_)).symm
    rw [h] at hq
    simp at hq
  · intro j hj
    by_cases hj2 : (j : Int) < i
    · exact h3 j hj2
    · rw [show i.toNat = j by omega] at hq
      exact wedit_ext hq.1 hq.2.1 hq.2.2.1 hq.2.2.2
  · exact ends_bool rfl (eqX_iff (a := a) (b := b).2 (list_eq_getD (WEdit.mk 0 0 0 0) hl (fun j hj => h3 j (by omega)))).symm

theorem c96 : Contract Try.prog cfg 96 spec96 := by
  refine make96 c34 ?_
  intro a b f _ hp
  simp only [pre96] at hp
  refine vc96 a b f _ ?_
  (simp only [bif_tl, bif_fr, bif_tlf, bif_frf, Bool.not_eq_true', Bool.not_eq_false', decide_eq_true_eq, decide_eq_false_iff_not, beq_iff_eq, beq_eq_false_iff_ne, bne_iff_ne, ne_eq, bne_eq_false_iff_eq, Bool.or_eq_true, Bool.and_eq_true, Bool.or_eq_false_iff, Bool.and_eq_false_imp])
  refine ⟨fun hc => ends_bool rfl (eqX_no (a := normsT a) (b := normsT b) (fun h => hc (by have := congrArg List.length h; simp [normsT] at this; omega))).symm, fun hc => ?_⟩
  have hl : a.length = b.length := by omega
  have hla := massK_len a
  refine loop_rule (ι := Int) (fun i => head96_0 a b f i) (fun i => 0 ≤ i ∧ i ≤ a.length ∧ ∀ j : Nat, (j : Int) < i → normT (a.getD j Tree.nil) = normT (b.getD j Tree.nil)) (fun i => ((a.length : Int) - i).toNat) 0 rfl ⟨by omega, by omega, by intro j hj; omega⟩ ?_
  rintro i ⟨h1, h2, h3⟩
  refine vc96_l0 a b f _ _ _ ?_
  (simp only [bif_tl, bif_fr, bif_tlf, bif_frf, Bool.not_eq_true', Bool.not_eq_false', decide_eq_true_eq, decide_eq_false_iff_not, beq_iff_eq, beq_eq_false_iff_ne, bne_iff_ne, ne_eq, bne_eq_false_iff_eq, Bool.or_eq_true, Bool.and_eq_true, Bool.or_eq_false_iff, Bool.and_eq_false_imp])
  (simp only [Tree.eta, Edit.eta, Tree.kind_mk, Tree.words_mk, Tree.kids_mk])
  refine ⟨fun hi => ⟨⟨h1, hi⟩, ⟨h1, by omega⟩, ?_, fun hq => ?_, fun hq => ⟨by unfold InR; omega, i + 1, rfl, ⟨by omega, by omega, ?_⟩, by omega⟩⟩, fun hi => ?_⟩
  · have := massK_mem (mem_getD (l := a) (i := i.toNat) (by omega) Tree.nil)
    have := massK_mem (mem_getD (l := b) (i := i.toNat) (by omega) Tree.nil)
    simp only [pre34]; omega
  · refine ends_bool rfl (eqX_no (a := normsT a) (b := normsT b) (fun h => ?_)).symm
    have h5 := getD_map_eq (d := Tree.nil) h i.toNat
    rw [sameT_false] at hq
    exact hq h5
  · intro j hj
    by_cases hj2 : (j : Int) < i
    · exact h3 j hj2
    · rw [sameT_true, show i.toNat = j by omega] at hq
      exact hq
  · exact ends_bool rfl (eqX_iff (a := normsT a) (b := normsT b).2 (map_eq_getD Tree.nil hl (fun j hj => h3 j (by omega)))).symm

end Go.AM.Ytlahjnelghpmeaa
