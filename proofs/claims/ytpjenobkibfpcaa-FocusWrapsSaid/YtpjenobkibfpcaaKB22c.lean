import Derived.Test.YtpjenobkibfpcaaCD25s
import Derived.Test.YtpjenobkibfpcaaKB07
set_option linter.unusedSimpArgs false
set_option linter.unusedVariables false
namespace Go.AM.Ytpjenobkibfpcaa
open Go.AM Go.Proofs
abbrev TrKG20c (p : Prop) : Prop := p → p
noncomputable section
def args105 : ArgL (Int × Unit) := (.cons (aInt .u8) .nil)
def pre105 (a : Int × Unit) : Prop := 0 ≤ a.1 ∧ a.1 < 256
noncomputable def res105 (a : Int × Unit) : V U := .c (.int .u64 ((widN (a.1).toNat 8 : Nat) : Int))
noncomputable def spec105 : Fs U := fs args105 (fun a => [pre105 a]) res105
def args66 : ArgL (Int × Int × Int × Unit) := (.cons (aInt .u64) (.cons (aInt .u64) (.cons (aInt .u8) .nil)))
def pre66 (a : Int × Int × Int × Unit) : Prop := (0 ≤ a.1 ∧ a.1 < 18446744073709551616) ∧ (0 ≤ a.2.1 ∧ a.2.1 < 18446744073709551616) ∧ (0 ≤ a.2.2.1 ∧ a.2.2.1 < 256)
noncomputable def res66 (a : Int × Int × Int × Unit) : V U := .c (.int .u64 (mix a.1 a.2.1 a.2.2.1))
noncomputable def spec66 : Fs U := fs args66 (fun a => [pre66 a]) res66
def args122 : ArgL (Tree × Unit) := (.cons (aEl .tree) .nil)
def pre122 (a : Tree × Unit) : Prop := mass a.1 ≤ 20000000000 ∧ rng a.1
noncomputable def res122 (a : Tree × Unit) : V U := .c (.bool (decide (Tree.kind a.1 ≠ 10) && rightT a.1 64))
noncomputable def spec122 : Fs U := fs args122 (fun a => [pre122 a]) res122
def args186 : ArgL (Int × Tree × Unit) := (.cons (aInt .i64) (.cons (aEl .tree) .nil))
def pre186 (a : Int × Tree × Unit) : Prop := mass a.2.1 ≤ 18000000000 ∧ rng a.2.1 ∧ isI a.1
noncomputable def res186 (a : Int × Tree × Unit) : V U := .c (.bool (rightT (Tree.mk a.1 [] [a.2.1]) 64))
noncomputable def spec186 : Fs U := fs args186 (fun a => [pre186 a]) res186
def args187 : ArgL (Int × Edit × Unit) := (.cons (aInt .i64) (.cons (aEl .edit) .nil))
def pre187 (a : Int × Edit × Unit) : Prop := True
noncomputable def res187 (a : Int × Edit × Unit) : V U := .c (.bool (withinB a.1 a.2.1))
noncomputable def spec187 : Fs U := fs args187 (fun a => [pre187 a]) res187
def args123 : ArgL (List WEdit × Unit) := (.cons (aSl .wedit) .nil)
def pre123 (a : List WEdit × Unit) : Prop := (a.1).length ≤ 20000000000 ∧ ∀ x ∈ a.1, rngW x
noncomputable def res123 (a : List WEdit × Unit) : V U := .c (.bool (wordsOk (-1) a.1))
noncomputable def spec123 : Fs U := fs args123 (fun a => [pre123 a]) res123
noncomputable def know105 : List (FuncId × Fs U) := []
def lv105 : Lives U := fun i => match i with
  | 0 => ([(0, [])], [])
  | 1 => ([(0, []), (3, [])], [])
  | 2 => ([(0, []), (3, []), (5, [])], [])
  | 3 => ([(0, []), (3, []), (5, []), (6, [])], [])
  | 4 => ([(0, []), (3, []), (4, []), (5, [])], [])
  | 5 => ([(0, []), (3, []), (4, []), (5, []), (12, [])], [])
  | 6 => ([(0, []), (3, []), (5, [])], [])
  | 7 => ([(0, []), (3, []), (5, [])], [])
  | 8 => ([(2, [])], [])
  | _ => ([], [])
def head105_0 (m : Int) (x3 : Int) (x5 : Int) : LSt U := (⟨[(0, .c (.int .u8 m)), (3, .c (.int .u64 x3)), (5, .c (.int .i64 x5))], [], []⟩ : LSt U)
abbrev W105 (m : Int) (Q : AExit → LSt U → Prop) := awp cfg (know know105) (drawOk cfg (know know105)) Try.f105.ntmps lv105 (cd Try.f105 []) (⟨[(0, .c (.int .u8 m))], [], []⟩ : LSt U) Q
abbrev a105_KG20c := awp cfg (know know105) (drawOk cfg (know know105)) Try.f105.ntmps lv105
abbrev s105_KG20c := seqK cfg (know know105) (drawOk cfg (know know105)) Try.f105.ntmps lv105
theorem vc105 (m : Int) (Q : AExit → LSt U → Prop) (h : LoopWp (awp cfg (know know105) (drawOk cfg (know know105)) Try.f105.ntmps lv105 (cd Try.f105 [1, 1, 0, 1, 0, 0])) (head105_0 m 0 0) (AExit.inBlock 0 (seqK cfg (know know105) (drawOk cfg (know know105)) Try.f105.ntmps lv105 (cd Try.f105 [1, 1, 1]) Q))) :
    W105 m Q := by
  have e_ : (W105 m Q) = ((((LoopWp (a105_KG20c (cd Try.f105 [1, 1, 0, 1, 0, 0])) (head105_0 m 0 0) (AExit.inBlock 0 (s105_KG20c (cd Try.f105 [1, 1, 1]) Q)))))) := by kernel_rfl
  exact e_.mpr h
abbrev W105_l0 (m : Int) (x3 : Int) (x5 : Int) (N0 : LSt U → Prop) (Q : AExit → LSt U → Prop) := awp cfg (know know105) (drawOk cfg (know know105)) Try.f105.ntmps lv105 (cd Try.f105 [1, 1, 0, 1, 0, 0]) (head105_0 m x3 x5) (AExit.then N0 (AExit.inBlock 0 (seqK cfg (know know105) (drawOk cfg (know know105)) Try.f105.ntmps lv105 (cd Try.f105 [1, 1, 1]) Q)))
theorem vc105_l0 (m : Int) (x3 : Int) (x5 : Int) (N0 : LSt U → Prop) (Q : AExit → LSt U → Prop) (h : ((decide ((x5 : Int) < 8)) = true → ((0 : Int) ≤ x5) ∧ (((((IntKind.wrap .u8 (BitVec.ofInt (IntKind.bits .u8) (Int.fdiv m (2 ^ (min (Int.toNat x5) (IntKind.bits .u8)))) &&& BitVec.ofInt (IntKind.bits .u8) 1).toNat) : Int) == 1) = true → (InR ((8 : Int) * x5)) ∧ ((0 : Int) ≤ ((8 : Int) * x5)) ∧ ((InR ((x5 : Int) + 1)) ∧ (N0 (head105_0 m (IntKind.wrap .u64 (BitVec.ofInt (IntKind.bits .u64) x3 ||| BitVec.ofInt (IntKind.bits .u64) (IntKind.wrap .u64 ((255 : Int) * 2 ^ (min (Int.toNat ((8 : Int) * x5)) (IntKind.bits .u64))))).toNat) ((x5 : Int) + 1))))) ∧ ((((IntKind.wrap .u8 (BitVec.ofInt (IntKind.bits .u8) (Int.fdiv m (2 ^ (min (Int.toNat x5) (IntKind.bits .u8)))) &&& BitVec.ofInt (IntKind.bits .u8) 1).toNat) : Int) == 1) = false → (InR ((x5 : Int) + 1)) ∧ (N0 (head105_0 m x3 ((x5 : Int) + 1)))))) ∧ ((decide ((x5 : Int) < 8)) = false → Q .ret (⟨[(2, .c (.int .u64 x3))], [], []⟩ : LSt U))) :
    W105_l0 m x3 x5 N0 Q := by
  have e_ : (W105_l0 m x3 x5 N0 Q) = (let zz0 := (((IntKind.wrap .u8 (BitVec.ofInt (IntKind.bits .u8) (Int.fdiv m (2 ^ (min (Int.toNat x5) (IntKind.bits .u8)))) &&& BitVec.ofInt (IntKind.bits .u8) 1).toNat) : Int) == 1); (((decide ((x5 : Int) < 8)) = true → (((0 : Int) ≤ x5) ∧ ((zz0 = true → (InR ((8 : Int) * x5)) ∧ ((0 : Int) ≤ ((8 : Int) * x5)) ∧ ((InR ((x5 : Int) + 1)) ∧ (N0 (head105_0 m (IntKind.wrap .u64 (BitVec.ofInt (IntKind.bits .u64) x3 ||| BitVec.ofInt (IntKind.bits .u64) (IntKind.wrap .u64 ((255 : Int) * 2 ^ (min (Int.toNat ((8 : Int) * x5)) (IntKind.bits .u64))))).toNat) ((x5 : Int) + 1))))) ∧ (zz0 = false → (InR ((x5 : Int) + 1)) ∧ (N0 (head105_0 m x3 ((x5 : Int) + 1))))))) ∧ ((decide ((x5 : Int) < 8)) = false → (Q .ret (⟨[(2, .c (.int .u64 x3))], [], []⟩ : LSt U))))) := by kernel_rfl
  exact e_.mpr ⟨fun c_1 => ⟨(h.1 c_1).1, ⟨fun c_2 => ⟨((h.1 c_1).2.1 c_2).1, ((h.1 c_1).2.1 c_2).2.1, ⟨((h.1 c_1).2.1 c_2).2.2.1, ((h.1 c_1).2.1 c_2).2.2.2⟩⟩, fun c_2 => ⟨((h.1 c_1).2.2 c_2).1, ((h.1 c_1).2.2 c_2).2⟩⟩⟩, fun c_1 => (h.2 c_1)⟩
def Body105 (m : Int)  : Prop := awp cfg (know (know105)) (drawOk cfg (know (know105))) Try.f105.ntmps lv105 (cd Try.f105 []) (entry (args105.can (m, ())) []) (EndsQ cfg Try.f105.ntmps Try.f105.results.toList (res105 (m, ())) [])
theorem make105 (hb : ∀ (m : Int) (_ : Unit), pre105 (m, ()) → Body105 m) : Contract Try.prog cfg 105 spec105 :=
  contract_flat (l := []) cfgOk rfl (trivial) lv105 Try.func105 rfl rfl 1 (fun _ => rfl) (by decide) (fun ⟨m, _⟩ => hb m ())
noncomputable def know66 : List (FuncId × Fs U) := [(105, spec105)]
def lv66 : Lives U := fun i => match i with
  | 0 => ([(0, []), (1, []), (2, [])], [])
  | 1 => ([(6, [])], [])
  | _ => ([], [])
abbrev W66 (a : Int) (b : Int) (m : Int) (Q : AExit → LSt U → Prop) := awp cfg (know know66) (drawOk cfg (know know66)) Try.f66.ntmps lv66 (cd Try.f66 []) (⟨[(0, .c (.int .u64 a)), (1, .c (.int .u64 b)), (2, .c (.int .u8 m))], [], []⟩ : LSt U) Q
theorem vc66 (a : Int) (b : Int) (m : Int) (Q : AExit → LSt U → Prop) (h : (pre105 (m, ())) ∧ (pre105 (m, ())) ∧ (Q .ret (⟨[(6, .c (.int .u64 (IntKind.wrap .u64 (BitVec.ofInt (IntKind.bits .u64) (IntKind.wrap .u64 (BitVec.ofInt (IntKind.bits .u64) a &&& ~~~(BitVec.ofInt (IntKind.bits .u64) ((widN (m).toNat 8 : Nat) : Int))).toNat) ||| BitVec.ofInt (IntKind.bits .u64) (IntKind.wrap .u64 (BitVec.ofInt (IntKind.bits .u64) b &&& BitVec.ofInt (IntKind.bits .u64) ((widN (m).toNat 8 : Nat) : Int)).toNat)).toNat)))], [], []⟩ : LSt U))) :
    W66 a b m Q := by
  have e_ : (W66 a b m Q) = (type_of% h) := by kernel_rfl
  exact e_.mpr ⟨h.1, h.2.1, h.2.2⟩
def Body66 (a : Int) (b : Int) (m : Int)  : Prop := awp cfg (know (know66)) (drawOk cfg (know (know66))) Try.f66.ntmps lv66 (cd Try.f66 []) (entry (args66.can (a, b, m, ())) []) (EndsQ cfg Try.f66.ntmps Try.f66.results.toList (res66 (a, b, m, ())) [])
theorem make66 (c105 : Contract Try.prog cfg 105 spec105) (hb : ∀ (a : Int) (b : Int) (m : Int) (_ : Unit), pre66 (a, b, m, ()) → Body66 a b m) : Contract Try.prog cfg 66 spec66 :=
  contract_flat (l := [(105, spec105)]) cfgOk rfl (⟨c105, trivial⟩) lv66 Try.func66 rfl rfl 3 (fun _ => rfl) (by decide) (fun ⟨a, b, m, _⟩ => hb a b m ())
noncomputable def know122 : List (FuncId × Fs U) := [(80, spec80)]
def lv122 : Lives U := fun i => match i with
  | 0 => ([(1, [])], [((.loc 1), [])])
  | 1 => ([(2, [])], [])
  | _ => ([], [])
abbrev W122 (t : Tree) (Q : AExit → LSt U → Prop) := awp cfg (know know122) (drawOk cfg (know know122)) Try.f122.ntmps lv122 (cd Try.f122 []) (⟨[(0, .agg [.int .i64 (Tree.kind t), .slice (U := U) .u64 (Tree.words t) .unk, .slice (U := U) .tree (Tree.kids t) .unk])], [], []⟩ : LSt U) Q
theorem vc122 (t : Tree) (Q : AExit → LSt U → Prop) (h : ((((Tree.kind t) : Int) != 10) = true → pre80 ((Tree.mk (Tree.kind t) (Tree.words t) (Tree.kids t)), ())) ∧ (Q .ret (⟨[(2, .c (.bool (bif (((Tree.kind t) : Int) != 10) then (rightT (Tree.mk (Tree.kind t) (Tree.words t) (Tree.kids t)) 64) else false)))], [], []⟩ : LSt U))) :
    W122 t Q := by
  have e_ : (W122 t Q) = (((TrKG20c (((Tree.kind t) != 10) = true)) ∧ (((Tree.kind t) != 10) = true → pre80 ((Tree.mk (Tree.kind t) (Tree.words t) (Tree.kids t)), ())) ∧ ((TrKG20c (((Tree.kind t) != 10) = true))) ∧ (Q .ret (⟨[(2, .c (.bool (bif ((Tree.kind t) != 10) then (rightT (Tree.mk (Tree.kind t) (Tree.words t) (Tree.kids t)) 64) else false)))], [], []⟩ : LSt U)))) := by kernel_rfl
  exact e_.mpr ⟨id, h.1, (by generalize (((Tree.kind t) : Int) != 10) = b0; revert b0; decide), h.2⟩
def Body122 (t : Tree)  : Prop := awp cfg (know (know122)) (drawOk cfg (know (know122))) Try.f122.ntmps lv122 (cd Try.f122 []) (entry (args122.can (t, ())) []) (EndsQ cfg Try.f122.ntmps Try.f122.results.toList (res122 (t, ())) [])
theorem make122 (c80 : Contract Try.prog cfg 80 spec80) (hb : ∀ (t : Tree) (_ : Unit), pre122 (t, ()) → Body122 t) : Contract Try.prog cfg 122 spec122 :=
  contract_flat (l := [(80, spec80)]) cfgOk rfl (⟨c80, trivial⟩) lv122 Try.func122 rfl rfl 1 (fun _ => rfl) (by decide) (fun ⟨t, _⟩ => hb t ())
noncomputable def know186 : List (FuncId × Fs U) := [(80, spec80)]
def lv186 : Lives U := fun i => match i with
  | 0 => ([(0, []), (3, [])], [((.loc 3), [])])
  | 1 => ([(4, [])], [])
  | _ => ([], [])
abbrev W186 (list : Int) (t : Tree) (Q : AExit → LSt U → Prop) := awp cfg (know know186) (drawOk cfg (know know186)) Try.f186.ntmps lv186 (cd Try.f186 []) (⟨[(0, .c (.int .i64 list)), (1, .agg [.int .i64 (Tree.kind t), .slice (U := U) .u64 (Tree.words t) .unk, .slice (U := U) .tree (Tree.kids t) .unk])], [], []⟩ : LSt U) Q
theorem vc186 (list : Int) (t : Tree) (Q : AExit → LSt U → Prop) (h : (pre80 ((Tree.mk list ([]) ([(Tree.mk (Tree.kind t) (Tree.words t) (Tree.kids t))])), ())) ∧ (Q .ret (⟨[(4, .c (.bool (rightT (Tree.mk list ([]) ([(Tree.mk (Tree.kind t) (Tree.words t) (Tree.kids t))])) 64)))], [], []⟩ : LSt U))) :
    W186 list t Q := by
  have e_ : (W186 list t Q) = (type_of% h) := by kernel_rfl
  exact e_.mpr ⟨h.1, h.2⟩
def Body186 (list : Int) (t : Tree)  : Prop := awp cfg (know (know186)) (drawOk cfg (know (know186))) Try.f186.ntmps lv186 (cd Try.f186 []) (entry (args186.can (list, t, ())) []) (EndsQ cfg Try.f186.ntmps Try.f186.results.toList (res186 (list, t, ())) [])
theorem make186 (c80 : Contract Try.prog cfg 80 spec80) (hb : ∀ (list : Int) (t : Tree) (_ : Unit), pre186 (list, t, ()) → Body186 list t) : Contract Try.prog cfg 186 spec186 :=
  contract_flat (l := [(80, spec80)]) cfgOk rfl (⟨c80, trivial⟩) lv186 Try.func186 rfl rfl 2 (fun _ => rfl) (by decide) (fun ⟨list, t, _⟩ => hb list t ())
noncomputable def know187 : List (FuncId × Fs U) := [(120, spec120)]
def lv187 : Lives U := fun i => match i with
  | 0 => ([(0, []), (3, [])], [((.loc 3), [])])
  | 1 => ([(0, []), (3, []), (5, [])], [((.loc 3), [])])
  | 2 => ([(4, [])], [])
  | 3 => ([(3, []), (13, [])], [((.loc 3), [])])
  | 4 => ([(4, [])], [])
  | 5 => ([(4, [])], [])
  | _ => ([], [])
abbrev W187 (list : Int) (e : Edit) (Q : AExit → LSt U → Prop) := awp cfg (know know187) (drawOk cfg (know know187)) Try.f187.ntmps lv187 (cd Try.f187 []) (⟨[(0, .c (.int .i64 list)), (1, .agg [.int .i64 (Edit.kind e), .int .i64 (Tree.kind (Edit.old e)), .slice (U := U) .u64 (Tree.words (Edit.old e)) .unk, .slice (U := U) .tree (Tree.kids (Edit.old e)) .unk, .int .i64 (Tree.kind (Edit.new e)), .slice (U := U) .u64 (Tree.words (Edit.new e)) .unk, .slice (U := U) .tree (Tree.kids (Edit.new e)) .unk, .slice (U := U) .wedit (Edit.words e) .unk, .slice (U := U) .kid (Edit.kids e) .unk, .int .i64 (Edit.list e), .slice (U := U) .op (Edit.ops e) .unk])], [], []⟩ : LSt U) Q
theorem vc187 (list : Int) (e : Edit) (Q : AExit → LSt U → Prop) (h : (pre120 (list, ())) ∧ (((bif (decide (2 ≤ list ∧ list ≤ 7)) then true else (((Edit.kind e) : Int) == 0)) = true → Q .ret (⟨[(4, .c (.bool false))], [], []⟩ : LSt U)) ∧ ((bif (decide (2 ≤ list ∧ list ≤ 7)) then true else (((Edit.kind e) : Int) == 0)) = false → ((bif ((list : Int) == 8) then true else (((Edit.kind e) : Int) == 2)) = true → Q .ret (⟨[(4, .c (.bool true))], [], []⟩ : LSt U)) ∧ ((bif ((list : Int) == 8) then true else (((Edit.kind e) : Int) == 2)) = false → Q .ret (⟨[(4, .c (.bool (bif (bif (((Edit.kind e) : Int) == 1) then (((Tree.kind (Edit.old e)) : Int) == 1) else false) then (((Tree.kind (Edit.new e)) : Int) == 1) else false)))], [], []⟩ : LSt U))))) :
    W187 list e Q := by
  have e_ : (W187 list e Q) = (let zz2 := (bif ((list : Int) == 8) then true else ((Edit.kind e) == 2)); let zz1 := (decide (2 ≤ list ∧ list ≤ 7)); let zz0 := (bif ((Edit.kind e) == 1) then (((Tree.kind (Edit.old e)) : Int) == 1) else false); ((pre120 (list, ())) ∧ (TrKG20c ((!zz1) = true)) ∧ (TrKG20c ((!zz1) = true)) ∧ ((zz1 = false → (!zz1) = true)) ∧ (((bif zz1 then true else ((Edit.kind e) == 0)) = true → (Q .ret (⟨[(4, .c (.bool false))], [], []⟩ : LSt U))) ∧ ((bif zz1 then true else ((Edit.kind e) == 0)) = false → (TrKG20c ((!((list : Int) == 8)) = true)) ∧ (TrKG20c ((!((list : Int) == 8)) = true)) ∧ ((((list : Int) == 8) = false → (!((list : Int) == 8)) = true)) ∧ ((zz2 = true → (Q .ret (⟨[(4, .c (.bool true))], [], []⟩ : LSt U))) ∧ (zz2 = false → (TrKG20c (((Edit.kind e) == 1) = true)) ∧ (TrKG20c (((Edit.kind e) == 1) = true)) ∧ (TrKG20c (((Edit.kind e) == 1) = true)) ∧ ((TrKG20c (((Edit.kind e) == 1) = true))) ∧ (TrKG20c (zz0 = true)) ∧ (TrKG20c (zz0 = true)) ∧ (TrKG20c (zz0 = true)) ∧ ((TrKG20c (zz0 = true))) ∧ (Q .ret (⟨[(4, .c (.bool (bif zz0 then (((Tree.kind (Edit.new e)) : Int) == 1) else false)))], [], []⟩ : LSt U)))))))) := by kernel_rfl
  exact e_.mpr ⟨h.1, id, id, (by generalize (decide (2 ≤ list ∧ list ≤ 7)) = b0; revert b0; decide), ⟨fun c_3 => (h.2.1 c_3), fun c_3 => ⟨id, id, (by generalize ((list : Int) == 8) = b0; revert b0; decide), ⟨fun c_4 => ((h.2.2 c_3).1 c_4), fun c_4 => ⟨id, id, id, (by generalize (((Edit.kind e) : Int) == 1) = b0; revert b0; decide), id, id, id, (by generalize (((Tree.kind (Edit.old e)) : Int) == 1) = b0; generalize (((Edit.kind e) : Int) == 1) = b1; revert b0 b1; decide), ((h.2.2 c_3).2 c_4)⟩⟩⟩⟩⟩
def Body187 (list : Int) (e : Edit)  : Prop := awp cfg (know (know187)) (drawOk cfg (know (know187))) Try.f187.ntmps lv187 (cd Try.f187 []) (entry (args187.can (list, e, ())) []) (EndsQ cfg Try.f187.ntmps Try.f187.results.toList (res187 (list, e, ())) [])
theorem make187 (c120 : Contract Try.prog cfg 120 spec120) (hb : ∀ (list : Int) (e : Edit) (_ : Unit), pre187 (list, e, ()) → Body187 list e) : Contract Try.prog cfg 187 spec187 :=
  contract_flat (l := [(120, spec120)]) cfgOk rfl (⟨c120, trivial⟩) lv187 Try.func187 rfl rfl 2 (fun _ => rfl) (by decide) (fun ⟨list, e, _⟩ => hb list e ())
noncomputable def know123 : List (FuncId × Fs U) := [(66, spec66)]
def lv123 : Lives U := fun i => match i with
  | 0 => ([(0, [])], [])
  | 1 => ([(0, []), (5, []), (6, []), (7, [])], [])
  | 2 => ([(0, []), (5, []), (6, []), (7, []), (8, [])], [])
  | 3 => ([(0, []), (3, []), (4, []), (5, []), (6, []), (7, [])], [((.loc 4), [])])
  | 4 => ([(0, []), (4, []), (5, []), (6, []), (7, []), (39, [])], [((.loc 4), [])])
  | 5 => ([(2, [])], [])
  | 6 => ([(0, []), (5, []), (6, []), (7, []), (53, [])], [])
  | 7 => ([(2, [])], [])
  | 8 => ([(0, []), (5, []), (6, []), (7, [])], [])
  | 9 => ([(2, [])], [])
  | _ => ([], [])
def head123_0 (l : List WEdit) (x7 : Int) : LSt U := (⟨[(0, .c (.slice (U := U) .wedit l .unk)), (5, .c (.slice (U := U) .wedit l .unk)), (6, .c (.int .i64 (l.length : Int))), (7, .c (.int .i64 x7))], [], []⟩ : LSt U)
abbrev W123 (l : List WEdit) (Q : AExit → LSt U → Prop) := awp cfg (know know123) (drawOk cfg (know know123)) Try.f123.ntmps lv123 (cd Try.f123 []) (⟨[(0, .c (.slice (U := U) .wedit l .unk))], [], []⟩ : LSt U) Q
abbrev a123_KG20c := awp cfg (know know123) (drawOk cfg (know know123)) Try.f123.ntmps lv123
abbrev s123_KG20c := seqK cfg (know know123) (drawOk cfg (know know123)) Try.f123.ntmps lv123
theorem vc123 (l : List WEdit) (Q : AExit → LSt U → Prop) (h : LoopWp (awp cfg (know know123) (drawOk cfg (know know123)) Try.f123.ntmps lv123 (cd Try.f123 [1, 0, 1, 0, 0])) (head123_0 l 0) (AExit.inBlock 0 (seqK cfg (know know123) (drawOk cfg (know know123)) Try.f123.ntmps lv123 (cd Try.f123 [1, 1]) Q))) :
    W123 l Q := by
  have e_ : (W123 l Q) = (((LoopWp (a123_KG20c (cd Try.f123 [1, 0, 1, 0, 0])) (head123_0 l 0) (AExit.inBlock 0 (s123_KG20c (cd Try.f123 [1, 1]) Q))))) := by kernel_rfl
  exact e_.mpr h
abbrev W123_l0 (l : List WEdit) (x7 : Int) (N0 : LSt U → Prop) (Q : AExit → LSt U → Prop) := awp cfg (know know123) (drawOk cfg (know know123)) Try.f123.ntmps lv123 (cd Try.f123 [1, 0, 1, 0, 0]) (head123_0 l x7) (AExit.then N0 (AExit.inBlock 0 (seqK cfg (know know123) (drawOk cfg (know know123)) Try.f123.ntmps lv123 (cd Try.f123 [1, 1]) Q)))
theorem vc123_l0 (l : List WEdit) (x7 : Int) (N0 : LSt U → Prop) (Q : AExit → LSt U → Prop) (h : ∀ y_1, y_1 = (List.getD l (Int.toNat x7) (WEdit.mk 0 0 0 0)) → ∀ y_2, y_2 = (List.getD l (Int.toNat ((x7 : Int) - 1)) (WEdit.mk 0 0 0 0)) → ((decide ((x7 : Int) < (l.length : Int))) = true → ((0 : Int) ≤ x7 ∧ x7 < (l.length : Int)) ∧ ((((!(bif (decide (((WEdit.at_ y_1) : Int) < 0)) then true else (decide ((65535 : Int) ≤ (WEdit.at_ y_1))))) && (decide ((0 : Int) < x7))) = true → InR ((x7 : Int) - 1)) ∧ (((!(bif (decide (((WEdit.at_ y_1) : Int) < 0)) then true else (decide ((65535 : Int) ≤ (WEdit.at_ y_1))))) && (decide ((0 : Int) < x7))) = true → (0 : Int) ≤ ((x7 : Int) - 1) ∧ ((x7 : Int) - 1) < (l.length : Int)) ∧ (((bif (bif (bif (decide (((WEdit.at_ y_1) : Int) < 0)) then true else (decide ((65535 : Int) ≤ (WEdit.at_ y_1)))) then true else (bif (decide ((0 : Int) < x7)) then (decide (((WEdit.at_ y_1) : Int) ≤ (WEdit.at_ y_2))) else false)) then true else (((WEdit.mask y_1) : Int) == 0)) = true → Q .ret (⟨[(2, .c (.bool false))], [], []⟩ : LSt U)) ∧ ((bif (bif (bif (decide (((WEdit.at_ y_1) : Int) < 0)) then true else (decide ((65535 : Int) ≤ (WEdit.at_ y_1)))) then true else (bif (decide ((0 : Int) < x7)) then (decide (((WEdit.at_ y_1) : Int) ≤ (WEdit.at_ y_2))) else false)) then true else (((WEdit.mask y_1) : Int) == 0)) = false → (pre66 ((WEdit.old y_1), 0, (WEdit.mask y_1), ())) ∧ ((!(((mix (WEdit.old y_1) 0 (WEdit.mask y_1)) : Int) != 0)) = true → pre66 ((WEdit.new y_1), 0, (WEdit.mask y_1), ())) ∧ (((bif (((mix (WEdit.old y_1) 0 (WEdit.mask y_1)) : Int) != 0) then true else (((mix (WEdit.new y_1) 0 (WEdit.mask y_1)) : Int) != 0)) = true → Q .ret (⟨[(2, .c (.bool false))], [], []⟩ : LSt U)) ∧ ((bif (((mix (WEdit.old y_1) 0 (WEdit.mask y_1)) : Int) != 0) then true else (((mix (WEdit.new y_1) 0 (WEdit.mask y_1)) : Int) != 0)) = false → (InR ((x7 : Int) + 1)) ∧ (N0 (head123_0 l ((x7 : Int) + 1))))))))) ∧ ((decide ((x7 : Int) < (l.length : Int))) = false → Q .ret (⟨[(2, .c (.bool true))], [], []⟩ : LSt U))) :
    W123_l0 l x7 N0 Q := by
  have e_ : (W123_l0 l x7 N0 Q) = (let y_1 := (List.getD l (Int.toNat x7) (WEdit.mk 0 0 0 0)); let y_2 := (List.getD l (Int.toNat ((x7 : Int) - 1)) (WEdit.mk 0 0 0 0)); let zz5 := (((mix (WEdit.new y_1) 0 (WEdit.mask y_1)) : Int) != 0); let zz4 := (decide ((WEdit.at_ y_1) < 0)); let zz3 := (decide ((0 : Int) < x7)); let zz2 := (bif zz3 then (decide ((WEdit.at_ y_1) ≤ (WEdit.at_ y_2))) else false); let zz1 := (((mix (WEdit.old y_1) 0 (WEdit.mask y_1)) : Int) != 0); let zz0 := (bif zz4 then true else (decide ((65535 : Int) ≤ (WEdit.at_ y_1)))); (((decide ((x7 : Int) < (l.length : Int))) = true → ((0 : Int) ≤ x7 ∧ x7 < (l.length : Int)) ∧ ((TrKG20c ((!zz4) = true)) ∧ (TrKG20c ((!zz4) = true)) ∧ ((zz4 = false → (!zz4) = true)) ∧ (TrKG20c ((!zz0) = true)) ∧ (TrKG20c ((!zz0) = true)) ∧ (TrKG20c (((!zz0) && zz3) = true)) ∧ (((!zz0) && zz3) = true → InR ((x7 : Int) - 1)) ∧ (TrKG20c (((!zz0) && zz3) = true)) ∧ (TrKG20c (((!zz0) && zz3) = true)) ∧ (((!zz0) && zz3) = true → (0 : Int) ≤ ((x7 : Int) - 1) ∧ ((x7 : Int) - 1) < (l.length : Int)) ∧ (TrKG20c (((!zz0) && zz3) = true)) ∧ (TrKG20c (((!zz0) && zz3) = true)) ∧ (TrKG20c (((!zz0) && zz3) = true)) ∧ (TrKG20c (((!zz0) && zz3) = true)) ∧ (TrKG20c (((!zz0) && zz3) = true)) ∧ ((!zz0) = true → (True → (!zz0) = true)) ∧ ((!zz0) = true → (zz3 = true → ((!zz0) && zz3) = true)) ∧ ((zz0 = false → (!zz0) = true)) ∧ (TrKG20c ((!(bif zz0 then true else zz2)) = true)) ∧ (TrKG20c ((!(bif zz0 then true else zz2)) = true)) ∧ (((bif zz0 then true else zz2) = false → (!(bif zz0 then true else zz2)) = true)) ∧ (((bif (bif zz0 then true else zz2) then true else ((WEdit.mask y_1) == 0)) = true → (Q .ret (⟨[(2, .c (.bool false))], [], []⟩ : LSt U))) ∧ ((bif (bif zz0 then true else zz2) then true else ((WEdit.mask y_1) == 0)) = false → (pre66 ((WEdit.old y_1), 0, (WEdit.mask y_1), ())) ∧ (TrKG20c ((!zz1) = true)) ∧ (TrKG20c ((!zz1) = true)) ∧ (TrKG20c ((!zz1) = true)) ∧ (TrKG20c ((!zz1) = true)) ∧ ((!zz1) = true → pre66 ((WEdit.new y_1), 0, (WEdit.mask y_1), ())) ∧ (TrKG20c ((!zz1) = true)) ∧ ((zz1 = false → (!zz1) = true)) ∧ (((bif zz1 then true else zz5) = true → (Q .ret (⟨[(2, .c (.bool false))], [], []⟩ : LSt U))) ∧ ((bif zz1 then true else zz5) = false → (InR ((x7 : Int) + 1)) ∧ (N0 (head123_0 l ((x7 : Int) + 1))))))))) ∧ ((decide ((x7 : Int) < (l.length : Int))) = false → (Q .ret (⟨[(2, .c (.bool true))], [], []⟩ : LSt U))))) := by kernel_rfl
  exact e_.mpr (by intro y_1 y_2; have hh := h y_1 rfl y_2 rfl; exact ⟨fun c_5 => ⟨(hh.1 c_5).1, ⟨id, id, (by generalize (decide (((WEdit.at_ y_1) : Int) < 0)) = b0; revert b0; decide), id, id, id, (hh.1 c_5).2.1, id, id, (hh.1 c_5).2.2.1, id, id, id, id, id, (by generalize (decide ((65535 : Int) ≤ (WEdit.at_ y_1))) = b0; generalize (decide (((WEdit.at_ y_1) : Int) < 0)) = b1; revert b0 b1; decide), (by generalize (decide ((65535 : Int) ≤ (WEdit.at_ y_1))) = b0; generalize (decide (((WEdit.at_ y_1) : Int) < 0)) = b1; generalize (decide ((0 : Int) < x7)) = b2; revert b0 b1 b2; decide), (by generalize (decide ((65535 : Int) ≤ (WEdit.at_ y_1))) = b0; generalize (decide (((WEdit.at_ y_1) : Int) < 0)) = b1; revert b0 b1; decide), id, id, (by generalize (decide (((WEdit.at_ y_1) : Int) ≤ (WEdit.at_ y_2))) = b0; generalize (decide ((65535 : Int) ≤ (WEdit.at_ y_1))) = b1; generalize (decide (((WEdit.at_ y_1) : Int) < 0)) = b2; generalize (decide ((0 : Int) < x7)) = b3; revert b0 b1 b2 b3; decide), ⟨fun c_6 => ((hh.1 c_5).2.2.2.1 c_6), fun c_6 => ⟨((hh.1 c_5).2.2.2.2 c_6).1, id, id, id, id, ((hh.1 c_5).2.2.2.2 c_6).2.1, id, (by generalize (((mix (WEdit.old y_1) 0 (WEdit.mask y_1)) : Int) != 0) = b0; revert b0; decide), ⟨fun c_7 => (((hh.1 c_5).2.2.2.2 c_6).2.2.1 c_7), fun c_7 => ⟨(((hh.1 c_5).2.2.2.2 c_6).2.2.2 c_7).1, (((hh.1 c_5).2.2.2.2 c_6).2.2.2 c_7).2⟩⟩⟩⟩⟩⟩, fun c_5 => (hh.2 c_5)⟩)
def Body123 (l : List WEdit)  : Prop := awp cfg (know (know123)) (drawOk cfg (know (know123))) Try.f123.ntmps lv123 (cd Try.f123 []) (entry (args123.can (l, ())) []) (EndsQ cfg Try.f123.ntmps Try.f123.results.toList (res123 (l, ())) [])
theorem make123 (c66 : Contract Try.prog cfg 66 spec66) (hb : ∀ (l : List WEdit) (_ : Unit), pre123 (l, ()) → Body123 l) : Contract Try.prog cfg 123 spec123 :=
  contract_flat (l := [(66, spec66)]) cfgOk rfl (⟨c66, trivial⟩) lv123 Try.func123 rfl rfl 1 (fun _ => rfl) (by decide) (fun ⟨l, _⟩ => hb l ())
end
end Go.AM.Ytpjenobkibfpcaa

namespace Go.AM.Ytpjenobkibfpcaa
open Go.AM Go.Proofs
theorem bit_of : ∀ n : Fin 256, ∀ i : Fin 8, IntKind.wrap .u8 (BitVec.ofInt (IntKind.bits .u8) (Int.fdiv (n.1 : Int) (2 ^ (min (Int.toNat (i.1 : Int)) (IntKind.bits .u8)))) &&& BitVec.ofInt (IntKind.bits .u8) 1).toNat = ((n.1 / 2 ^ i.1 % 2 : Nat) : Int) := by decide +kernel
theorem or_byte : ∀ n : Fin 256, ∀ i : Fin 8, IntKind.wrap .u64 (BitVec.ofInt (IntKind.bits .u64) ((widN n.1 i.1 : Nat) : Int) ||| BitVec.ofInt (IntKind.bits .u64) (IntKind.wrap .u64 (255 * 2 ^ (min (Int.toNat (8 * (i.1 : Int))) (IntKind.bits .u64))))).toNat = ((widN n.1 i.1 + 255 * 2 ^ (8 * i.1) : Nat) : Int) := by decide +kernel
theorem c105 : Contract Try.prog cfg 105 spec105 := by
  refine make105 ?_
  intro m _ hp
  simp only [pre105] at hp
  obtain ⟨n, rfl⟩ := Int.eq_ofNat_of_zero_le hp.1
  have hn : n < 256 := by omega
  refine vc105 _ _ ?_
  refine loop_rule (ι := Nat) (fun i => head105_0 n ((widN n i : Nat) : Int) i) (fun i => i ≤ 8) (fun i => 8 - i) 0 rfl (by omega) ?_
  intro i hi
  refine vc105_l0 _ _ _ _ _ ?_
  (simp only [vcS])
  refine ⟨fun hc => ⟨by omega, fun hq => ⟨by unfold InR; omega, by omega, by unfold InR; omega, i + 1, ?_, by omega, by omega⟩, fun hq => ⟨by unfold InR; omega, i + 1, ?_, by omega, by omega⟩⟩, fun hc => ?_⟩
  · have h1 := bit_of ⟨n, hn⟩ ⟨i, by omega⟩
    have h2 := or_byte ⟨n, hn⟩ ⟨i, by omega⟩
    simp only at h1 h2
    rw [h1] at hq
    rw [h2]
    have e : widN n (i + 1) = widN n i + 255 * 2 ^ (8 * i) := by simp only [widN]; rw [if_pos (by omega)]
    rw [e]
    rfl
  · have h1 := bit_of ⟨n, hn⟩ ⟨i, by omega⟩
    simp only at h1
    rw [h1] at hq
    have e : widN n (i + 1) = widN n i := by simp only [widN]; rw [if_neg (by omega)]; omega
    rw [e]
    rfl
  · have : i = 8 := by omega
    subst this
    exact ends_int rfl rfl
theorem ofInt_nat (a : Nat) (h : a < 2 ^ 64) : (BitVec.ofInt 64 (a : Int)).toNat = a := by
  rw [BitVec.toNat_ofInt]
  omega
theorem c66 : Contract Try.prog cfg 66 spec66 := by
  refine make66 c105 ?_
  intro a b m _ hp
  simp only [pre66] at hp
  obtain ⟨⟨a0, a1⟩, ⟨b0, b1⟩, m0, m1⟩ := hp
  obtain ⟨x, rfl⟩ := Int.eq_ofNat_of_zero_le a0
  obtain ⟨y, rfl⟩ := Int.eq_ofNat_of_zero_le b0
  obtain ⟨n, rfl⟩ := Int.eq_ofNat_of_zero_le m0
  have hn : n < 256 := by omega
  have hx : x < 2 ^ 64 := by omega
  have hy : y < 2 ^ 64 := by omega
  have hw := widW_lt ⟨n, hn⟩
  have hw2 := widN_eq ⟨n, hn⟩
  simp only at hw hw2
  rw [← hw2] at hw
  refine vc66 _ _ _ _ ?_
  refine ⟨⟨m0, m1⟩, ⟨m0, m1⟩, ends_int rfl ?_⟩
  have em : mix x y n = (((x &&& (2 ^ 64 - 1 - widN n 8)) ||| (y &&& widN n 8) : Nat) : Int) := by rw [← mixW_mix, ← mix_bits x y n hn]
  have e1 : (BitVec.ofInt 64 (x : Int) &&& ~~~(BitVec.ofInt 64 ((widN n 8 : Nat) : Int))).toNat = x &&& (2 ^ 64 - 1 - widN n 8) := by
    rw [BitVec.toNat_and, BitVec.toNat_not, ofInt_nat x hx, ofInt_nat _ hw]
  have e2 : (BitVec.ofInt 64 (y : Int) &&& BitVec.ofInt 64 ((widN n 8 : Nat) : Int)).toNat = y &&& widN n 8 := by
    rw [BitVec.toNat_and, ofInt_nat y hy, ofInt_nat _ hw]
  have l1 : x &&& (2 ^ 64 - 1 - widN n 8) < 2 ^ 64 := Nat.lt_of_le_of_lt Nat.and_le_left hx
  have l2 : y &&& widN n 8 < 2 ^ 64 := Nat.lt_of_le_of_lt Nat.and_le_left hy
  have l3 : (x &&& (2 ^ 64 - 1 - widN n 8)) ||| (y &&& widN n 8) < 2 ^ 64 := Nat.or_lt_two_pow l1 l2
  have key : IntKind.wrap .u64 ((BitVec.ofInt 64 (IntKind.wrap .u64 ((BitVec.ofInt 64 (x : Int) &&& ~~~(BitVec.ofInt 64 ((widN n 8 : Nat) : Int))).toNat : Int)) ||| BitVec.ofInt 64 (IntKind.wrap .u64 ((BitVec.ofInt 64 (y : Int) &&& BitVec.ofInt 64 ((widN n 8 : Nat) : Int)).toNat : Int))).toNat : Int) = mix x y n := by
    have w1 : ∀ k : Nat, k < 2 ^ 64 → IntKind.wrap .u64 (k : Int) = k := fun k hk => wrap_u64 (by omega) (by omega)
    rw [e1, e2, w1 _ l1, w1 _ l2, BitVec.toNat_or, ofInt_nat _ l1, ofInt_nat _ l2, w1 _ l3, em]
  exact key
theorem c122 : Contract Try.prog cfg 122 spec122 := by
  refine make122 c80 ?_
  intro t _ hp
  refine vc122 _ _ ?_
  (simp only [Tree.eta, Edit.eta, Tree.kind_mk, Tree.words_mk, Tree.kids_mk])
  refine ⟨fun _ => hp, ends_bool rfl ?_⟩
  rw [Bool.eq_iff_iff]
  (simp only [vcS])
theorem c186 : Contract Try.prog cfg 186 spec186 := by
  refine make186 c80 ?_
  intro list t _ hp
  simp only [pre186] at hp
  refine vc186 _ _ _ ?_
  (simp only [Tree.eta, Edit.eta, Tree.kind_mk, Tree.words_mk, Tree.kids_mk])
  refine ⟨⟨?_, ?_⟩, by (repeat' (first | exact trivial | exact rfl | apply And.intro))⟩
  · simp only [mass, massK, List.length_nil]; omega
  · simp only [rng, rngK]
    have hi := hp.2.2
    unfold isI at hi
    exact ⟨hi, by simp, hp.2.1, trivial⟩
theorem c187 : Contract Try.prog cfg 187 spec187 := by
  refine make187 c120 ?_
  intro list e _ hp
  refine vc187 _ _ _ ?_
  (simp only [vcS])
  refine ⟨trivial, fun h => ?_, fun h => ⟨fun h2 => ?_, fun h2 => ?_⟩⟩
  · exact ends_bool rfl (by show false = withinB list e; unfold withinB; rw [if_pos h])
  · exact ends_bool rfl (by show true = withinB list e; unfold withinB; rw [if_neg (by omega), if_pos h2])
  · refine ends_bool rfl ?_
    show _ = withinB list e
    unfold withinB
    rw [if_neg (by omega), if_neg (by omega), Bool.eq_iff_iff]
    (simp only [vcS])
    omega
theorem wordsOk_cons (last : Int) (w : WEdit) (r : List WEdit) : wordsOk last (w :: r) = (decide (last < w.at_ ∧ w.at_ ≤ 65534 ∧ w.mask ≠ 0) && withinW w.old w.mask && withinW w.new w.mask && wordsOk w.at_ r) := rfl
theorem c123 : Contract Try.prog cfg 123 spec123 := by
  refine make123 c66 ?_
  intro l _ hp
  simp only [pre123] at hp
  refine vc123 _ _ ?_
  refine loop_rule (ι := Int) (fun i => head123_0 l i) (fun i => 0 ≤ i ∧ i ≤ l.length ∧ (i ≠ 0 → 0 ≤ (l.getD (i - 1).toNat (WEdit.mk 0 0 0 0)).at_) ∧ wordsOk (if i = 0 then -1 else (l.getD (i - 1).toNat (WEdit.mk 0 0 0 0)).at_) (l.drop i.toNat) = wordsOk (-1) l) (fun i => ((l.length : Int) - i).toNat) 0 rfl ⟨by omega, by omega, by simp, by simp⟩ ?_
  rintro i ⟨h1, h2, hpos, h3⟩
  refine vc123_l0 _ _ _ _ ?_
  rintro y1 hy1 y2 hy2
  (simp only [vcS])
  refine ⟨fun hi => ?_, fun hi => ?_⟩
  · have hm := hp.2 _ (mem_getD (l := l) (i := i.toNat) (by omega) (WEdit.mk 0 0 0 0))
    rw [dropI h1 hi (WEdit.mk 0 0 0 0), wordsOk_cons] at h3
    rw [← hy1] at h3 hm
    rw [← hy2] at h3 hpos
    obtain ⟨r1, r2, r3, r4⟩ := hm
    unfold isW at r3 r4
    have hw : ∀ x : Int, withinW x y1.mask = decide (mix x 0 y1.mask = 0) := fun x => rfl
    refine ⟨⟨h1, hi⟩, fun _ => by unfold InR; omega, fun _ => ⟨by omega, by omega⟩, fun hq => ?_, fun hq => ⟨⟨r3, by dsimp only; omega, r2⟩, fun _ => ⟨r4, by dsimp only; omega, r2⟩, fun hz => ?_, fun hz => ⟨by unfold InR; omega, i + 1, rfl, ⟨by omega, by omega, fun _ => by rw [show i + 1 - 1 = i by omega, ← hy1]; omega, ?_⟩, by omega⟩⟩⟩
    · refine ends_bool rfl ?_
      show false = wordsOk (-1) l
      rw [← h3, decide_eq_false]
      · rfl
      · split <;> omega
    · refine ends_bool rfl ?_
      show false = wordsOk (-1) l
      rw [← h3, hw, hw]
      rcases hz with hz | hz
      · rw [decide_eq_false hz]; simp
      · rw [decide_eq_false hz]; simp
    · rw [if_neg (by omega), show i + 1 - 1 = i by omega, ← hy1, ← h3, hw, hw, decide_eq_true hz.1, decide_eq_true hz.2, decide_eq_true]
      · simp
      · split <;> omega
  · rw [List.drop_of_length_le (by omega)] at h3
    exact ends_bool rfl (by show true = wordsOk (-1) l; rw [← h3]; rfl)
end Go.AM.Ytpjenobkibfpcaa

namespace Go.AM
def wr (n : Int) : Int := IntKind.wrap .i64 n
def opLenW (o : Op) : Int := if o.kind = 3 then 1 else wr (o.n + o.l.length)
def capW (n : Int) : Int := if 1048576 < n then 1048576 else n
def lenAW : List Op → Int → Int
  | [], n => n
  | o :: r, n => lenAW r (if o.kind = 2 then n else capW (wr (n + opLenW o)))
def lenBW : List Op → Int → Int
  | [], n => n
  | o :: r, n => lenBW r (if o.kind = 1 then n else capW (wr (n + opLenW o)))
def bareE (e : Edit) : Bool :=
  if (e.kind ≠ 1 ∧ ¬(noneT e.old = true ∧ noneT e.new = true)) ∨ (e.kind ≠ 2 ∧ ¬(e.words.length = 0 ∧ e.kids.length = 0)) ∨ (e.kind ≠ 3 ∧ (e.list ≠ 0 ∨ e.ops.length ≠ 0)) then false else true
end Go.AM

namespace Go.AM.Ytpjenobkibfpcaa
open Go.AM Go.Proofs
def args164 : ArgL (Edit × Unit) := (.cons (aEl .edit) .nil)
def pre164 (a : Edit × Unit) : Prop := massE a.1 ≤ 20000000000
noncomputable def res164 (a : Edit × Unit) : V U := .tup [(false, [.int .i64 (lenAW (Edit.ops a.1) 0)]), (false, [.int .i64 (lenBW (Edit.ops a.1) 0)])]
noncomputable def spec164 : Fs U := fs args164 (fun a => [pre164 a]) res164
noncomputable def know164 : List (FuncId × Fs U) := []
def lv164 : Lives U := fun i => match i with
  | 0 => ([(1, [])], [((.loc 1), [])])
  | 1 => ([(1, []), (4, []), (5, [])], [((.loc 1), [])])
  | 2 => ([(4, []), (5, []), (10, []), (11, []), (12, [])], [])
  | 3 => ([(4, []), (5, []), (10, []), (11, []), (12, []), (13, [])], [])
  | 4 => ([(4, []), (5, []), (7, []), (10, []), (11, []), (12, [])], [((.loc 7), [])])
  | 5 => ([(4, []), (5, []), (7, []), (8, []), (10, []), (11, []), (12, [])], [((.loc 7), [])])
  | 6 => ([(4, []), (5, []), (7, []), (8, []), (10, []), (11, []), (12, []), (24, [])], [((.loc 7), [])])
  | 7 => ([(4, []), (5, []), (7, []), (8, []), (10, []), (11, []), (12, []), (24, [])], [((.loc 7), [])])
  | 8 => ([(4, []), (5, []), (7, []), (8, []), (10, []), (11, []), (12, []), (27, [])], [((.loc 7), [])])
  | 9 => ([(4, []), (5, []), (7, []), (8, []), (10, []), (11, []), (12, []), (27, [])], [((.loc 7), [])])
  | 10 => ([(4, []), (5, []), (8, []), (10, []), (11, []), (12, []), (34, [])], [])
  | 11 => ([(4, []), (5, []), (10, []), (11, []), (12, [])], [])
  | 12 => ([(4, []), (5, []), (10, []), (11, []), (12, [])], [])
  | 13 => ([(2, []), (3, [])], [])
  | _ => ([], [])
def head164_0 (e : Edit) (x4 : Int) (x5 : Int) (x12 : Int) : LSt U := (⟨[(4, .c (.int .i64 x4)), (5, .c (.int .i64 x5)), (10, .c (.slice (U := U) .op (Edit.ops e) .unk)), (11, .c (.int .i64 ((Edit.ops e).length : Int))), (12, .c (.int .i64 x12))], [], []⟩ : LSt U)
def head164_1 (e : Edit) (x4 : Int) (x5 : Int) (x12 : Int) (x8_a : Int) : LSt U := (⟨[(4, .c (.int .i64 x4)), (5, .c (.int .i64 x5)), (7, .ptr (.loc 7) 0), (8, .c (.int .i64 x8_a)), (10, .c (.slice (U := U) .op (Edit.ops e) .unk)), (11, .c (.int .i64 ((Edit.ops e).length : Int))), (12, .c (.int .i64 x12)), (24, .c (.bool (((OpOf.kind (List.getD (Edit.ops e) (Int.toNat x12) Op.nil)) : Int) == 3)))], [((.loc 7), [.int .i64 (OpOf.kind (List.getD (Edit.ops e) (Int.toNat x12) Op.nil)), .int .i64 (OpOf.n (List.getD (Edit.ops e) (Int.toNat x12) Op.nil)), .slice (U := U) .tree (OpOf.l (List.getD (Edit.ops e) (Int.toNat x12) Op.nil)) .unk, .int .i64 (Edit.kind (OpOf.e (List.getD (Edit.ops e) (Int.toNat x12) Op.nil))), .int .i64 (Tree.kind (Edit.old (OpOf.e (List.getD (Edit.ops e) (Int.toNat x12) Op.nil)))), .slice (U := U) .u64 (Tree.words (Edit.old (OpOf.e (List.getD (Edit.ops e) (Int.toNat x12) Op.nil)))) .unk, .slice (U := U) .tree (Tree.kids (Edit.old (OpOf.e (List.getD (Edit.ops e) (Int.toNat x12) Op.nil)))) .unk, .int .i64 (Tree.kind (Edit.new (OpOf.e (List.getD (Edit.ops e) (Int.toNat x12) Op.nil)))), .slice (U := U) .u64 (Tree.words (Edit.new (OpOf.e (List.getD (Edit.ops e) (Int.toNat x12) Op.nil)))) .unk, .slice (U := U) .tree (Tree.kids (Edit.new (OpOf.e (List.getD (Edit.ops e) (Int.toNat x12) Op.nil)))) .unk, .slice (U := U) .wedit (Edit.words (OpOf.e (List.getD (Edit.ops e) (Int.toNat x12) Op.nil))) .unk, .slice (U := U) .kid (Edit.kids (OpOf.e (List.getD (Edit.ops e) (Int.toNat x12) Op.nil))) .unk, .int .i64 (Edit.list (OpOf.e (List.getD (Edit.ops e) (Int.toNat x12) Op.nil))), .slice (U := U) .op (Edit.ops (OpOf.e (List.getD (Edit.ops e) (Int.toNat x12) Op.nil))) .unk])], []⟩ : LSt U)
def head164_2 (e : Edit) (x5 : Int) (x12 : Int) (x8_a : Int) (x4_b : Int) : LSt U := (⟨[(4, .c (.int .i64 x4_b)), (5, .c (.int .i64 x5)), (7, .ptr (.loc 7) 0), (8, .c (.int .i64 x8_a)), (10, .c (.slice (U := U) .op (Edit.ops e) .unk)), (11, .c (.int .i64 ((Edit.ops e).length : Int))), (12, .c (.int .i64 x12)), (27, .c (.bool (((OpOf.kind (List.getD (Edit.ops e) (Int.toNat x12) Op.nil)) : Int) != 2)))], [((.loc 7), [.int .i64 (OpOf.kind (List.getD (Edit.ops e) (Int.toNat x12) Op.nil)), .int .i64 (OpOf.n (List.getD (Edit.ops e) (Int.toNat x12) Op.nil)), .slice (U := U) .tree (OpOf.l (List.getD (Edit.ops e) (Int.toNat x12) Op.nil)) .unk, .int .i64 (Edit.kind (OpOf.e (List.getD (Edit.ops e) (Int.toNat x12) Op.nil))), .int .i64 (Tree.kind (Edit.old (OpOf.e (List.getD (Edit.ops e) (Int.toNat x12) Op.nil)))), .slice (U := U) .u64 (Tree.words (Edit.old (OpOf.e (List.getD (Edit.ops e) (Int.toNat x12) Op.nil)))) .unk, .slice (U := U) .tree (Tree.kids (Edit.old (OpOf.e (List.getD (Edit.ops e) (Int.toNat x12) Op.nil)))) .unk, .int .i64 (Tree.kind (Edit.new (OpOf.e (List.getD (Edit.ops e) (Int.toNat x12) Op.nil)))), .slice (U := U) .u64 (Tree.words (Edit.new (OpOf.e (List.getD (Edit.ops e) (Int.toNat x12) Op.nil)))) .unk, .slice (U := U) .tree (Tree.kids (Edit.new (OpOf.e (List.getD (Edit.ops e) (Int.toNat x12) Op.nil)))) .unk, .slice (U := U) .wedit (Edit.words (OpOf.e (List.getD (Edit.ops e) (Int.toNat x12) Op.nil))) .unk, .slice (U := U) .kid (Edit.kids (OpOf.e (List.getD (Edit.ops e) (Int.toNat x12) Op.nil))) .unk, .int .i64 (Edit.list (OpOf.e (List.getD (Edit.ops e) (Int.toNat x12) Op.nil))), .slice (U := U) .op (Edit.ops (OpOf.e (List.getD (Edit.ops e) (Int.toNat x12) Op.nil))) .unk])], []⟩ : LSt U)
abbrev W164 (e : Edit) (Q : AExit → LSt U → Prop) := awp cfg (knowW know164) (drawOk cfg (knowW know164)) Try.f164.ntmps lv164 (cd Try.f164 []) (⟨[(0, .agg [.int .i64 (Edit.kind e), .int .i64 (Tree.kind (Edit.old e)), .slice (U := U) .u64 (Tree.words (Edit.old e)) .unk, .slice (U := U) .tree (Tree.kids (Edit.old e)) .unk, .int .i64 (Tree.kind (Edit.new e)), .slice (U := U) .u64 (Tree.words (Edit.new e)) .unk, .slice (U := U) .tree (Tree.kids (Edit.new e)) .unk, .slice (U := U) .wedit (Edit.words e) .unk, .slice (U := U) .kid (Edit.kids e) .unk, .int .i64 (Edit.list e), .slice (U := U) .op (Edit.ops e) .unk])], [], []⟩ : LSt U) Q
theorem vc164 (e : Edit) (Q : AExit → LSt U → Prop) (h : LoopWp (awp cfg (knowW know164) (drawOk cfg (knowW know164)) Try.f164.ntmps lv164 (cd Try.f164 [1, 1, 0, 1, 0, 0])) (head164_0 e 0 0 0) (AExit.inBlock 0 (seqK cfg (knowW know164) (drawOk cfg (knowW know164)) Try.f164.ntmps lv164 (cd Try.f164 [1, 1, 1]) Q))) :
    W164 e Q := by
  have e_ : (W164 e Q) = ((((LoopWp (awp cfg (knowW know164) (drawOk cfg (knowW know164)) Try.f164.ntmps lv164 (cd Try.f164 [1, 1, 0, 1, 0, 0])) (head164_0 e 0 0 0) (AExit.inBlock 0 (seqK cfg (knowW know164) (drawOk cfg (knowW know164)) Try.f164.ntmps lv164 (cd Try.f164 [1, 1, 1]) Q)))))) := by kernel_rfl
  exact e_.mpr h
abbrev W164_l0 (e : Edit) (x4 : Int) (x5 : Int) (x12 : Int) (N0 : LSt U → Prop) (Q : AExit → LSt U → Prop) := awp cfg (knowW know164) (drawOk cfg (knowW know164)) Try.f164.ntmps lv164 (cd Try.f164 [1, 1, 0, 1, 0, 0]) (head164_0 e x4 x5 x12) (AExit.then N0 (AExit.inBlock 0 (seqK cfg (knowW know164) (drawOk cfg (knowW know164)) Try.f164.ntmps lv164 (cd Try.f164 [1, 1, 1]) Q)))
theorem vc164_l0 (e : Edit) (x4 : Int) (x5 : Int) (x12 : Int) (N0 : LSt U → Prop) (Q : AExit → LSt U → Prop) (h : ((decide ((x12 : Int) < ((Edit.ops e).length : Int))) = true → ((0 : Int) ≤ x12 ∧ x12 < ((Edit.ops e).length : Int)) ∧ (((((OpOf.kind (List.getD (Edit.ops e) (Int.toNat x12) Op.nil)) : Int) == 3) = true → awp cfg (knowW know164) (drawOk cfg (knowW know164)) Try.f164.ntmps lv164 (cd Try.f164 [1, 1, 0, 1, 0, 0, 1, 1, 0, 0, 1, 1, 1]) (head164_1 e x4 x5 x12 1) (AExit.inBlock 1 (seqK cfg (knowW know164) (drawOk cfg (knowW know164)) Try.f164.ntmps lv164 (cd Try.f164 [1, 1, 0, 1, 0, 0, 1, 1, 1]) (AExit.then N0 (AExit.inBlock 0 (seqK cfg (knowW know164) (drawOk cfg (knowW know164)) Try.f164.ntmps lv164 (cd Try.f164 [1, 1, 1]) Q)))))) ∧ ((((OpOf.kind (List.getD (Edit.ops e) (Int.toNat x12) Op.nil)) : Int) == 3) = false → awp cfg (knowW know164) (drawOk cfg (knowW know164)) Try.f164.ntmps lv164 (cd Try.f164 [1, 1, 0, 1, 0, 0, 1, 1, 0, 0, 1, 1, 1]) (head164_1 e x4 x5 x12 (IntKind.wrap .i64 (((OpOf.n (List.getD (Edit.ops e) (Int.toNat x12) Op.nil)) : Int) + ((OpOf.l (List.getD (Edit.ops e) (Int.toNat x12) Op.nil)).length : Int)))) (AExit.inBlock 1 (seqK cfg (knowW know164) (drawOk cfg (knowW know164)) Try.f164.ntmps lv164 (cd Try.f164 [1, 1, 0, 1, 0, 0, 1, 1, 1]) (AExit.then N0 (AExit.inBlock 0 (seqK cfg (knowW know164) (drawOk cfg (knowW know164)) Try.f164.ntmps lv164 (cd Try.f164 [1, 1, 1]) Q)))))))) ∧ ((decide ((x12 : Int) < ((Edit.ops e).length : Int))) = false → Q .ret (⟨[(2, .c (.int .i64 x4)), (3, .c (.int .i64 x5))], [], []⟩ : LSt U))) :
    W164_l0 e x4 x5 x12 N0 Q := by
  have e_ : (W164_l0 e x4 x5 x12 N0 Q) = (let zz0 := (((OpOf.kind (List.getD (Edit.ops e) (Int.toNat x12) Op.nil)) : Int) == 3); (((decide ((x12 : Int) < ((Edit.ops e).length : Int))) = true → ((0 : Int) ≤ x12 ∧ x12 < ((Edit.ops e).length : Int)) ∧ ((((zz0 = true → (awp cfg (knowW know164) (drawOk cfg (knowW know164)) Try.f164.ntmps lv164 (cd Try.f164 [1, 1, 0, 1, 0, 0, 1, 1, 0, 0, 1, 1, 1]) (head164_1 e x4 x5 x12 1) (AExit.inBlock 1 (seqK cfg (knowW know164) (drawOk cfg (knowW know164)) Try.f164.ntmps lv164 (cd Try.f164 [1, 1, 0, 1, 0, 0, 1, 1, 1]) (AExit.then N0 (AExit.inBlock 0 (seqK cfg (knowW know164) (drawOk cfg (knowW know164)) Try.f164.ntmps lv164 (cd Try.f164 [1, 1, 1]) Q))))))) ∧ (zz0 = false → awp cfg (knowW know164) (drawOk cfg (knowW know164)) Try.f164.ntmps lv164 (cd Try.f164 [1, 1, 0, 1, 0, 0, 1, 1, 0, 0, 1, 1, 1]) (head164_1 e x4 x5 x12 (IntKind.wrap .i64 (((OpOf.n (List.getD (Edit.ops e) (Int.toNat x12) Op.nil)) : Int) + ((OpOf.l (List.getD (Edit.ops e) (Int.toNat x12) Op.nil)).length : Int)))) (AExit.inBlock 1 (seqK cfg (knowW know164) (drawOk cfg (knowW know164)) Try.f164.ntmps lv164 (cd Try.f164 [1, 1, 0, 1, 0, 0, 1, 1, 1]) (AExit.then N0 (AExit.inBlock 0 (seqK cfg (knowW know164) (drawOk cfg (knowW know164)) Try.f164.ntmps lv164 (cd Try.f164 [1, 1, 1]) Q)))))))))) ∧ ((decide ((x12 : Int) < ((Edit.ops e).length : Int))) = false → (Q .ret (⟨[(2, .c (.int .i64 x4)), (3, .c (.int .i64 x5))], [], []⟩ : LSt U))))) := by kernel_rfl
  exact e_.mpr ⟨fun c_1 => ⟨(h.1 c_1).1, ⟨fun c_2 => ((h.1 c_1).2.1 c_2), fun c_2 => ((h.1 c_1).2.2 c_2)⟩⟩, fun c_1 => (h.2 c_1)⟩
abbrev W164_c1 (e : Edit) (x4 : Int) (x5 : Int) (x12 : Int) (x8_a : Int) (N0 : LSt U → Prop) (Q : AExit → LSt U → Prop) := awp cfg (knowW know164) (drawOk cfg (knowW know164)) Try.f164.ntmps lv164 (cd Try.f164 [1, 1, 0, 1, 0, 0, 1, 1, 0, 0, 1, 1, 1]) (head164_1 e x4 x5 x12 x8_a) (AExit.inBlock 1 (seqK cfg (knowW know164) (drawOk cfg (knowW know164)) Try.f164.ntmps lv164 (cd Try.f164 [1, 1, 0, 1, 0, 0, 1, 1, 1]) (AExit.then N0 (AExit.inBlock 0 (seqK cfg (knowW know164) (drawOk cfg (knowW know164)) Try.f164.ntmps lv164 (cd Try.f164 [1, 1, 1]) Q)))))
theorem vc164_c1 (e : Edit) (x4 : Int) (x5 : Int) (x12 : Int) (x8_a : Int) (N0 : LSt U → Prop) (Q : AExit → LSt U → Prop) (h : ((((OpOf.kind (List.getD (Edit.ops e) (Int.toNat x12) Op.nil)) : Int) != 2) = true → awp cfg (knowW know164) (drawOk cfg (knowW know164)) Try.f164.ntmps lv164 (cd Try.f164 [1, 1, 0, 1, 0, 0, 1, 1, 0, 0, 1, 1, 1, 1]) (head164_2 e x5 x12 x8_a (if (1048576 : Int) < (IntKind.wrap .i64 ((x4 : Int) + x8_a)) then 1048576 else (IntKind.wrap .i64 ((x4 : Int) + x8_a)))) (AExit.inBlock 1 (seqK cfg (knowW know164) (drawOk cfg (knowW know164)) Try.f164.ntmps lv164 (cd Try.f164 [1, 1, 0, 1, 0, 0, 1, 1, 1]) (AExit.then N0 (AExit.inBlock 0 (seqK cfg (knowW know164) (drawOk cfg (knowW know164)) Try.f164.ntmps lv164 (cd Try.f164 [1, 1, 1]) Q)))))) ∧ ((((OpOf.kind (List.getD (Edit.ops e) (Int.toNat x12) Op.nil)) : Int) != 2) = false → awp cfg (knowW know164) (drawOk cfg (knowW know164)) Try.f164.ntmps lv164 (cd Try.f164 [1, 1, 0, 1, 0, 0, 1, 1, 0, 0, 1, 1, 1, 1]) (head164_2 e x5 x12 x8_a x4) (AExit.inBlock 1 (seqK cfg (knowW know164) (drawOk cfg (knowW know164)) Try.f164.ntmps lv164 (cd Try.f164 [1, 1, 0, 1, 0, 0, 1, 1, 1]) (AExit.then N0 (AExit.inBlock 0 (seqK cfg (knowW know164) (drawOk cfg (knowW know164)) Try.f164.ntmps lv164 (cd Try.f164 [1, 1, 1]) Q))))))) :
    W164_c1 e x4 x5 x12 x8_a N0 Q := by
  have e_ : (W164_c1 e x4 x5 x12 x8_a N0 Q) = (let zz0 := (((OpOf.kind (List.getD (Edit.ops e) (Int.toNat x12) Op.nil)) : Int) != 2); ((zz0 = true → (awp cfg (knowW know164) (drawOk cfg (knowW know164)) Try.f164.ntmps lv164 (cd Try.f164 [1, 1, 0, 1, 0, 0, 1, 1, 0, 0, 1, 1, 1, 1]) (head164_2 e x5 x12 x8_a (if (1048576 : Int) < (IntKind.wrap .i64 ((x4 : Int) + x8_a)) then 1048576 else (IntKind.wrap .i64 ((x4 : Int) + x8_a)))) (AExit.inBlock 1 (seqK cfg (knowW know164) (drawOk cfg (knowW know164)) Try.f164.ntmps lv164 (cd Try.f164 [1, 1, 0, 1, 0, 0, 1, 1, 1]) (AExit.then N0 (AExit.inBlock 0 (seqK cfg (knowW know164) (drawOk cfg (knowW know164)) Try.f164.ntmps lv164 (cd Try.f164 [1, 1, 1]) Q))))))) ∧ (zz0 = false → awp cfg (knowW know164) (drawOk cfg (knowW know164)) Try.f164.ntmps lv164 (cd Try.f164 [1, 1, 0, 1, 0, 0, 1, 1, 0, 0, 1, 1, 1, 1]) (head164_2 e x5 x12 x8_a x4) (AExit.inBlock 1 (seqK cfg (knowW know164) (drawOk cfg (knowW know164)) Try.f164.ntmps lv164 (cd Try.f164 [1, 1, 0, 1, 0, 0, 1, 1, 1]) (AExit.then N0 (AExit.inBlock 0 (seqK cfg (knowW know164) (drawOk cfg (knowW know164)) Try.f164.ntmps lv164 (cd Try.f164 [1, 1, 1]) Q)))))))) := by kernel_rfl
  exact e_.mpr ⟨fun c_3 => (h.1 c_3), fun c_3 => (h.2 c_3)⟩
abbrev W164_c2 (e : Edit) (x5 : Int) (x12 : Int) (x8_a : Int) (x4_b : Int) (N0 : LSt U → Prop) (Q : AExit → LSt U → Prop) := awp cfg (knowW know164) (drawOk cfg (knowW know164)) Try.f164.ntmps lv164 (cd Try.f164 [1, 1, 0, 1, 0, 0, 1, 1, 0, 0, 1, 1, 1, 1]) (head164_2 e x5 x12 x8_a x4_b) (AExit.inBlock 1 (seqK cfg (knowW know164) (drawOk cfg (knowW know164)) Try.f164.ntmps lv164 (cd Try.f164 [1, 1, 0, 1, 0, 0, 1, 1, 1]) (AExit.then N0 (AExit.inBlock 0 (seqK cfg (knowW know164) (drawOk cfg (knowW know164)) Try.f164.ntmps lv164 (cd Try.f164 [1, 1, 1]) Q)))))
theorem vc164_c2 (e : Edit) (x5 : Int) (x12 : Int) (x8_a : Int) (x4_b : Int) (N0 : LSt U → Prop) (Q : AExit → LSt U → Prop) (h : ((((OpOf.kind (List.getD (Edit.ops e) (Int.toNat x12) Op.nil)) : Int) != 1) = true → N0 (head164_0 e x4_b (if (1048576 : Int) < (IntKind.wrap .i64 ((x5 : Int) + x8_a)) then 1048576 else (IntKind.wrap .i64 ((x5 : Int) + x8_a))) (IntKind.wrap .i64 ((x12 : Int) + 1)))) ∧ ((((OpOf.kind (List.getD (Edit.ops e) (Int.toNat x12) Op.nil)) : Int) != 1) = false → N0 (head164_0 e x4_b x5 (IntKind.wrap .i64 ((x12 : Int) + 1))))) :
    W164_c2 e x5 x12 x8_a x4_b N0 Q := by
  have e_ : (W164_c2 e x5 x12 x8_a x4_b N0 Q) = ((((((OpOf.kind (List.getD (Edit.ops e) (Int.toNat x12) Op.nil)) : Int) != 1) = true → ((N0 (head164_0 e x4_b (if (1048576 : Int) < (IntKind.wrap .i64 ((x5 : Int) + x8_a)) then 1048576 else (IntKind.wrap .i64 ((x5 : Int) + x8_a))) (IntKind.wrap .i64 ((x12 : Int) + 1)))))) ∧ ((((OpOf.kind (List.getD (Edit.ops e) (Int.toNat x12) Op.nil)) : Int) != 1) = false → (N0 (head164_0 e x4_b x5 (IntKind.wrap .i64 ((x12 : Int) + 1))))))) := by kernel_rfl
  exact e_.mpr ⟨fun c_4 => (h.1 c_4), fun c_4 => (h.2 c_4)⟩
def Body164 (e : Edit)  : Prop := awp cfg (knowW (know164)) (drawOk cfg (knowW (know164))) Try.f164.ntmps lv164 (cd Try.f164 []) (entry (args164.can (e, ())) []) (EndsQ cfg Try.f164.ntmps Try.f164.results.toList (res164 (e, ())) [])
theorem make164 (hb : ∀ (e : Edit) (_ : Unit), pre164 (e, ()) → Body164 e) : Contract Try.prog cfg 164 spec164 :=
  contract_flatW (l := []) cfgOk rfl (trivial) lv164 Try.func164 rfl rfl 1 (fun _ => rfl) (by decide) (fun ⟨e, _⟩ => hb e ())
end Go.AM.Ytpjenobkibfpcaa

namespace Go.AM.Ytpjenobkibfpcaa
open Go.AM Go.Proofs
theorem wr_in {n : Int} (h : InR n) : wr n = n := by
  unfold InR at h
  simp [wr, IntKind.wrap, IntKind.signed, IntKind.bits]
  split <;> omega
theorem lenAW_drop {l : List Op} {i : Int} (n : Int) (h0 : 0 ≤ i) (h : i < l.length) : lenAW (l.drop i.toNat) n = lenAW (l.drop (i + 1).toNat) (if (l.getD i.toNat Op.nil).kind = 2 then n else capW (wr (n + opLenW (l.getD i.toNat Op.nil)))) := by
  rw [dropI h0 h Op.nil, lenAW]
theorem lenBW_drop {l : List Op} {i : Int} (n : Int) (h0 : 0 ≤ i) (h : i < l.length) : lenBW (l.drop i.toNat) n = lenBW (l.drop (i + 1).toNat) (if (l.getD i.toNat Op.nil).kind = 1 then n else capW (wr (n + opLenW (l.getD i.toNat Op.nil)))) := by
  rw [dropI h0 h Op.nil, lenBW]
theorem c164 : Contract Try.prog cfg 164 spec164 := by
  refine make164 ?_
  intro e _ hp
  simp only [pre164] at hp
  have h1 := len_massE e
  have h2 := massOs_len e.ops
  refine vc164 _ _ ?_
  refine loop_rule (ι := Int × Int × Int) (fun s => head164_0 e s.1 s.2.1 s.2.2) (fun s => (0 ≤ s.2.2 ∧ s.2.2 ≤ e.ops.length) ∧ lenAW (e.ops.drop s.2.2.toNat) s.1 = lenAW e.ops 0 ∧ lenBW (e.ops.drop s.2.2.toNat) s.2.1 = lenBW e.ops 0) (fun s => ((e.ops.length : Int) - s.2.2).toNat) (0, 0, 0) rfl ⟨⟨by simp, by simp⟩, rfl, rfl⟩ ?_
  rintro ⟨n, m, i⟩ ⟨⟨g1, g2⟩, g3, g4⟩
  dsimp only at g1 g2 g3 g4
  refine vc164_l0 _ _ _ _ _ _ ?_
  (simp only [vcS])
  refine ⟨fun hi => ⟨⟨g1, hi⟩, ?_⟩, fun hi => ?_⟩
  · rw [lenAW_drop _ g1 hi] at g3
    rw [lenBW_drop _ g1 hi] at g4
    have hk : IntKind.wrap .i64 (i + 1) = i + 1 := wr_in (by unfold InR; omega)
    generalize hy : e.ops.getD i.toNat Op.nil = y at *
    have key : ∀ k : Int, k = opLenW y → ∀ (Q' : AExit → LSt U → Prop), W164_c1 e n m i k (fun s2 => ∃ j : Int × Int × Int, s2 = head164_0 e j.1 j.2.1 j.2.2 ∧ ((0 ≤ j.2.2 ∧ j.2.2 ≤ e.ops.length) ∧ lenAW (e.ops.drop j.2.2.toNat) j.1 = lenAW e.ops 0 ∧ lenBW (e.ops.drop j.2.2.toNat) j.2.1 = lenBW e.ops 0) ∧ ((e.ops.length : Int) - j.2.2).toNat < ((e.ops.length : Int) - i).toNat) Q' := by
      rintro k rfl Q'
      have step2 : ∀ a : Int, a = (if y.kind = 2 then n else capW (wr (n + opLenW y))) → W164_c2 e m i (opLenW y) a (fun s2 => ∃ j : Int × Int × Int, s2 = head164_0 e j.1 j.2.1 j.2.2 ∧ ((0 ≤ j.2.2 ∧ j.2.2 ≤ e.ops.length) ∧ lenAW (e.ops.drop j.2.2.toNat) j.1 = lenAW e.ops 0 ∧ lenBW (e.ops.drop j.2.2.toNat) j.2.1 = lenBW e.ops 0) ∧ ((e.ops.length : Int) - j.2.2).toNat < ((e.ops.length : Int) - i).toNat) Q' := by
        rintro a ha
        refine vc164_c2 _ _ _ _ _ _ _ ?_
        rw [hy, hk]
        (simp only [vcS])
        rw [← ha] at g3
        refine ⟨fun hb => ⟨(a, _, i + 1), rfl, ⟨⟨by dsimp only; omega, by dsimp only; omega⟩, g3, ?_⟩, by dsimp only; omega⟩, fun hb => ⟨(a, _, i + 1), rfl, ⟨⟨by dsimp only; omega, by dsimp only; omega⟩, g3, ?_⟩, by dsimp only; omega⟩⟩
        · rw [if_neg hb] at g4; exact g4
        · rw [if_pos hb] at g4; exact g4
      refine vc164_c1 _ _ _ _ _ _ _ ?_
      rw [hy]
      (simp only [vcS])
      exact ⟨fun hb => step2 _ (by rw [if_neg hb]; rfl), fun hb => step2 _ (by rw [if_pos hb])⟩
    exact ⟨fun hb => key _ (by unfold opLenW; rw [if_pos hb]) _, fun hb => key _ (by unfold opLenW; rw [if_neg hb]; rfl) _⟩
  · rw [List.drop_of_length_le (by omega)] at g3 g4
    simp only [lenAW, lenBW] at g3 g4
    rw [g3, g4]
    (repeat' (first | exact trivial | exact rfl | apply And.intro))
theorem lenAW_eq : ∀ (l : List Op) (n : Int), (∀ o ∈ l, (0 ≤ o.n ∧ o.n ≤ 1048576) ∧ o.l.length ≤ 20000000000) → 0 ≤ n → n ≤ 1048576 → lenAW l n = lenA l n
  | [], _, _, _, _ => rfl
  | o :: r, n, h, h0, hn => by
    have ho := h o (List.mem_cons_self ..)
    have hl := opLen_eq o
    have ew : opLenW o = opLen o := by
      unfold opLenW; rw [hl]
      split
      · rfl
      · exact wr_in (by unfold InR; omega)
    have hb : 0 ≤ opLen o ∧ opLen o ≤ 60000000000 := by rw [hl]; split <;> omega
    simp only [lenAW, lenA]
    rw [ew, wr_in (by unfold InR; omega)]
    have e2 : (if o.kind = 2 then n else capW (n + opLen o)) = min (if o.kind = 2 then n else n + opLen o) 1048576 := by
      unfold capW; split
      · omega
      · split <;> omega
    rw [e2]
    exact lenAW_eq r _ (fun x hx => h x (List.mem_cons_of_mem _ hx)) (by split <;> omega) (by omega)
theorem lenBW_eq : ∀ (l : List Op) (n : Int), (∀ o ∈ l, (0 ≤ o.n ∧ o.n ≤ 1048576) ∧ o.l.length ≤ 20000000000) → 0 ≤ n → n ≤ 1048576 → lenBW l n = lenB l n
  | [], _, _, _, _ => rfl
  | o :: r, n, h, h0, hn => by
    have ho := h o (List.mem_cons_self ..)
    have hl := opLen_eq o
    have ew : opLenW o = opLen o := by
      unfold opLenW; rw [hl]
      split
      · rfl
      · exact wr_in (by unfold InR; omega)
    have hb : 0 ≤ opLen o ∧ opLen o ≤ 60000000000 := by rw [hl]; split <;> omega
    simp only [lenBW, lenB]
    rw [ew, wr_in (by unfold InR; omega)]
    have e2 : (if o.kind = 1 then n else capW (n + opLen o)) = min (if o.kind = 1 then n else n + opLen o) 1048576 := by
      unfold capW; split
      · omega
      · split <;> omega
    rw [e2]
    exact lenBW_eq r _ (fun x hx => h x (List.mem_cons_of_mem _ hx)) (by split <;> omega) (by omega)
end Go.AM.Ytpjenobkibfpcaa

namespace Go.AM.Ytpjenobkibfpcaa
open Go.AM Go.Proofs
theorem massKT (t : Tree) : t.words.length + massK t.kids + 1 = mass t := by obtain ⟨k, w, ks⟩ := t; simp only [mass, Tree.words_mk, Tree.kids_mk]; omega
end Go.AM.Ytpjenobkibfpcaa

namespace Go.AM.Ytpjenobkibfpcaa
open Go.AM Go.Proofs
abbrev TrKG22c (p : Prop) : Prop := p → p
def args129 : ArgM ((List Op × List Tree × List Tree × Unit) × Unit) := (.obj 0 (.cons (cWr .op 0 0) (.cons (cOwn .tree 0 1) (.cons (cOwn .tree 0 2) .nil))) .nil)
def pre129 (a : (List Op × List Tree × List Tree × Unit) × Unit) : Prop := (a.1.1).length ≤ 200000000000 ∧ (a.1.2.1).length ≤ 200000000000 ∧ (a.1.2.2.1).length ≤ 200000000000
noncomputable def res129 (a : (List Op × List Tree × List Tree × Unit) × Unit) : V U := .tup []
noncomputable def resX129 (a : (List Op × List Tree × List Tree × Unit) × Unit) : List (List (C U)) := [[.mref (.x 0 0), .slice (U := U) .tree ((flushW (Wst.mk a.1.1 a.1.2.1 a.1.2.2.1)).gone) (.own (.x 0 1)), .slice (U := U) .tree ((flushW (Wst.mk a.1.1 a.1.2.1 a.1.2.2.1)).brought) (.own (.x 0 2))]]
noncomputable def resL129 (a : (List Op × List Tree × List Tree × Unit) × Unit) : List (Tok × LC U) := [(.x 0 0, LC.mk (U := U) .op ((flushW (Wst.mk a.1.1 a.1.2.1 a.1.2.2.1)).out) 0)]
noncomputable def spec129 : Fs U := fsXL args129 (fun a => [pre129 a]) res129 resX129 resL129
def args126 : ArgM ((List Op × List Tree × List Tree × Unit) × Int × Unit) := (.obj 0 (.cons (cWr .op 0 0) (.cons (cOwn .tree 0 1) (.cons (cOwn .tree 0 2) .nil))) (.cons (aInt .i64) .nil))
def pre126 (a : (List Op × List Tree × List Tree × Unit) × Int × Unit) : Prop := (a.1.1).length ≤ 200000000000 ∧ (a.1.2.1).length ≤ 200000000000 ∧ (a.1.2.2.1).length ≤ 200000000000 ∧ (∀ o ∈ a.1.1, 0 ≤ o.n ∧ o.n ≤ 100000000000000000) ∧ 0 ≤ a.2.1 ∧ a.2.1 ≤ 1048576
noncomputable def res126 (a : (List Op × List Tree × List Tree × Unit) × Int × Unit) : V U := .tup []
noncomputable def resX126 (a : (List Op × List Tree × List Tree × Unit) × Int × Unit) : List (List (C U)) := [[.mref (.x 0 0), .slice (U := U) .tree ((keepW (Wst.mk a.1.1 a.1.2.1 a.1.2.2.1) a.2.1).gone) (.own (.x 0 1)), .slice (U := U) .tree ((keepW (Wst.mk a.1.1 a.1.2.1 a.1.2.2.1) a.2.1).brought) (.own (.x 0 2))]]
noncomputable def resL126 (a : (List Op × List Tree × List Tree × Unit) × Int × Unit) : List (Tok × LC U) := [(.x 0 0, LC.mk (U := U) .op ((keepW (Wst.mk a.1.1 a.1.2.1 a.1.2.2.1) a.2.1).out) 0)]
noncomputable def spec126 : Fs U := fsXL args126 (fun a => [pre126 a]) res126 resX126 resL126
def args127 : ArgM ((List Op × List Tree × List Tree × Unit) × List Tree × Unit) := (.objAt 0 1 (.cons (cWr .op 0 0) (.cons (cOwn .tree 0 1) (.cons (cOwn .tree 0 2) .nil))) (.cons (aSl .tree) .nil))
def pre127 (a : (List Op × List Tree × List Tree × Unit) × List Tree × Unit) : Prop := (a.1.1).length ≤ 200000000000 ∧ (a.1.2.1).length ≤ 200000000000 ∧ (a.1.2.2.1).length ≤ 200000000000 ∧ massK a.2.1 ≤ 20000000000
noncomputable def res127 (a : (List Op × List Tree × List Tree × Unit) × List Tree × Unit) : V U := .tup []
noncomputable def resX127 (a : (List Op × List Tree × List Tree × Unit) × List Tree × Unit) : List (List (C U)) := [[.mref (.x 0 0), .slice (U := U) .tree ((Wst.mk a.1.1 (a.1.2.1 ++ normsT a.2.1) a.1.2.2.1).gone) (.own (.x 0 1)), .slice (U := U) .tree ((Wst.mk a.1.1 (a.1.2.1 ++ normsT a.2.1) a.1.2.2.1).brought) (.own (.x 0 2))]]
noncomputable def resL127 (a : (List Op × List Tree × List Tree × Unit) × List Tree × Unit) : List (Tok × LC U) := [(.x 0 0, LC.mk (U := U) .op ((Wst.mk a.1.1 (a.1.2.1 ++ normsT a.2.1) a.1.2.2.1).out) 0)]
noncomputable def spec127 : Fs U := fsXL args127 (fun a => [pre127 a]) res127 resX127 resL127
def args1127 : ArgM ((List Op × List Tree × List Tree × Unit) × List Tree × Unit) := (.objAt 0 2 (.cons (cWr .op 0 0) (.cons (cOwn .tree 0 1) (.cons (cOwn .tree 0 2) .nil))) (.cons (aSl .tree) .nil))
def pre1127 (a : (List Op × List Tree × List Tree × Unit) × List Tree × Unit) : Prop := (a.1.1).length ≤ 200000000000 ∧ (a.1.2.1).length ≤ 200000000000 ∧ (a.1.2.2.1).length ≤ 200000000000 ∧ massK a.2.1 ≤ 20000000000
noncomputable def res1127 (a : (List Op × List Tree × List Tree × Unit) × List Tree × Unit) : V U := .tup []
noncomputable def resX1127 (a : (List Op × List Tree × List Tree × Unit) × List Tree × Unit) : List (List (C U)) := [[.mref (.x 0 0), .slice (U := U) .tree ((Wst.mk a.1.1 a.1.2.1 (a.1.2.2.1 ++ normsT a.2.1)).gone) (.own (.x 0 1)), .slice (U := U) .tree ((Wst.mk a.1.1 a.1.2.1 (a.1.2.2.1 ++ normsT a.2.1)).brought) (.own (.x 0 2))]]
noncomputable def resL1127 (a : (List Op × List Tree × List Tree × Unit) × List Tree × Unit) : List (Tok × LC U) := [(.x 0 0, LC.mk (U := U) .op ((Wst.mk a.1.1 a.1.2.1 (a.1.2.2.1 ++ normsT a.2.1)).out) 0)]
noncomputable def spec1127 : Fs U := fsXL args1127 (fun a => [pre1127 a]) res1127 resX1127 resL1127
def args1128 : ArgL (Int × Edit × Unit) := (.cons (aInt .i64) (.cons (aEl .edit) .nil))
def pre1128 (a : Int × Edit × Unit) : Prop := (Edit.words a.2.1).length ≤ 20000000000 ∧ (Edit.kids a.2.1).length ≤ 20000000000
noncomputable def res1128 (a : Int × Edit × Unit) : V U := .c (.bool (idleE a.1 a.2.1))
noncomputable def spec1128 : Fs U := fs args1128 (fun a => [pre1128 a]) res1128
def args1111 : ArgL (Int × Edit × Unit) := (.cons (aInt .i64) (.cons (aEl .edit) .nil))
def pre1111 (a : Int × Edit × Unit) : Prop := True
noncomputable def res1111 (a : Int × Edit × Unit) : V U := .c (.bool (idleE a.1 a.2.1))
noncomputable def spec1111 : Fs U := fs args1111 (fun a => [pre1111 a]) res1111
noncomputable def know129 : List (FuncId × Fs U) := []
def lv129 : Lives U := fun i => match i with
  | 0 => ([(0, []), (7, [])], [((.x 0), [.wr .op])])
  | 1 => ([(0, [])], [((.x 0), [.wr .op])])
  | 2 => ([(0, []), (28, [])], [((.x 0), [.wr .op])])
  | 3 => ([(0, [])], [((.x 0), [.wr .op])])
  | 4 => ([], [((.x 0), [.wr .op])])
  | _ => ([], [])
abbrev W129 (wo : List Op) (wg : List Tree) (wb : List Tree) (Q : AExit → LSt U → Prop) := awp cfg (know know129) (drawOk cfg (know know129)) Try.f129.ntmps lv129 (cd Try.f129 []) (⟨[(0, .ptr (.x 0) 0)], [((.x 0), [.mref (.x 0 0), .slice (U := U) .tree wg (.own (.x 0 1)), .slice (U := U) .tree wb (.own (.x 0 2))])], [(.x 0 0, LC.mk (U := U) .op wo 0)]⟩ : LSt U) Q
theorem vc129 (wo : List Op) (wg : List Tree) (wb : List Tree) (Q : AExit → LSt U → Prop) (h : ∀ y_1, y_1 = (Edit.mk 0 (Tree.mk 0 ([]) ([])) (Tree.mk 0 ([]) ([])) ([]) ([]) 0 ([])) → ∀ y_2, y_2 = (List.set (wo ++ ([(OpOf.mk 0 0 ([]) y_1 : Op)])) (Int.toNat (wo.length : Int)) (OpOf.mk 1 0 wg y_1 : Op)) → ((decide ((0 : Int) < (wg.length : Int))) = true → ((wo.length + ([(OpOf.mk 0 0 ([]) y_1 : Op)]).length) * 240 ≤ 140737488355328) ∧ ((0 : Int) ≤ (wo.length : Int) ∧ (wo.length : Int) < ((wo ++ ([(OpOf.mk 0 0 ([]) y_1 : Op)])).length : Int)) ∧ ((0 : Nat) ≤ (Int.toNat (wo.length : Int))) ∧ (((decide ((0 : Int) < (wb.length : Int))) = true → ((y_2.length + ([(OpOf.mk 0 0 ([]) y_1 : Op)]).length) * 240 ≤ 140737488355328) ∧ ((0 : Int) ≤ (y_2.length : Int) ∧ (y_2.length : Int) < ((y_2 ++ ([(OpOf.mk 0 0 ([]) y_1 : Op)])).length : Int)) ∧ ((0 : Nat) ≤ (Int.toNat (y_2.length : Int))) ∧ (Q .normal (⟨[], [((.x 0), [.mref (.x 0 0), .nils, .nils])], [(.x 0 0, LC.mk (U := U) .op (List.set (y_2 ++ ([(OpOf.mk 0 0 ([]) y_1 : Op)])) (Int.toNat (y_2.length : Int)) (OpOf.mk 2 0 wb y_1 : Op)) 0)]⟩ : LSt U))) ∧ ((decide ((0 : Int) < (wb.length : Int))) = false → Q .normal (⟨[], [((.x 0), [.mref (.x 0 0), .nils, .nils])], [(.x 0 0, LC.mk (U := U) .op y_2 0)]⟩ : LSt U)))) ∧ ((decide ((0 : Int) < (wg.length : Int))) = false → ((decide ((0 : Int) < (wb.length : Int))) = true → ((wo.length + ([(OpOf.mk 0 0 ([]) y_1 : Op)]).length) * 240 ≤ 140737488355328) ∧ ((0 : Int) ≤ (wo.length : Int) ∧ (wo.length : Int) < ((wo ++ ([(OpOf.mk 0 0 ([]) y_1 : Op)])).length : Int)) ∧ ((0 : Nat) ≤ (Int.toNat (wo.length : Int))) ∧ (Q .normal (⟨[], [((.x 0), [.mref (.x 0 0), .nils, .nils])], [(.x 0 0, LC.mk (U := U) .op (List.set (wo ++ ([(OpOf.mk 0 0 ([]) y_1 : Op)])) (Int.toNat (wo.length : Int)) (OpOf.mk 2 0 wb y_1 : Op)) 0)]⟩ : LSt U))) ∧ ((decide ((0 : Int) < (wb.length : Int))) = false → Q .normal (⟨[], [((.x 0), [.mref (.x 0 0), .nils, .nils])], [(.x 0 0, LC.mk (U := U) .op wo 0)]⟩ : LSt U)))) :
    W129 wo wg wb Q := by
  have e_ : (W129 wo wg wb Q) = (let y_1 := (Edit.mk 0 (Tree.mk 0 ([]) ([])) (Tree.mk 0 ([]) ([])) ([]) ([]) 0 ([])); let y_2 := (List.set (wo ++ ([(OpOf.mk 0 0 ([]) y_1 : Op)])) (Int.toNat (wo.length : Int)) (OpOf.mk 1 0 wg y_1 : Op)); let zz0 := (decide ((0 : Int) < (wb.length : Int))); (((decide ((0 : Int) < (wg.length : Int))) = true → ((wo.length + ([(OpOf.mk 0 0 ([]) y_1 : Op)]).length) * 240 ≤ 140737488355328) ∧ ((0 : Int) ≤ (wo.length : Int) ∧ (wo.length : Int) < ((wo ++ ([(OpOf.mk 0 0 ([]) y_1 : Op)])).length : Int)) ∧ ((0 : Nat) ≤ (Int.toNat (wo.length : Int))) ∧ (((zz0 = true → ((y_2.length + ([(OpOf.mk 0 0 ([]) y_1 : Op)]).length) * 240 ≤ 140737488355328) ∧ ((0 : Int) ≤ (y_2.length : Int) ∧ (y_2.length : Int) < ((y_2 ++ ([(OpOf.mk 0 0 ([]) y_1 : Op)])).length : Int)) ∧ ((0 : Nat) ≤ (Int.toNat (y_2.length : Int))) ∧ ((Q .normal (⟨[], [((.x 0), [.mref (.x 0 0), .nils, .nils])], [(.x 0 0, LC.mk (U := U) .op (List.set (y_2 ++ ([(OpOf.mk 0 0 ([]) y_1 : Op)])) (Int.toNat (y_2.length : Int)) (OpOf.mk 2 0 wb y_1 : Op)) 0)]⟩ : LSt U)))) ∧ (zz0 = false → (Q .normal (⟨[], [((.x 0), [.mref (.x 0 0), .nils, .nils])], [(.x 0 0, LC.mk (U := U) .op y_2 0)]⟩ : LSt U)))))) ∧ ((decide ((0 : Int) < (wg.length : Int))) = false → ((zz0 = true → ((wo.length + ([(OpOf.mk 0 0 ([]) y_1 : Op)]).length) * 240 ≤ 140737488355328) ∧ ((0 : Int) ≤ (wo.length : Int) ∧ (wo.length : Int) < ((wo ++ ([(OpOf.mk 0 0 ([]) y_1 : Op)])).length : Int)) ∧ ((0 : Nat) ≤ (Int.toNat (wo.length : Int))) ∧ ((Q .normal (⟨[], [((.x 0), [.mref (.x 0 0), .nils, .nils])], [(.x 0 0, LC.mk (U := U) .op (List.set (wo ++ ([(OpOf.mk 0 0 ([]) y_1 : Op)])) (Int.toNat (wo.length : Int)) (OpOf.mk 2 0 wb y_1 : Op)) 0)]⟩ : LSt U)))) ∧ (zz0 = false → (Q .normal (⟨[], [((.x 0), [.mref (.x 0 0), .nils, .nils])], [(.x 0 0, LC.mk (U := U) .op wo 0)]⟩ : LSt U))))))) := by kernel_rfl
  exact e_.mpr (by intro y_1 y_2; have hh := h y_1 rfl y_2 rfl; exact ⟨fun c_1 => ⟨(hh.1 c_1).1, (hh.1 c_1).2.1, (hh.1 c_1).2.2.1, ⟨fun c_2 => ⟨((hh.1 c_1).2.2.2.1 c_2).1, ((hh.1 c_1).2.2.2.1 c_2).2.1, ((hh.1 c_1).2.2.2.1 c_2).2.2.1, ((hh.1 c_1).2.2.2.1 c_2).2.2.2⟩, fun c_2 => ((hh.1 c_1).2.2.2.2 c_2)⟩⟩, fun c_1 => ⟨fun c_3 => ⟨((hh.2 c_1).1 c_3).1, ((hh.2 c_1).1 c_3).2.1, ((hh.2 c_1).1 c_3).2.2.1, ((hh.2 c_1).1 c_3).2.2.2⟩, fun c_3 => ((hh.2 c_1).2 c_3)⟩⟩)
def Body129 (wo : List Op) (wg : List Tree) (wb : List Tree)  : Prop := awp cfg (know (know129)) (drawOk cfg (know (know129))) Try.f129.ntmps lv129 (cd Try.f129 []) (entryL (args129.can ((wo, wg, wb, ()), ())) (args129.canX ((wo, wg, wb, ()), ())) (args129.canL ((wo, wg, wb, ()), ()))) (EndsQL cfg Try.f129.ntmps Try.f129.results.toList (res129 ((wo, wg, wb, ()), ())) (resX129 ((wo, wg, wb, ()), ())) (resL129 ((wo, wg, wb, ()), ())))
theorem make129 (hb : ∀ (wo : List Op) (wg : List Tree) (wb : List Tree) (_ : Unit), pre129 ((wo, wg, wb, ()), ()) → Body129 wo wg wb) : Contract Try.prog cfg 129 spec129 :=
  contractXL_flat (l := []) cfgOk rfl (trivial) lv129 Try.func129 rfl rfl 1 (fun _ => rfl) (by decide) (fun ⟨⟨wo, wg, wb, _⟩, _⟩ => hb wo wg wb ())
noncomputable def know126 : List (FuncId × Fs U) := [(129, spec129)]
def lv126 : Lives U := fun i => match i with
  | 0 => ([(0, []), (1, [])], [((.x 0), [.wr .op])])
  | 1 => ([(0, []), (1, []), (4, [])], [((.x 0), [.wr .op])])
  | 2 => ([(0, []), (1, []), (4, []), (25, [])], [((.x 0), [.wr .op])])
  | 3 => ([], [((.x 0), [.wr .op])])
  | 4 => ([], [((.x 0), [.wr .op])])
  | _ => ([], [])
abbrev W126 (wo : List Op) (wg : List Tree) (wb : List Tree) (n : Int) (Q : AExit → LSt U → Prop) := awp cfg (know know126) (drawOk cfg (know know126)) Try.f126.ntmps lv126 (cd Try.f126 []) (⟨[(0, .ptr (.x 0) 0), (1, .c (.int .i64 n))], [((.x 0), [.mref (.x 0 0), .slice (U := U) .tree wg (.own (.x 0 1)), .slice (U := U) .tree wb (.own (.x 0 2))])], [(.x 0 0, LC.mk (U := U) .op wo 0)]⟩ : LSt U) Q
theorem vc126 (wo : List Op) (wg : List Tree) (wb : List Tree) (n : Int) (Q : AExit → LSt U → Prop) (h : ∀ y_1, y_1 = (Edit.mk 0 (Tree.mk 0 ([]) ([])) (Tree.mk 0 ([]) ([])) ([]) ([]) 0 ([])) → ∀ y_2, y_2 = (Int.toNat (((((flushW (Wst.mk wo wg wb)).out).length : Int) : Int) - 1)) → ∀ y_3, y_3 = (List.getD ((flushW (Wst.mk wo wg wb)).out) y_2 Op.nil) → ∀ y_4, y_4 = ((OpOf.e y_3)) → (pre129 ((wo, wg, wb, ()), ())) ∧ ((InR (((((flushW (Wst.mk wo wg wb)).out).length : Int) : Int) - 1)) ∧ (((decide ((0 : Int) ≤ (((((flushW (Wst.mk wo wg wb)).out).length : Int) : Int) - 1))) = true → (0 : Int) ≤ (((((flushW (Wst.mk wo wg wb)).out).length : Int) : Int) - 1) ∧ (((((flushW (Wst.mk wo wg wb)).out).length : Int) : Int) - 1) < (((flushW (Wst.mk wo wg wb)).out).length : Int)) ∧ (((bif (decide ((0 : Int) ≤ (((((flushW (Wst.mk wo wg wb)).out).length : Int) : Int) - 1))) then (((OpOf.kind y_3) : Int) == 0) else false) = true → ((0 : Int) ≤ (((((flushW (Wst.mk wo wg wb)).out).length : Int) : Int) - 1) ∧ (((((flushW (Wst.mk wo wg wb)).out).length : Int) : Int) - 1) < (((flushW (Wst.mk wo wg wb)).out).length : Int)) ∧ (InR (((OpOf.n y_3) : Int) + n)) ∧ ((0 : Int) ≤ (((((flushW (Wst.mk wo wg wb)).out).length : Int) : Int) - 1) ∧ (((((flushW (Wst.mk wo wg wb)).out).length : Int) : Int) - 1) < (((flushW (Wst.mk wo wg wb)).out).length : Int)) ∧ ((0 : Nat) ≤ y_2) ∧ (Q .ret (⟨[], [((.x 0), [.mref (.x 0 0), .slice (U := U) .tree ((flushW (Wst.mk wo wg wb)).gone) (.own (.x 0 1)), .slice (U := U) .tree ((flushW (Wst.mk wo wg wb)).brought) (.own (.x 0 2))])], [(.x 0 0, LC.mk (U := U) .op (List.set ((flushW (Wst.mk wo wg wb)).out) y_2 (OpOf.mk (OpOf.kind y_3) (((OpOf.n y_3) : Int) + n) (OpOf.l y_3) y_4 : Op)) 0)]⟩ : LSt U))) ∧ ((bif (decide ((0 : Int) ≤ (((((flushW (Wst.mk wo wg wb)).out).length : Int) : Int) - 1))) then (((OpOf.kind y_3) : Int) == 0) else false) = false → ((((flushW (Wst.mk wo wg wb)).out).length + ([(OpOf.mk 0 0 ([]) y_1 : Op)]).length) * 240 ≤ 140737488355328) ∧ ((0 : Int) ≤ (((flushW (Wst.mk wo wg wb)).out).length : Int) ∧ (((flushW (Wst.mk wo wg wb)).out).length : Int) < ((((flushW (Wst.mk wo wg wb)).out) ++ ([(OpOf.mk 0 0 ([]) y_1 : Op)])).length : Int)) ∧ ((0 : Nat) ≤ (Int.toNat (((flushW (Wst.mk wo wg wb)).out).length : Int))) ∧ (Q .normal (⟨[], [((.x 0), [.mref (.x 0 0), .slice (U := U) .tree ((flushW (Wst.mk wo wg wb)).gone) (.own (.x 0 1)), .slice (U := U) .tree ((flushW (Wst.mk wo wg wb)).brought) (.own (.x 0 2))])], [(.x 0 0, LC.mk (U := U) .op (List.set (((flushW (Wst.mk wo wg wb)).out) ++ ([(OpOf.mk 0 0 ([]) y_1 : Op)])) (Int.toNat (((flushW (Wst.mk wo wg wb)).out).length : Int)) (OpOf.mk 0 n ([]) y_1 : Op)) 0)]⟩ : LSt U))))))) :
    W126 wo wg wb n Q := by
  have e_ : (W126 wo wg wb n Q) = (let y_1 := (Edit.mk 0 (Tree.mk 0 ([]) ([])) (Tree.mk 0 ([]) ([])) ([]) ([]) 0 ([])); let y_2 := (Int.toNat (((((flushW (Wst.mk wo wg wb)).out).length : Int) : Int) - 1)); let y_3 := (List.getD ((flushW (Wst.mk wo wg wb)).out) y_2 Op.nil); let y_4 := (reEdit (OpOf.e y_3)); let zz0 := (decide ((0 : Int) ≤ (((((flushW (Wst.mk wo wg wb)).out).length : Int) : Int) - 1))); (pre129 ((wo, wg, wb, ()), ())) ∧ ((InR (((((flushW (Wst.mk wo wg wb)).out).length : Int) : Int) - 1)) ∧ ((TrKG22c (zz0 = true)) ∧ (TrKG22c (zz0 = true)) ∧ (TrKG22c (zz0 = true)) ∧ (TrKG22c (zz0 = true)) ∧ (TrKG22c (zz0 = true)) ∧ (zz0 = true → (0 : Int) ≤ (((((flushW (Wst.mk wo wg wb)).out).length : Int) : Int) - 1) ∧ (((((flushW (Wst.mk wo wg wb)).out).length : Int) : Int) - 1) < (((flushW (Wst.mk wo wg wb)).out).length : Int)) ∧ (TrKG22c (zz0 = true)) ∧ (TrKG22c (zz0 = true)) ∧ (TrKG22c (zz0 = true)) ∧ ((TrKG22c (zz0 = true))) ∧ (((bif zz0 then ((OpOf.kind y_3) == 0) else false) = true → ((0 : Int) ≤ (((((flushW (Wst.mk wo wg wb)).out).length : Int) : Int) - 1) ∧ (((((flushW (Wst.mk wo wg wb)).out).length : Int) : Int) - 1) < (((flushW (Wst.mk wo wg wb)).out).length : Int)) ∧ (InR ((OpOf.n y_3) + n)) ∧ ((0 : Int) ≤ (((((flushW (Wst.mk wo wg wb)).out).length : Int) : Int) - 1) ∧ (((((flushW (Wst.mk wo wg wb)).out).length : Int) : Int) - 1) < (((flushW (Wst.mk wo wg wb)).out).length : Int)) ∧ ((0 : Nat) ≤ y_2) ∧ (Q .ret (⟨[], [((.x 0), [.mref (.x 0 0), .slice (U := U) .tree ((flushW (Wst.mk wo wg wb)).gone) (.own (.x 0 1)), .slice (U := U) .tree ((flushW (Wst.mk wo wg wb)).brought) (.own (.x 0 2))])], [(.x 0 0, LC.mk (U := U) .op (List.set ((flushW (Wst.mk wo wg wb)).out) y_2 (OpOf.mk (OpOf.kind y_3) ((OpOf.n y_3) + n) (OpOf.l y_3) y_4 : Op)) 0)]⟩ : LSt U))) ∧ ((bif zz0 then ((OpOf.kind y_3) == 0) else false) = false → ((((flushW (Wst.mk wo wg wb)).out).length + ([(OpOf.mk 0 0 ([]) y_1 : Op)]).length) * 240 ≤ 140737488355328) ∧ ((0 : Int) ≤ (((flushW (Wst.mk wo wg wb)).out).length : Int) ∧ (((flushW (Wst.mk wo wg wb)).out).length : Int) < ((((flushW (Wst.mk wo wg wb)).out) ++ ([(OpOf.mk 0 0 ([]) y_1 : Op)])).length : Int)) ∧ ((0 : Nat) ≤ (Int.toNat (((flushW (Wst.mk wo wg wb)).out).length : Int))) ∧ (Q .normal (⟨[], [((.x 0), [.mref (.x 0 0), .slice (U := U) .tree ((flushW (Wst.mk wo wg wb)).gone) (.own (.x 0 1)), .slice (U := U) .tree ((flushW (Wst.mk wo wg wb)).brought) (.own (.x 0 2))])], [(.x 0 0, LC.mk (U := U) .op (List.set (((flushW (Wst.mk wo wg wb)).out) ++ ([(OpOf.mk 0 0 ([]) y_1 : Op)])) (Int.toNat (((flushW (Wst.mk wo wg wb)).out).length : Int)) (OpOf.mk 0 n ([]) y_1 : Op)) 0)]⟩ : LSt U))))))) := by kernel_rfl
  exact e_.mpr (by intro y_1 y_2 y_3 y_4; have hh := h y_1 rfl y_2 rfl y_3 rfl y_4 (reEdit_eq _); exact ⟨hh.1, ⟨hh.2.1, ⟨id, id, id, id, id, hh.2.2.1, id, id, id, (by generalize (decide ((0 : Int) ≤ (((((flushW (Wst.mk wo wg wb)).out).length : Int) : Int) - 1))) = b0; revert b0; decide), ⟨fun c_4 => ⟨(hh.2.2.2.1 c_4).1, (hh.2.2.2.1 c_4).2.1, (hh.2.2.2.1 c_4).2.2.1, (hh.2.2.2.1 c_4).2.2.2.1, (hh.2.2.2.1 c_4).2.2.2.2⟩, fun c_4 => ⟨(hh.2.2.2.2 c_4).1, (hh.2.2.2.2 c_4).2.1, (hh.2.2.2.2 c_4).2.2.1, (hh.2.2.2.2 c_4).2.2.2⟩⟩⟩⟩⟩)
def Body126 (wo : List Op) (wg : List Tree) (wb : List Tree) (n : Int)  : Prop := awp cfg (know (know126)) (drawOk cfg (know (know126))) Try.f126.ntmps lv126 (cd Try.f126 []) (entryL (args126.can ((wo, wg, wb, ()), n, ())) (args126.canX ((wo, wg, wb, ()), n, ())) (args126.canL ((wo, wg, wb, ()), n, ()))) (EndsQL cfg Try.f126.ntmps Try.f126.results.toList (res126 ((wo, wg, wb, ()), n, ())) (resX126 ((wo, wg, wb, ()), n, ())) (resL126 ((wo, wg, wb, ()), n, ())))
theorem make126 (c129 : Contract Try.prog cfg 129 spec129) (hb : ∀ (wo : List Op) (wg : List Tree) (wb : List Tree) (n : Int) (_ : Unit), pre126 ((wo, wg, wb, ()), n, ()) → Body126 wo wg wb n) : Contract Try.prog cfg 126 spec126 :=
  contractXL_flat (l := [(129, spec129)]) cfgOk rfl (⟨c129, trivial⟩) lv126 Try.func126 rfl rfl 2 (fun _ => rfl) (by decide) (fun ⟨⟨wo, wg, wb, _⟩, n, _⟩ => hb wo wg wb n ())
noncomputable def know127 : List (FuncId × Fs U) := [(71, spec71)]
def lv127 : Lives U := fun i => match i with
  | 0 => ([(0, []), (6, []), (7, []), (8, [])], [((.x 0), [.wr .op])])
  | 1 => ([(0, []), (6, []), (7, []), (8, []), (9, [])], [((.x 0), [.wr .op])])
  | 2 => ([(0, []), (5, []), (6, []), (7, []), (8, [])], [((.loc 5), []), ((.x 0), [.wr .op])])
  | 3 => ([(0, []), (6, []), (7, []), (8, [])], [((.x 0), [.wr .op])])
  | 4 => ([(0, []), (6, []), (7, []), (8, [])], [((.x 0), [.wr .op])])
  | _ => ([], [])
def head127_0 (wo : List Op) (wg : List Tree) (wb : List Tree) (l : List Tree) (x8 : Int) (mx0_1 : List Tree) : LSt U := (⟨[(0, .ptr (.x 0) 1), (6, .c (.slice (U := U) .tree l .unk)), (7, .c (.int .i64 (l.length : Int))), (8, .c (.int .i64 x8))], [((.x 0), [.mref (.x 0 0), .slice (U := U) .tree mx0_1 (.own (.x 0 1)), .slice (U := U) .tree wb (.own (.x 0 2))])], [(.x 0 0, LC.mk (U := U) .op wo 0)]⟩ : LSt U)
abbrev W127 (wo : List Op) (wg : List Tree) (wb : List Tree) (l : List Tree) (Q : AExit → LSt U → Prop) := awp cfg (know know127) (drawOk cfg (know know127)) Try.f127.ntmps lv127 (cd Try.f127 []) (⟨[(0, .ptr (.x 0) 1), (1, .c (.slice (U := U) .tree l .unk))], [((.x 0), [.mref (.x 0 0), .slice (U := U) .tree wg (.own (.x 0 1)), .slice (U := U) .tree wb (.own (.x 0 2))])], [(.x 0 0, LC.mk (U := U) .op wo 0)]⟩ : LSt U) Q
theorem vc127 (wo : List Op) (wg : List Tree) (wb : List Tree) (l : List Tree) (Q : AExit → LSt U → Prop) (h : LoopWp (awp cfg (know know127) (drawOk cfg (know know127)) Try.f127.ntmps lv127 (cd Try.f127 [1, 0, 0])) (head127_0 wo wg wb l 0 wg) (AExit.inBlock 0 Q)) :
    W127 wo wg wb l Q := by
  have e_ : (W127 wo wg wb l Q) = (type_of% h) := by kernel_rfl
  exact e_.mpr h
abbrev W127_l0 (wo : List Op) (wg : List Tree) (wb : List Tree) (l : List Tree) (x8 : Int) (mx0_1 : List Tree) (N0 : LSt U → Prop) (Q : AExit → LSt U → Prop) := awp cfg (know know127) (drawOk cfg (know know127)) Try.f127.ntmps lv127 (cd Try.f127 [1, 0, 0]) (head127_0 wo wg wb l x8 mx0_1) (AExit.then N0 (AExit.inBlock 0 Q))
theorem vc127_l0 (wo : List Op) (wg : List Tree) (wb : List Tree) (l : List Tree) (x8 : Int) (mx0_1 : List Tree) (N0 : LSt U → Prop) (Q : AExit → LSt U → Prop) (h : ((decide ((x8 : Int) < (l.length : Int))) = true → ((0 : Int) ≤ x8 ∧ x8 < (l.length : Int)) ∧ ((pre71 ((Tree.mk (Tree.kind (List.getD l (Int.toNat x8) Tree.nil)) (Tree.words (List.getD l (Int.toNat x8) Tree.nil)) (Tree.kids (List.getD l (Int.toNat x8) Tree.nil))), ())) ∧ ((mx0_1.length + ([(Tree.mk 0 ([]) ([]))]).length) * 56 ≤ 140737488355328) ∧ ((0 : Int) ≤ (mx0_1.length : Int) ∧ (mx0_1.length : Int) < ((mx0_1 ++ ([(Tree.mk 0 ([]) ([]))])).length : Int)) ∧ (mx0_1.length ≤ (Int.toNat (mx0_1.length : Int))) ∧ ((InR ((x8 : Int) + 1)) ∧ (N0 (head127_0 wo wg wb l ((x8 : Int) + 1) (List.set (mx0_1 ++ ([(Tree.mk 0 ([]) ([]))])) (Int.toNat (mx0_1.length : Int)) (Tree.mk (Tree.kind (normT (Tree.mk (Tree.kind (List.getD l (Int.toNat x8) Tree.nil)) (Tree.words (List.getD l (Int.toNat x8) Tree.nil)) (Tree.kids (List.getD l (Int.toNat x8) Tree.nil))))) (Tree.words (normT (Tree.mk (Tree.kind (List.getD l (Int.toNat x8) Tree.nil)) (Tree.words (List.getD l (Int.toNat x8) Tree.nil)) (Tree.kids (List.getD l (Int.toNat x8) Tree.nil))))) (Tree.kids (normT (Tree.mk (Tree.kind (List.getD l (Int.toNat x8) Tree.nil)) (Tree.words (List.getD l (Int.toNat x8) Tree.nil)) (Tree.kids (List.getD l (Int.toNat x8) Tree.nil)))))))))))) ∧ ((decide ((x8 : Int) < (l.length : Int))) = false → Q .normal (⟨[(0, .ptr (.x 0) 1), (6, .c (.slice (U := U) .tree l .unk)), (7, .c (.int .i64 (l.length : Int))), (8, .c (.int .i64 x8)), (9, .c (.bool (decide ((x8 : Int) < (l.length : Int)))))], [((.x 0), [.mref (.x 0 0), .slice (U := U) .tree mx0_1 (.own (.x 0 1)), .slice (U := U) .tree wb (.own (.x 0 2))])], [(.x 0 0, LC.mk (U := U) .op wo 0)]⟩ : LSt U))) :
    W127_l0 wo wg wb l x8 mx0_1 N0 Q := by
  have e_ : (W127_l0 wo wg wb l x8 mx0_1 N0 Q) = (type_of% h) := by kernel_rfl
  exact e_.mpr ⟨fun c_5 => ⟨(h.1 c_5).1, ⟨(h.1 c_5).2.1, (h.1 c_5).2.2.1, (h.1 c_5).2.2.2.1, (h.1 c_5).2.2.2.2.1, ⟨(h.1 c_5).2.2.2.2.2.1, (h.1 c_5).2.2.2.2.2.2⟩⟩⟩, fun c_5 => (h.2 c_5)⟩
def Body127 (wo : List Op) (wg : List Tree) (wb : List Tree) (l : List Tree)  : Prop := awp cfg (know (know127)) (drawOk cfg (know (know127))) Try.f127.ntmps lv127 (cd Try.f127 []) (entryL (args127.can ((wo, wg, wb, ()), l, ())) (args127.canX ((wo, wg, wb, ()), l, ())) (args127.canL ((wo, wg, wb, ()), l, ()))) (EndsQL cfg Try.f127.ntmps Try.f127.results.toList (res127 ((wo, wg, wb, ()), l, ())) (resX127 ((wo, wg, wb, ()), l, ())) (resL127 ((wo, wg, wb, ()), l, ())))
theorem make127 (c71 : Contract Try.prog cfg 71 spec71) (hb : ∀ (wo : List Op) (wg : List Tree) (wb : List Tree) (l : List Tree) (_ : Unit), pre127 ((wo, wg, wb, ()), l, ()) → Body127 wo wg wb l) : Contract Try.prog cfg 127 spec127 :=
  contractXL_flat (l := [(71, spec71)]) cfgOk rfl (⟨c71, trivial⟩) lv127 Try.func127 rfl rfl 2 (fun _ => rfl) (by decide) (fun ⟨⟨wo, wg, wb, _⟩, l, _⟩ => hb wo wg wb l ())
noncomputable def know1127 : List (FuncId × Fs U) := [(71, spec71)]
def lv1127 : Lives U := fun i => match i with
  | 0 => ([(0, []), (6, []), (7, []), (8, [])], [((.x 0), [.wr .op])])
  | 1 => ([(0, []), (6, []), (7, []), (8, []), (9, [])], [((.x 0), [.wr .op])])
  | 2 => ([(0, []), (5, []), (6, []), (7, []), (8, [])], [((.loc 5), []), ((.x 0), [.wr .op])])
  | 3 => ([(0, []), (6, []), (7, []), (8, [])], [((.x 0), [.wr .op])])
  | 4 => ([(0, []), (6, []), (7, []), (8, [])], [((.x 0), [.wr .op])])
  | _ => ([], [])
def head1127_0 (wo : List Op) (wg : List Tree) (wb : List Tree) (l : List Tree) (x8 : Int) (mx0_2 : List Tree) : LSt U := (⟨[(0, .ptr (.x 0) 2), (6, .c (.slice (U := U) .tree l .unk)), (7, .c (.int .i64 (l.length : Int))), (8, .c (.int .i64 x8))], [((.x 0), [.mref (.x 0 0), .slice (U := U) .tree wg (.own (.x 0 1)), .slice (U := U) .tree mx0_2 (.own (.x 0 2))])], [(.x 0 0, LC.mk (U := U) .op wo 0)]⟩ : LSt U)
abbrev W1127 (wo : List Op) (wg : List Tree) (wb : List Tree) (l : List Tree) (Q : AExit → LSt U → Prop) := awp cfg (know know1127) (drawOk cfg (know know1127)) Try.f127.ntmps lv1127 (cd Try.f127 []) (⟨[(0, .ptr (.x 0) 2), (1, .c (.slice (U := U) .tree l .unk))], [((.x 0), [.mref (.x 0 0), .slice (U := U) .tree wg (.own (.x 0 1)), .slice (U := U) .tree wb (.own (.x 0 2))])], [(.x 0 0, LC.mk (U := U) .op wo 0)]⟩ : LSt U) Q
theorem vc1127 (wo : List Op) (wg : List Tree) (wb : List Tree) (l : List Tree) (Q : AExit → LSt U → Prop) (h : LoopWp (awp cfg (know know1127) (drawOk cfg (know know1127)) Try.f127.ntmps lv1127 (cd Try.f127 [1, 0, 0])) (head1127_0 wo wg wb l 0 wb) (AExit.inBlock 0 Q)) :
    W1127 wo wg wb l Q := by
  have e_ : (W1127 wo wg wb l Q) = (type_of% h) := by kernel_rfl
  exact e_.mpr h
abbrev W1127_l0 (wo : List Op) (wg : List Tree) (wb : List Tree) (l : List Tree) (x8 : Int) (mx0_2 : List Tree) (N0 : LSt U → Prop) (Q : AExit → LSt U → Prop) := awp cfg (know know1127) (drawOk cfg (know know1127)) Try.f127.ntmps lv1127 (cd Try.f127 [1, 0, 0]) (head1127_0 wo wg wb l x8 mx0_2) (AExit.then N0 (AExit.inBlock 0 Q))
theorem vc1127_l0 (wo : List Op) (wg : List Tree) (wb : List Tree) (l : List Tree) (x8 : Int) (mx0_2 : List Tree) (N0 : LSt U → Prop) (Q : AExit → LSt U → Prop) (h : ((decide ((x8 : Int) < (l.length : Int))) = true → ((0 : Int) ≤ x8 ∧ x8 < (l.length : Int)) ∧ ((pre71 ((Tree.mk (Tree.kind (List.getD l (Int.toNat x8) Tree.nil)) (Tree.words (List.getD l (Int.toNat x8) Tree.nil)) (Tree.kids (List.getD l (Int.toNat x8) Tree.nil))), ())) ∧ ((mx0_2.length + ([(Tree.mk 0 ([]) ([]))]).length) * 56 ≤ 140737488355328) ∧ ((0 : Int) ≤ (mx0_2.length : Int) ∧ (mx0_2.length : Int) < ((mx0_2 ++ ([(Tree.mk 0 ([]) ([]))])).length : Int)) ∧ (mx0_2.length ≤ (Int.toNat (mx0_2.length : Int))) ∧ ((InR ((x8 : Int) + 1)) ∧ (N0 (head1127_0 wo wg wb l ((x8 : Int) + 1) (List.set (mx0_2 ++ ([(Tree.mk 0 ([]) ([]))])) (Int.toNat (mx0_2.length : Int)) (Tree.mk (Tree.kind (normT (Tree.mk (Tree.kind (List.getD l (Int.toNat x8) Tree.nil)) (Tree.words (List.getD l (Int.toNat x8) Tree.nil)) (Tree.kids (List.getD l (Int.toNat x8) Tree.nil))))) (Tree.words (normT (Tree.mk (Tree.kind (List.getD l (Int.toNat x8) Tree.nil)) (Tree.words (List.getD l (Int.toNat x8) Tree.nil)) (Tree.kids (List.getD l (Int.toNat x8) Tree.nil))))) (Tree.kids (normT (Tree.mk (Tree.kind (List.getD l (Int.toNat x8) Tree.nil)) (Tree.words (List.getD l (Int.toNat x8) Tree.nil)) (Tree.kids (List.getD l (Int.toNat x8) Tree.nil)))))))))))) ∧ ((decide ((x8 : Int) < (l.length : Int))) = false → Q .normal (⟨[(0, .ptr (.x 0) 2), (6, .c (.slice (U := U) .tree l .unk)), (7, .c (.int .i64 (l.length : Int))), (8, .c (.int .i64 x8)), (9, .c (.bool (decide ((x8 : Int) < (l.length : Int)))))], [((.x 0), [.mref (.x 0 0), .slice (U := U) .tree wg (.own (.x 0 1)), .slice (U := U) .tree mx0_2 (.own (.x 0 2))])], [(.x 0 0, LC.mk (U := U) .op wo 0)]⟩ : LSt U))) :
    W1127_l0 wo wg wb l x8 mx0_2 N0 Q := by
  have e_ : (W1127_l0 wo wg wb l x8 mx0_2 N0 Q) = (type_of% h) := by kernel_rfl
  exact e_.mpr ⟨fun c_6 => ⟨(h.1 c_6).1, ⟨(h.1 c_6).2.1, (h.1 c_6).2.2.1, (h.1 c_6).2.2.2.1, (h.1 c_6).2.2.2.2.1, ⟨(h.1 c_6).2.2.2.2.2.1, (h.1 c_6).2.2.2.2.2.2⟩⟩⟩, fun c_6 => (h.2 c_6)⟩
def Body1127 (wo : List Op) (wg : List Tree) (wb : List Tree) (l : List Tree)  : Prop := awp cfg (know (know1127)) (drawOk cfg (know (know1127))) Try.f127.ntmps lv1127 (cd Try.f127 []) (entryL (args1127.can ((wo, wg, wb, ()), l, ())) (args1127.canX ((wo, wg, wb, ()), l, ())) (args1127.canL ((wo, wg, wb, ()), l, ()))) (EndsQL cfg Try.f127.ntmps Try.f127.results.toList (res1127 ((wo, wg, wb, ()), l, ())) (resX1127 ((wo, wg, wb, ()), l, ())) (resL1127 ((wo, wg, wb, ()), l, ())))
theorem make1127 (c71 : Contract Try.prog cfg 71 spec71) (hb : ∀ (wo : List Op) (wg : List Tree) (wb : List Tree) (l : List Tree) (_ : Unit), pre1127 ((wo, wg, wb, ()), l, ()) → Body1127 wo wg wb l) : Contract Try.prog cfg 127 spec1127 :=
  contractXL_flat (l := [(71, spec71)]) cfgOk rfl (⟨c71, trivial⟩) lv1127 Try.func127 rfl rfl 2 (fun _ => rfl) (by decide) (fun ⟨⟨wo, wg, wb, _⟩, l, _⟩ => hb wo wg wb l ())
noncomputable def know1128 : List (FuncId × Fs U) := []
def lv1128 : Lives U := fun i => match i with
  | 0 => ([(0, []), (3, [])], [((.loc 3), [])])
  | 1 => ([(4, [])], [])
  | _ => ([], [])
abbrev W1128 (list : Int) (e : Edit) (Q : AExit → LSt U → Prop) := awp cfg (know know1128) (drawOk cfg (know know1128)) Try.f128.ntmps lv1128 (cd Try.f128 []) (⟨[(0, .c (.int .i64 list)), (1, .agg [.int .i64 (Edit.kind e), .int .i64 (Tree.kind (Edit.old e)), .slice (U := U) .u64 (Tree.words (Edit.old e)) .unk, .slice (U := U) .tree (Tree.kids (Edit.old e)) .unk, .int .i64 (Tree.kind (Edit.new e)), .slice (U := U) .u64 (Tree.words (Edit.new e)) .unk, .slice (U := U) .tree (Tree.kids (Edit.new e)) .unk, .slice (U := U) .wedit (Edit.words e) .unk, .slice (U := U) .kid (Edit.kids e) .unk, .int .i64 (Edit.list e), .slice (U := U) .op (Edit.ops e) .unk])], [], []⟩ : LSt U) Q
theorem vc1128 (list : Int) (e : Edit) (Q : AExit → LSt U → Prop) (h : (((!(((Edit.kind e) : Int) == 0)) && (bif ((list : Int) == 9) then (((Edit.kind e) : Int) == 2) else false)) = true → InR ((((Edit.words e).length : Int) : Int) + ((Edit.kids e).length : Int))) ∧ (Q .ret (⟨[(4, .c (.bool (bif (((Edit.kind e) : Int) == 0) then true else (bif (bif ((list : Int) == 9) then (((Edit.kind e) : Int) == 2) else false) then ((((((Edit.words e).length : Int) : Int) + ((Edit.kids e).length : Int)) : Int) == 0) else false))))], [], []⟩ : LSt U))) :
    W1128 list e Q := by
  have e_ : (W1128 list e Q) = (let zz1 := (!((Edit.kind e) == 0)); let zz0 := (bif ((list : Int) == 9) then ((Edit.kind e) == 2) else false); ((TrKG22c (zz1 = true)) ∧ (TrKG22c (zz1 = true)) ∧ (TrKG22c ((zz1 && ((list : Int) == 9)) = true)) ∧ (TrKG22c ((zz1 && ((list : Int) == 9)) = true)) ∧ (zz1 = true → (True → zz1 = true)) ∧ (zz1 = true → (((list : Int) == 9) = true → (zz1 && ((list : Int) == 9)) = true)) ∧ (TrKG22c (zz1 = true)) ∧ (TrKG22c ((zz1 && zz0) = true)) ∧ (TrKG22c ((zz1 && zz0) = true)) ∧ (TrKG22c ((zz1 && zz0) = true)) ∧ (TrKG22c ((zz1 && zz0) = true)) ∧ (TrKG22c ((zz1 && zz0) = true)) ∧ (TrKG22c ((zz1 && zz0) = true)) ∧ ((zz1 && zz0) = true → InR (((Edit.words e).length : Int) + ((Edit.kids e).length : Int))) ∧ (TrKG22c ((zz1 && zz0) = true)) ∧ (zz1 = true → (True → zz1 = true)) ∧ (zz1 = true → (zz0 = true → (zz1 && zz0) = true)) ∧ ((((Edit.kind e) == 0) = false → zz1 = true)) ∧ (Q .ret (⟨[(4, .c (.bool (bif ((Edit.kind e) == 0) then true else (bif zz0 then (((((Edit.words e).length : Int) + ((Edit.kids e).length : Int)) : Int) == 0) else false))))], [], []⟩ : LSt U)))) := by kernel_rfl
  exact e_.mpr ⟨id, id, id, id, (by generalize (((Edit.kind e) : Int) == 0) = b0; revert b0; decide), (by generalize (((Edit.kind e) : Int) == 0) = b0; generalize ((list : Int) == 9) = b1; revert b0 b1; decide), id, id, id, id, id, id, id, h.1, id, (by generalize (((Edit.kind e) : Int) == 0) = b0; revert b0; decide), (by generalize (((Edit.kind e) : Int) == 2) = b0; generalize (((Edit.kind e) : Int) == 0) = b1; generalize ((list : Int) == 9) = b2; revert b0 b1 b2; decide), (by generalize (((Edit.kind e) : Int) == 0) = b0; revert b0; decide), h.2⟩
def Body1128 (list : Int) (e : Edit)  : Prop := awp cfg (know (know1128)) (drawOk cfg (know (know1128))) Try.f128.ntmps lv1128 (cd Try.f128 []) (entry (args1128.can (list, e, ())) []) (EndsQ cfg Try.f128.ntmps Try.f128.results.toList (res1128 (list, e, ())) [])
theorem make1128 (hb : ∀ (list : Int) (e : Edit) (_ : Unit), pre1128 (list, e, ()) → Body1128 list e) : Contract Try.prog cfg 128 spec1128 :=
  contract_flat (l := []) cfgOk rfl (trivial) lv1128 Try.func128 rfl rfl 2 (fun _ => rfl) (by decide) (fun ⟨list, e, _⟩ => hb list e ())
noncomputable def know1111 : List (FuncId × Fs U) := []
def lv1111 : Lives U := fun i => match i with
  | 0 => ([(0, []), (3, [])], [((.loc 3), [])])
  | 1 => ([(4, [])], [])
  | _ => ([], [])
abbrev W1111 (list : Int) (e : Edit) (Q : AExit → LSt U → Prop) := awp cfg (know know1111) (drawOk cfg (know know1111)) Try.f111.ntmps lv1111 (cd Try.f111 []) (⟨[(0, .c (.int .i64 list)), (1, .agg [.int .i64 (Edit.kind e), .int .i64 (Tree.kind (Edit.old e)), .slice (U := U) .u64 (Tree.words (Edit.old e)) .unk, .slice (U := U) .tree (Tree.kids (Edit.old e)) .unk, .int .i64 (Tree.kind (Edit.new e)), .slice (U := U) .u64 (Tree.words (Edit.new e)) .unk, .slice (U := U) .tree (Tree.kids (Edit.new e)) .unk, .slice (U := U) .wedit (Edit.words e) .unk, .slice (U := U) .kid (Edit.kids e) .unk, .int .i64 (Edit.list e), .slice (U := U) .op (Edit.ops e) .unk])], [], []⟩ : LSt U) Q
theorem vc1111 (list : Int) (e : Edit) (Q : AExit → LSt U → Prop) (h : Q .ret (⟨[(4, .c (.bool (bif (((Edit.kind e) : Int) == 0) then true else (bif (bif (bif (((Edit.kind e) : Int) == 2) then ((list : Int) == 9) else false) then ((((Edit.words e).length : Int) : Int) == 0) else false) then ((((Edit.kids e).length : Int) : Int) == 0) else false))))], [], []⟩ : LSt U)) :
    W1111 list e Q := by
  have e_ : (W1111 list e Q) = (let zz2 := (bif ((Edit.kind e) == 2) then ((list : Int) == 9) else false); let zz1 := (!((Edit.kind e) == 0)); let zz0 := (bif zz2 then (((Edit.words e).length : Int) == 0) else false); ((TrKG22c (zz1 = true)) ∧ (TrKG22c (zz1 = true)) ∧ (TrKG22c (zz1 = true)) ∧ (TrKG22c ((zz1 && ((Edit.kind e) == 2)) = true)) ∧ (zz1 = true → (True → zz1 = true)) ∧ (zz1 = true → (((Edit.kind e) == 2) = true → (zz1 && ((Edit.kind e) == 2)) = true)) ∧ (TrKG22c (zz1 = true)) ∧ (TrKG22c ((zz1 && zz2) = true)) ∧ (TrKG22c ((zz1 && zz2) = true)) ∧ (TrKG22c ((zz1 && zz2) = true)) ∧ (zz1 = true → (True → zz1 = true)) ∧ (zz1 = true → (zz2 = true → (zz1 && zz2) = true)) ∧ (TrKG22c (zz1 = true)) ∧ (TrKG22c ((zz1 && zz0) = true)) ∧ (TrKG22c ((zz1 && zz0) = true)) ∧ (TrKG22c ((zz1 && zz0) = true)) ∧ (zz1 = true → (True → zz1 = true)) ∧ (zz1 = true → (zz0 = true → (zz1 && zz0) = true)) ∧ ((((Edit.kind e) == 0) = false → zz1 = true)) ∧ (Q .ret (⟨[(4, .c (.bool (bif ((Edit.kind e) == 0) then true else (bif zz0 then (((Edit.kids e).length : Int) == 0) else false))))], [], []⟩ : LSt U)))) := by kernel_rfl
  exact e_.mpr ⟨id, id, id, id, (by generalize (((Edit.kind e) : Int) == 0) = b0; revert b0; decide), (by generalize (((Edit.kind e) : Int) == 2) = b0; generalize (((Edit.kind e) : Int) == 0) = b1; revert b0 b1; decide), id, id, id, id, (by generalize (((Edit.kind e) : Int) == 0) = b0; revert b0; decide), (by generalize (((Edit.kind e) : Int) == 2) = b0; generalize (((Edit.kind e) : Int) == 0) = b1; generalize ((list : Int) == 9) = b2; revert b0 b1 b2; decide), id, id, id, id, (by generalize (((Edit.kind e) : Int) == 0) = b0; revert b0; decide), (by generalize ((((Edit.words e).length : Int) : Int) == 0) = b0; generalize (((Edit.kind e) : Int) == 2) = b1; generalize (((Edit.kind e) : Int) == 0) = b2; generalize ((list : Int) == 9) = b3; revert b0 b1 b2 b3; decide), (by generalize (((Edit.kind e) : Int) == 0) = b0; revert b0; decide), h⟩
def Body1111 (list : Int) (e : Edit)  : Prop := awp cfg (know (know1111)) (drawOk cfg (know (know1111))) Try.f111.ntmps lv1111 (cd Try.f111 []) (entry (args1111.can (list, e, ())) []) (EndsQ cfg Try.f111.ntmps Try.f111.results.toList (res1111 (list, e, ())) [])
theorem make1111 (hb : ∀ (list : Int) (e : Edit) (_ : Unit), pre1111 (list, e, ()) → Body1111 list e) : Contract Try.prog cfg 111 spec1111 :=
  contract_flat (l := []) cfgOk rfl (trivial) lv1111 Try.func111 rfl rfl 2 (fun _ => rfl) (by decide) (fun ⟨list, e, _⟩ => hb list e ())
end Go.AM.Ytpjenobkibfpcaa

namespace Go.AM.Ytpjenobkibfpcaa
open Go.AM Go.Proofs
theorem set_last {α : Type} (l : List α) (z x : α) : (l ++ [z]).set (Int.toNat (l.length : Int)) x = l ++ [x] := by
  rw [Int.toNat_natCast, List.set_append_right _ _ (Nat.le_refl _)]
  simp
theorem keepO_at : ∀ (F : List Op) (n : Int), keepO F n = if F.length ≠ 0 ∧ (F.getD (F.length - 1) Op.nil).kind = 0 then F.set (F.length - 1) ⟨(F.getD (F.length - 1) Op.nil).kind, (F.getD (F.length - 1) Op.nil).n + n, (F.getD (F.length - 1) Op.nil).l, (F.getD (F.length - 1) Op.nil).e⟩ else F ++ [⟨0, n, [], Edit.nil⟩]
  | [], n => by simp [keepO]
  | [o], n => by simp [keepO]
  | o :: p :: r, n => by
    have ih := keepO_at (p :: r) n
    have e : (o :: p :: r).length - 1 = ((p :: r).length - 1) + 1 := by simp
    rw [keepO, ih, e]
    simp only [List.getD_cons_succ, List.set_cons_succ]
    by_cases h : (p :: r).length ≠ 0 ∧ ((p :: r).getD ((p :: r).length - 1) Op.nil).kind = 0
    · rw [if_pos h, if_pos ⟨by simp, h.2⟩]
    · have h' : ¬ ((p :: r).getD ((p :: r).length - 1) Op.nil).kind = 0 := fun e => h ⟨by simp, e⟩
      rw [if_neg h, if_neg (fun e => h' e.2)]
      rfl
theorem flush_len (s : Wst) : (flushW s).out.length ≤ s.out.length + 2 := by
  simp only [flushW, flushO]
  split <;> split <;> simp
theorem flush_mem (s : Wst) : ∀ o ∈ (flushW s).out, o ∈ s.out ∨ o.n = 0 := by
  intro o ho
  simp only [flushW, flushO, List.mem_append] at ho
  rcases ho with h | h | h
  · exact .inl h
  · split at h
    · cases h
    · simp only [List.mem_singleton] at h; subst h; exact .inr rfl
  · split at h
    · cases h
    · simp only [List.mem_singleton] at h; subst h; exact .inr rfl
theorem c129 : Contract Try.prog cfg 129 spec129 := by
  refine make129 ?_
  intro wo wg wb _ hp
  simp only [pre129] at hp
  refine vc129 wo wg wb _ ?_
  rintro y1 hy1 y2 hy2
  have hy : y1 = Edit.nil := hy1
  subst hy
  rw [set_last] at hy2
  subst hy2
  (simp only [vcS])
  refine ⟨fun h1 => ⟨by simp; omega, by simp; omega, by omega, fun h2 => ⟨by simp; omega, by simp; omega, by omega, ?_⟩, fun h2 => ?_⟩, fun h1 => ⟨fun h2 => ⟨by simp; omega, by simp; omega, by omega, ?_⟩, fun h2 => ?_⟩⟩
  · rw [set_last]
    have e : flushW ⟨wo, wg, wb⟩ = ⟨wo ++ [⟨1, 0, wg, Edit.nil⟩] ++ [⟨2, 0, wb, Edit.nil⟩], [], []⟩ := by
      simp only [flushW, flushO]; rw [if_neg (by omega), if_neg (by omega)]; simp
    simp only [res129, resX129, resL129, e]
    (repeat' (first | exact trivial | exact rfl | apply And.intro))
  · have e : flushW ⟨wo, wg, wb⟩ = ⟨wo ++ [⟨1, 0, wg, Edit.nil⟩], [], []⟩ := by
      simp only [flushW, flushO]; rw [if_neg (by omega), if_pos (by omega)]; simp
    simp only [res129, resX129, resL129, e]
    (repeat' (first | exact trivial | exact rfl | apply And.intro))
  · rw [set_last]
    have e : flushW ⟨wo, wg, wb⟩ = ⟨wo ++ [⟨2, 0, wb, Edit.nil⟩], [], []⟩ := by
      simp only [flushW, flushO]; rw [if_pos (by omega), if_neg (by omega)]; simp
    simp only [res129, resX129, resL129, e]
    (repeat' (first | exact trivial | exact rfl | apply And.intro))
  · have e : flushW ⟨wo, wg, wb⟩ = ⟨wo, [], []⟩ := by
      simp only [flushW, flushO]; rw [if_pos (by omega), if_pos (by omega)]; simp
    simp only [res129, resX129, resL129, e]
    (repeat' (first | exact trivial | exact rfl | apply And.intro))
theorem c126 : Contract Try.prog cfg 126 spec126 := by
  refine make126 c129 ?_
  intro wo wg wb n _ hp
  simp only [pre126] at hp
  obtain ⟨p1, p2, p3, p4, p5, p6⟩ := hp
  have hfl := flush_len ⟨wo, wg, wb⟩
  have hfm := flush_mem ⟨wo, wg, wb⟩
  have hg : (flushW ⟨wo, wg, wb⟩).gone = [] := rfl
  have hb : (flushW ⟨wo, wg, wb⟩).brought = [] := rfl
  have hk := keepO_at (flushW ⟨wo, wg, wb⟩).out n
  have hkw : keepW ⟨wo, wg, wb⟩ n = ⟨keepO (flushW ⟨wo, wg, wb⟩).out n, [], []⟩ := rfl
  refine vc126 wo wg wb n _ ?_
  simp only [hg, hb, res126, resX126, resL126, hkw]
  generalize (flushW ⟨wo, wg, wb⟩).out = F at *
  simp only at hfl hfm
  rintro y1 hy1 y2 hy2 y3 hy3 y4 hy4
  have hy : y1 = Edit.nil := hy1
  subst hy
  have e2 : y2 = F.length - 1 := by omega
  subst e2
  rw [← hy3, ← hy4] at hk
  (simp only [vcS])
  refine ⟨by simp only [pre129]; exact ⟨p1, p2, p3⟩, by unfold InR; omega, fun h => ⟨h, by omega⟩, fun h => ?_, fun h => ?_⟩
  · have hy3n : 0 ≤ y3.n ∧ y3.n ≤ 100000000000000000 := by
      have hm : y3 ∈ F := by rw [hy3]; exact mem_getD (by omega) _
      rcases hfm y3 hm with h1 | h1
      · exact p4 y3 h1
      · omega
    rw [if_pos ⟨by omega, h.2⟩] at hk
    rw [hk]
    refine ⟨by omega, by unfold InR; omega, by omega, by omega, ?_⟩
    (repeat' (first | exact trivial | exact rfl | apply And.intro))
  · rw [if_neg (by omega)] at hk
    rw [hk, set_last]
    refine ⟨by simp; omega, by simp; omega, by omega, ?_⟩
    (repeat' (first | exact trivial | exact rfl | apply And.intro))
theorem c127 : Contract Try.prog cfg 127 spec127 := by
  refine make127 c71 ?_
  intro wo wg wb l _ hp
  simp only [pre127] at hp
  obtain ⟨p1, p2, p3, p4⟩ := hp
  have hl := massK_len l
  refine vc127 _ _ _ _ _ ?_
  refine loop_rule (ι := Int × List Tree) (fun s => head127_0 wo wg wb l s.1 s.2) (fun s => 0 ≤ s.1 ∧ s.1 ≤ l.length ∧ s.2.length = wg.length + s.1 ∧ s.2 ++ normsT (l.drop s.1.toNat) = wg ++ normsT l) (fun s => ((l.length : Int) - s.1).toNat) (0, wg) rfl ⟨by simp, by simp, by simp, by simp⟩ ?_
  rintro ⟨i, out⟩ ⟨h1, h2, h3, h4⟩
  dsimp only at h1 h2 h3 h4
  refine vc127_l0 _ _ _ _ _ _ _ _ ?_
  (simp only [vcS])
  (simp only [Tree.eta, Edit.eta, Tree.kind_mk, Tree.words_mk, Tree.kids_mk])
  refine ⟨fun hi => ?_, fun hi => ?_⟩
  · have hm := massK_mem (mem_getD (l := l) (i := i.toNat) (by omega) Tree.nil)
    rw [dropI h1 hi Tree.nil] at h4
    simp only [normsT, List.map_cons] at h4
    rw [set_last]
    refine ⟨⟨h1, hi⟩, by simp only [pre71]; omega, by simp; omega, by simp; omega, by omega, by unfold InR; omega, (i + 1, out ++ [normT (l.getD i.toNat Tree.nil)]), rfl, ⟨by dsimp only; omega, by dsimp only; omega, by simp; omega, ?_⟩, by dsimp only; omega⟩
    simp only [List.append_assoc, List.cons_append, List.nil_append]
    exact h4
  · rw [List.drop_of_length_le (by omega)] at h4
    simp only [normsT, List.map_nil, List.append_nil] at h4
    rw [h4]
    (repeat' (first | exact trivial | exact rfl | apply And.intro))
theorem c1127 : Contract Try.prog cfg 127 spec1127 := by
  refine make1127 c71 ?_
  intro wo wg wb l _ hp
  simp only [pre1127] at hp
  obtain ⟨p1, p2, p3, p4⟩ := hp
  have hl := massK_len l
  refine vc1127 _ _ _ _ _ ?_
  refine loop_rule (ι := Int × List Tree) (fun s => head1127_0 wo wg wb l s.1 s.2) (fun s => 0 ≤ s.1 ∧ s.1 ≤ l.length ∧ s.2.length = wb.length + s.1 ∧ s.2 ++ normsT (l.drop s.1.toNat) = wb ++ normsT l) (fun s => ((l.length : Int) - s.1).toNat) (0, wb) rfl ⟨by simp, by simp, by simp, by simp⟩ ?_
  rintro ⟨i, out⟩ ⟨h1, h2, h3, h4⟩
  dsimp only at h1 h2 h3 h4
  refine vc1127_l0 _ _ _ _ _ _ _ _ ?_
  (simp only [vcS])
  (simp only [Tree.eta, Edit.eta, Tree.kind_mk, Tree.words_mk, Tree.kids_mk])
  refine ⟨fun hi => ?_, fun hi => ?_⟩
  · have hm := massK_mem (mem_getD (l := l) (i := i.toNat) (by omega) Tree.nil)
    rw [dropI h1 hi Tree.nil] at h4
    simp only [normsT, List.map_cons] at h4
    rw [set_last]
    refine ⟨⟨h1, hi⟩, by simp only [pre71]; omega, by simp; omega, by simp; omega, by omega, by unfold InR; omega, (i + 1, out ++ [normT (l.getD i.toNat Tree.nil)]), rfl, ⟨by dsimp only; omega, by dsimp only; omega, by simp; omega, ?_⟩, by dsimp only; omega⟩
    simp only [List.append_assoc, List.cons_append, List.nil_append]
    exact h4
  · rw [List.drop_of_length_le (by omega)] at h4
    simp only [normsT, List.map_nil, List.append_nil] at h4
    rw [h4]
    (repeat' (first | exact trivial | exact rfl | apply And.intro))
theorem c1128 : Contract Try.prog cfg 128 spec1128 := by
  refine make1128 ?_
  intro list e _ hp
  simp only [pre1128] at hp
  refine vc1128 _ _ _ ?_
  refine ⟨fun _ => by unfold InR; dsimp only; omega, ends_bool rfl ?_⟩
  rw [Bool.eq_iff_iff]
  simp only [idleE]
  (simp only [vcS])
  omega
theorem c1111 : Contract Try.prog cfg 111 spec1111 := by
  refine make1111 ?_
  intro list e _ hp
  refine vc1111 _ _ _ ?_
  refine ends_bool rfl ?_
  rw [Bool.eq_iff_iff]
  simp only [idleE]
  (simp only [vcS])
  omega
noncomputable def spec2127 : Fs U := fsOr spec127 spec1127
theorem c2127 : Contract Try.prog cfg 127 spec2127 := contract_or c127 c1127
end Go.AM.Ytpjenobkibfpcaa
