import Derived.Test.YtpjenobkibfpcaaGreatZKB22b
import Derived.Test.YtpjenobkibfpcaaGreatZCL25m
import Derived.Test.YtpjenobkibfpcaaGreatZKC34
set_option linter.unusedSimpArgs false
set_option linter.unusedVariables false
namespace Go.AM.YtpjenobkibfpcaaGreat
open Go.AM Go.Proofs
abbrev TrZKG20c (p : Prop) : Prop := p → p
noncomputable section
def args215 : ArgL (Int × Unit) := (.cons (aInt .u8) .nil)
def pre215 (a : Int × Unit) : Prop := 0 ≤ a.1 ∧ a.1 < 256
noncomputable def res215 (a : Int × Unit) : V U := .c (.int .u64 ((widN (a.1).toNat 8 : Nat) : Int))
noncomputable def spec215 : Fs U := fs args215 (fun a => [pre215 a]) res215
def args176 : ArgL (Int × Int × Int × Unit) := (.cons (aInt .u64) (.cons (aInt .u64) (.cons (aInt .u8) .nil)))
def pre176 (a : Int × Int × Int × Unit) : Prop := (0 ≤ a.1 ∧ a.1 < 18446744073709551616) ∧ (0 ≤ a.2.1 ∧ a.2.1 < 18446744073709551616) ∧ (0 ≤ a.2.2.1 ∧ a.2.2.1 < 256)
noncomputable def res176 (a : Int × Int × Int × Unit) : V U := .c (.int .u64 (mix a.1 a.2.1 a.2.2.1))
noncomputable def spec176 : Fs U := fs args176 (fun a => [pre176 a]) res176
def args122 : ArgL (Tree × Unit) := (.cons (aEl .tree) .nil)
def pre122 (a : Tree × Unit) : Prop := mass a.1 ≤ 20000000000 ∧ rng a.1
noncomputable def res122 (a : Tree × Unit) : V U := .c (.bool (decide (Tree.kind a.1 ≠ 10) && rightT a.1 64))
noncomputable def spec122 : Fs U := fs args122 (fun a => [pre122 a]) res122
def args218 : ArgL (Int × Tree × Unit) := (.cons (aInt .i64) (.cons (aEl .tree) .nil))
def pre218 (a : Int × Tree × Unit) : Prop := mass a.2.1 ≤ 18000000000 ∧ rng a.2.1 ∧ isI a.1
noncomputable def res218 (a : Int × Tree × Unit) : V U := .c (.bool (rightT (Tree.mk a.1 [] [a.2.1]) 64))
noncomputable def spec218 : Fs U := fs args218 (fun a => [pre218 a]) res218
def args219 : ArgL (Int × Edit × Unit) := (.cons (aInt .i64) (.cons (aEl .edit) .nil))
def pre219 (a : Int × Edit × Unit) : Prop := True
noncomputable def res219 (a : Int × Edit × Unit) : V U := .c (.bool (withinB a.1 a.2.1))
noncomputable def spec219 : Fs U := fs args219 (fun a => [pre219 a]) res219
def args123 : ArgL (List WEdit × Unit) := (.cons (aSl .wedit) .nil)
def pre123 (a : List WEdit × Unit) : Prop := (a.1).length ≤ 20000000000 ∧ ∀ x ∈ a.1, rngW x
noncomputable def res123 (a : List WEdit × Unit) : V U := .c (.bool (wordsOk (-1) a.1))
noncomputable def spec123 : Fs U := fs args123 (fun a => [pre123 a]) res123
noncomputable def know215 : List (FuncId × Fs U) := []
def lv215 : Lives U := fun i => match i with
  | 0 => ([(0, [])], [])
  | 1 => ([(0, []), (3, [])], [])
  | 2 => ([(0, []), (3, []), (5, [])], [])
  | 3 => ([(0, []), (3, []), (5, []), (6, [])], [])
  | 4 => ([(0, []), (3, []), (4, []), (5, [])], [])
  | 5 => ([(0, []), (3, []), (4, []), (5, []), (12, [])], [])
  | 6 => ([(0, []), (3, []), (5, [])], [])
  | 7 => ([(0, []), (3, []), (5, [])], [])
  | 8 => ([(2, [])], [])
  | _ => ([], [])
def head215_0 (m : Int) (x3 : Int) (x5 : Int) : LSt U := (⟨[(0, .c (.int .u8 m)), (3, .c (.int .u64 x3)), (5, .c (.int .i64 x5))], [], []⟩ : LSt U)
abbrev W215 (m : Int) (Q : AExit → LSt U → Prop) := awp cfg (know know215) (drawOk cfg (know know215)) Tryz.f215.ntmps lv215 (cd Tryz.f215 []) (⟨[(0, .c (.int .u8 m))], [], []⟩ : LSt U) Q
abbrev a215_ZKG20c := awp cfg (know know215) (drawOk cfg (know know215)) Tryz.f215.ntmps lv215
abbrev s215_ZKG20c := seqK cfg (know know215) (drawOk cfg (know know215)) Tryz.f215.ntmps lv215
theorem vc215 (m : Int) (Q : AExit → LSt U → Prop) (h : LoopWp (awp cfg (know know215) (drawOk cfg (know know215)) Tryz.f215.ntmps lv215 (cd Tryz.f215 [1, 1, 0, 1, 0, 0])) (head215_0 m 0 0) (AExit.inBlock 0 (seqK cfg (know know215) (drawOk cfg (know know215)) Tryz.f215.ntmps lv215 (cd Tryz.f215 [1, 1, 1]) Q))) :
    W215 m Q := by
  have e_ : (W215 m Q) = ((((LoopWp (a215_ZKG20c (cd Tryz.f215 [1, 1, 0, 1, 0, 0])) (head215_0 m 0 0) (AExit.inBlock 0 (s215_ZKG20c (cd Tryz.f215 [1, 1, 1]) Q)))))) := by kernel_rfl
  exact e_.mpr h
abbrev W215_l0 (m : Int) (x3 : Int) (x5 : Int) (N0 : LSt U → Prop) (Q : AExit → LSt U → Prop) := awp cfg (know know215) (drawOk cfg (know know215)) Tryz.f215.ntmps lv215 (cd Tryz.f215 [1, 1, 0, 1, 0, 0]) (head215_0 m x3 x5) (AExit.then N0 (AExit.inBlock 0 (seqK cfg (know know215) (drawOk cfg (know know215)) Tryz.f215.ntmps lv215 (cd Tryz.f215 [1, 1, 1]) Q)))
theorem vc215_l0 (m : Int) (x3 : Int) (x5 : Int) (N0 : LSt U → Prop) (Q : AExit → LSt U → Prop) (h : ((decide ((x5 : Int) < 8)) = true → ((0 : Int) ≤ x5) ∧ (((((IntKind.wrap .u8 (BitVec.ofInt (IntKind.bits .u8) (Int.fdiv m (2 ^ (min (Int.toNat x5) (IntKind.bits .u8)))) &&& BitVec.ofInt (IntKind.bits .u8) 1).toNat) : Int) == 1) = true → (InR ((8 : Int) * x5)) ∧ ((0 : Int) ≤ ((8 : Int) * x5)) ∧ ((InR ((x5 : Int) + 1)) ∧ (N0 (head215_0 m (IntKind.wrap .u64 (BitVec.ofInt (IntKind.bits .u64) x3 ||| BitVec.ofInt (IntKind.bits .u64) (IntKind.wrap .u64 ((255 : Int) * 2 ^ (min (Int.toNat ((8 : Int) * x5)) (IntKind.bits .u64))))).toNat) ((x5 : Int) + 1))))) ∧ ((((IntKind.wrap .u8 (BitVec.ofInt (IntKind.bits .u8) (Int.fdiv m (2 ^ (min (Int.toNat x5) (IntKind.bits .u8)))) &&& BitVec.ofInt (IntKind.bits .u8) 1).toNat) : Int) == 1) = false → (InR ((x5 : Int) + 1)) ∧ (N0 (head215_0 m x3 ((x5 : Int) + 1)))))) ∧ ((decide ((x5 : Int) < 8)) = false → Q .ret (⟨[(2, .c (.int .u64 x3))], [], []⟩ : LSt U))) :
    W215_l0 m x3 x5 N0 Q := by
  have e_ : (W215_l0 m x3 x5 N0 Q) = (let zz0 := (((IntKind.wrap .u8 (BitVec.ofInt (IntKind.bits .u8) (Int.fdiv m (2 ^ (min (Int.toNat x5) (IntKind.bits .u8)))) &&& BitVec.ofInt (IntKind.bits .u8) 1).toNat) : Int) == 1); (((decide ((x5 : Int) < 8)) = true → (((0 : Int) ≤ x5) ∧ ((zz0 = true → (InR ((8 : Int) * x5)) ∧ ((0 : Int) ≤ ((8 : Int) * x5)) ∧ ((InR ((x5 : Int) + 1)) ∧ (N0 (head215_0 m (IntKind.wrap .u64 (BitVec.ofInt (IntKind.bits .u64) x3 ||| BitVec.ofInt (IntKind.bits .u64) (IntKind.wrap .u64 ((255 : Int) * 2 ^ (min (Int.toNat ((8 : Int) * x5)) (IntKind.bits .u64))))).toNat) ((x5 : Int) + 1))))) ∧ (zz0 = false → (InR ((x5 : Int) + 1)) ∧ (N0 (head215_0 m x3 ((x5 : Int) + 1))))))) ∧ ((decide ((x5 : Int) < 8)) = false → (Q .ret (⟨[(2, .c (.int .u64 x3))], [], []⟩ : LSt U))))) := by kernel_rfl
  exact e_.mpr ⟨fun c_1 => ⟨(h.1 c_1).1, ⟨fun c_2 => ⟨((h.1 c_1).2.1 c_2).1, ((h.1 c_1).2.1 c_2).2.1, ⟨((h.1 c_1).2.1 c_2).2.2.1, ((h.1 c_1).2.1 c_2).2.2.2⟩⟩, fun c_2 => ⟨((h.1 c_1).2.2 c_2).1, ((h.1 c_1).2.2 c_2).2⟩⟩⟩, fun c_1 => (h.2 c_1)⟩
def Body215 (m : Int)  : Prop := awp cfg (know (know215)) (drawOk cfg (know (know215))) Tryz.f215.ntmps lv215 (cd Tryz.f215 []) (entry (args215.can (m, ())) []) (EndsQ cfg Tryz.f215.ntmps Tryz.f215.results.toList (res215 (m, ())) [])
theorem make215 (hb : ∀ (m : Int) (_ : Unit), pre215 (m, ()) → Body215 m) : Contract Tryz.prog cfg 215 spec215 :=
  contract_flat (l := []) cfgOk rfl (trivial) lv215 Tryz.func215 rfl rfl 1 (fun _ => rfl) (by decide) (fun ⟨m, _⟩ => hb m ())
noncomputable def know176 : List (FuncId × Fs U) := [(215, spec215)]
def lv176 : Lives U := fun i => match i with
  | 0 => ([(0, []), (1, []), (2, [])], [])
  | 1 => ([(6, [])], [])
  | _ => ([], [])
abbrev W176 (a : Int) (b : Int) (m : Int) (Q : AExit → LSt U → Prop) := awp cfg (know know176) (drawOk cfg (know know176)) Tryz.f176.ntmps lv176 (cd Tryz.f176 []) (⟨[(0, .c (.int .u64 a)), (1, .c (.int .u64 b)), (2, .c (.int .u8 m))], [], []⟩ : LSt U) Q
theorem vc176 (a : Int) (b : Int) (m : Int) (Q : AExit → LSt U → Prop) (h : (pre215 (m, ())) ∧ (pre215 (m, ())) ∧ (Q .ret (⟨[(6, .c (.int .u64 (IntKind.wrap .u64 (BitVec.ofInt (IntKind.bits .u64) (IntKind.wrap .u64 (BitVec.ofInt (IntKind.bits .u64) a &&& ~~~(BitVec.ofInt (IntKind.bits .u64) ((widN (m).toNat 8 : Nat) : Int))).toNat) ||| BitVec.ofInt (IntKind.bits .u64) (IntKind.wrap .u64 (BitVec.ofInt (IntKind.bits .u64) b &&& BitVec.ofInt (IntKind.bits .u64) ((widN (m).toNat 8 : Nat) : Int)).toNat)).toNat)))], [], []⟩ : LSt U))) :
    W176 a b m Q := by
  have e_ : (W176 a b m Q) = (type_of% h) := by kernel_rfl
  exact e_.mpr ⟨h.1, h.2.1, h.2.2⟩
def Body176 (a : Int) (b : Int) (m : Int)  : Prop := awp cfg (know (know176)) (drawOk cfg (know (know176))) Tryz.f176.ntmps lv176 (cd Tryz.f176 []) (entry (args176.can (a, b, m, ())) []) (EndsQ cfg Tryz.f176.ntmps Tryz.f176.results.toList (res176 (a, b, m, ())) [])
theorem make176 (c215 : Contract Tryz.prog cfg 215 spec215) (hb : ∀ (a : Int) (b : Int) (m : Int) (_ : Unit), pre176 (a, b, m, ()) → Body176 a b m) : Contract Tryz.prog cfg 176 spec176 :=
  contract_flat (l := [(215, spec215)]) cfgOk rfl (⟨c215, trivial⟩) lv176 Tryz.func176 rfl rfl 3 (fun _ => rfl) (by decide) (fun ⟨a, b, m, _⟩ => hb a b m ())
noncomputable def know122 : List (FuncId × Fs U) := [(82, spec82)]
def lv122 : Lives U := fun i => match i with
  | 0 => ([(1, [])], [((.loc 1), [])])
  | 1 => ([(2, [])], [])
  | _ => ([], [])
abbrev W122 (t : Tree) (Q : AExit → LSt U → Prop) := awp cfg (know know122) (drawOk cfg (know know122)) Tryz.f122.ntmps lv122 (cd Tryz.f122 []) (⟨[(0, .agg [.int .i64 (Tree.kind t), .slice (U := U) .u64 (Tree.words t) .unk, .slice (U := U) .tree (Tree.kids t) .unk])], [], []⟩ : LSt U) Q
theorem vc122 (t : Tree) (Q : AExit → LSt U → Prop) (h : ((((Tree.kind t) : Int) != 10) = true → pre82 ((Tree.mk (Tree.kind t) (Tree.words t) (Tree.kids t)), ())) ∧ (Q .ret (⟨[(2, .c (.bool (bif (((Tree.kind t) : Int) != 10) then (rightT (Tree.mk (Tree.kind t) (Tree.words t) (Tree.kids t)) 64) else false)))], [], []⟩ : LSt U))) :
    W122 t Q := by
  have e_ : (W122 t Q) = (((TrZKG20c (((Tree.kind t) != 10) = true)) ∧ (((Tree.kind t) != 10) = true → pre82 ((Tree.mk (Tree.kind t) (Tree.words t) (Tree.kids t)), ())) ∧ ((TrZKG20c (((Tree.kind t) != 10) = true))) ∧ (Q .ret (⟨[(2, .c (.bool (bif ((Tree.kind t) != 10) then (rightT (Tree.mk (Tree.kind t) (Tree.words t) (Tree.kids t)) 64) else false)))], [], []⟩ : LSt U)))) := by kernel_rfl
  exact e_.mpr ⟨id, h.1, (by generalize (((Tree.kind t) : Int) != 10) = b0; revert b0; decide), h.2⟩
def Body122 (t : Tree)  : Prop := awp cfg (know (know122)) (drawOk cfg (know (know122))) Tryz.f122.ntmps lv122 (cd Tryz.f122 []) (entry (args122.can (t, ())) []) (EndsQ cfg Tryz.f122.ntmps Tryz.f122.results.toList (res122 (t, ())) [])
theorem make122 (c82 : Contract Tryz.prog cfg 82 spec82) (hb : ∀ (t : Tree) (_ : Unit), pre122 (t, ()) → Body122 t) : Contract Tryz.prog cfg 122 spec122 :=
  contract_flat (l := [(82, spec82)]) cfgOk rfl (⟨c82, trivial⟩) lv122 Tryz.func122 rfl rfl 1 (fun _ => rfl) (by decide) (fun ⟨t, _⟩ => hb t ())
noncomputable def know218 : List (FuncId × Fs U) := [(82, spec82)]
def lv218 : Lives U := fun i => match i with
  | 0 => ([(0, []), (3, [])], [((.loc 3), [])])
  | 1 => ([(4, [])], [])
  | _ => ([], [])
abbrev W218 (list : Int) (t : Tree) (Q : AExit → LSt U → Prop) := awp cfg (know know218) (drawOk cfg (know know218)) Tryz.f218.ntmps lv218 (cd Tryz.f218 []) (⟨[(0, .c (.int .i64 list)), (1, .agg [.int .i64 (Tree.kind t), .slice (U := U) .u64 (Tree.words t) .unk, .slice (U := U) .tree (Tree.kids t) .unk])], [], []⟩ : LSt U) Q
theorem vc218 (list : Int) (t : Tree) (Q : AExit → LSt U → Prop) (h : (pre82 ((Tree.mk list ([]) ([(Tree.mk (Tree.kind t) (Tree.words t) (Tree.kids t))])), ())) ∧ (Q .ret (⟨[(4, .c (.bool (rightT (Tree.mk list ([]) ([(Tree.mk (Tree.kind t) (Tree.words t) (Tree.kids t))])) 64)))], [], []⟩ : LSt U))) :
    W218 list t Q := by
  have e_ : (W218 list t Q) = (type_of% h) := by kernel_rfl
  exact e_.mpr ⟨h.1, h.2⟩
def Body218 (list : Int) (t : Tree)  : Prop := awp cfg (know (know218)) (drawOk cfg (know (know218))) Tryz.f218.ntmps lv218 (cd Tryz.f218 []) (entry (args218.can (list, t, ())) []) (EndsQ cfg Tryz.f218.ntmps Tryz.f218.results.toList (res218 (list, t, ())) [])
theorem make218 (c82 : Contract Tryz.prog cfg 82 spec82) (hb : ∀ (list : Int) (t : Tree) (_ : Unit), pre218 (list, t, ()) → Body218 list t) : Contract Tryz.prog cfg 218 spec218 :=
  contract_flat (l := [(82, spec82)]) cfgOk rfl (⟨c82, trivial⟩) lv218 Tryz.func218 rfl rfl 2 (fun _ => rfl) (by decide) (fun ⟨list, t, _⟩ => hb list t ())
noncomputable def know219 : List (FuncId × Fs U) := [(220, spec220)]
def lv219 : Lives U := fun i => match i with
  | 0 => ([(0, []), (3, [])], [((.loc 3), [])])
  | 1 => ([(0, []), (3, []), (5, [])], [((.loc 3), [])])
  | 2 => ([(4, [])], [])
  | 3 => ([(3, []), (13, [])], [((.loc 3), [])])
  | 4 => ([(4, [])], [])
  | 5 => ([(4, [])], [])
  | _ => ([], [])
abbrev W219 (list : Int) (e : Edit) (Q : AExit → LSt U → Prop) := awp cfg (know know219) (drawOk cfg (know know219)) Tryz.f219.ntmps lv219 (cd Tryz.f219 []) (⟨[(0, .c (.int .i64 list)), (1, .agg [.int .i64 (Edit.kind e), .int .i64 (Tree.kind (Edit.old e)), .slice (U := U) .u64 (Tree.words (Edit.old e)) .unk, .slice (U := U) .tree (Tree.kids (Edit.old e)) .unk, .int .i64 (Tree.kind (Edit.new e)), .slice (U := U) .u64 (Tree.words (Edit.new e)) .unk, .slice (U := U) .tree (Tree.kids (Edit.new e)) .unk, .slice (U := U) .wedit (Edit.words e) .unk, .slice (U := U) .kid (Edit.kids e) .unk, .int .i64 (Edit.list e), .slice (U := U) .op (Edit.ops e) .unk])], [], []⟩ : LSt U) Q
theorem vc219 (list : Int) (e : Edit) (Q : AExit → LSt U → Prop) (h : (pre220 (list, ())) ∧ (((bif (decide (2 ≤ list ∧ list ≤ 7)) then true else (((Edit.kind e) : Int) == 0)) = true → Q .ret (⟨[(4, .c (.bool false))], [], []⟩ : LSt U)) ∧ ((bif (decide (2 ≤ list ∧ list ≤ 7)) then true else (((Edit.kind e) : Int) == 0)) = false → ((bif ((list : Int) == 8) then true else (((Edit.kind e) : Int) == 2)) = true → Q .ret (⟨[(4, .c (.bool true))], [], []⟩ : LSt U)) ∧ ((bif ((list : Int) == 8) then true else (((Edit.kind e) : Int) == 2)) = false → Q .ret (⟨[(4, .c (.bool (bif (bif (((Edit.kind e) : Int) == 1) then (((Tree.kind (Edit.old e)) : Int) == 1) else false) then (((Tree.kind (Edit.new e)) : Int) == 1) else false)))], [], []⟩ : LSt U))))) :
    W219 list e Q := by
  have e_ : (W219 list e Q) = (let zz2 := (bif ((list : Int) == 8) then true else ((Edit.kind e) == 2)); let zz1 := (decide (2 ≤ list ∧ list ≤ 7)); let zz0 := (bif ((Edit.kind e) == 1) then (((Tree.kind (Edit.old e)) : Int) == 1) else false); ((pre220 (list, ())) ∧ (TrZKG20c ((!zz1) = true)) ∧ (TrZKG20c ((!zz1) = true)) ∧ ((zz1 = false → (!zz1) = true)) ∧ (((bif zz1 then true else ((Edit.kind e) == 0)) = true → (Q .ret (⟨[(4, .c (.bool false))], [], []⟩ : LSt U))) ∧ ((bif zz1 then true else ((Edit.kind e) == 0)) = false → (TrZKG20c ((!((list : Int) == 8)) = true)) ∧ (TrZKG20c ((!((list : Int) == 8)) = true)) ∧ ((((list : Int) == 8) = false → (!((list : Int) == 8)) = true)) ∧ ((zz2 = true → (Q .ret (⟨[(4, .c (.bool true))], [], []⟩ : LSt U))) ∧ (zz2 = false → (TrZKG20c (((Edit.kind e) == 1) = true)) ∧ (TrZKG20c (((Edit.kind e) == 1) = true)) ∧ (TrZKG20c (((Edit.kind e) == 1) = true)) ∧ ((TrZKG20c (((Edit.kind e) == 1) = true))) ∧ (TrZKG20c (zz0 = true)) ∧ (TrZKG20c (zz0 = true)) ∧ (TrZKG20c (zz0 = true)) ∧ ((TrZKG20c (zz0 = true))) ∧ (Q .ret (⟨[(4, .c (.bool (bif zz0 then (((Tree.kind (Edit.new e)) : Int) == 1) else false)))], [], []⟩ : LSt U)))))))) := by kernel_rfl
  exact e_.mpr ⟨h.1, id, id, (by generalize (decide (2 ≤ list ∧ list ≤ 7)) = b0; revert b0; decide), ⟨fun c_3 => (h.2.1 c_3), fun c_3 => ⟨id, id, (by generalize ((list : Int) == 8) = b0; revert b0; decide), ⟨fun c_4 => ((h.2.2 c_3).1 c_4), fun c_4 => ⟨id, id, id, (by generalize (((Edit.kind e) : Int) == 1) = b0; revert b0; decide), id, id, id, (by generalize (((Tree.kind (Edit.old e)) : Int) == 1) = b0; generalize (((Edit.kind e) : Int) == 1) = b1; revert b0 b1; decide), ((h.2.2 c_3).2 c_4)⟩⟩⟩⟩⟩
def Body219 (list : Int) (e : Edit)  : Prop := awp cfg (know (know219)) (drawOk cfg (know (know219))) Tryz.f219.ntmps lv219 (cd Tryz.f219 []) (entry (args219.can (list, e, ())) []) (EndsQ cfg Tryz.f219.ntmps Tryz.f219.results.toList (res219 (list, e, ())) [])
theorem make219 (c220 : Contract Tryz.prog cfg 220 spec220) (hb : ∀ (list : Int) (e : Edit) (_ : Unit), pre219 (list, e, ()) → Body219 list e) : Contract Tryz.prog cfg 219 spec219 :=
  contract_flat (l := [(220, spec220)]) cfgOk rfl (⟨c220, trivial⟩) lv219 Tryz.func219 rfl rfl 2 (fun _ => rfl) (by decide) (fun ⟨list, e, _⟩ => hb list e ())
noncomputable def know123 : List (FuncId × Fs U) := [(176, spec176)]
def lv123 : Lives U := fun i => match i with
  | 0 => ([(0, [])], [])
  | 1 => ([(0, []), (5, []), (6, []), (7, [])], [])
  | 2 => ([(0, []), (5, []), (6, []), (7, []), (8, [])], [])
  | 3 => ([(0, []), (3, []), (4, []), (5, []), (6, []), (7, [])], [((.loc 4), [])])
  | 4 => ([(0, []), (4, []), (5, []), (6, []), (7, []), (39, [])], [((.loc 4), [])])
  | 5 => ([(2, [])], [])
  | 6 => ([(0, []), (5, []), (6, []), (7, []), (53, [])], [])
  | 7 => ([(2, [])], [])
  | 8 => ([(0, []), (5, []), (6, []), (7, [])], [])
  | 9 => ([(2, [])], [])
  | _ => ([], [])
def head123_0 (l : List WEdit) (x7 : Int) : LSt U := (⟨[(0, .c (.slice (U := U) .wedit l .unk)), (5, .c (.slice (U := U) .wedit l .unk)), (6, .c (.int .i64 (l.length : Int))), (7, .c (.int .i64 x7))], [], []⟩ : LSt U)
abbrev W123 (l : List WEdit) (Q : AExit → LSt U → Prop) := awp cfg (know know123) (drawOk cfg (know know123)) Tryz.f123.ntmps lv123 (cd Tryz.f123 []) (⟨[(0, .c (.slice (U := U) .wedit l .unk))], [], []⟩ : LSt U) Q
abbrev a123_ZKG20c := awp cfg (know know123) (drawOk cfg (know know123)) Tryz.f123.ntmps lv123
abbrev s123_ZKG20c := seqK cfg (know know123) (drawOk cfg (know know123)) Tryz.f123.ntmps lv123
theorem vc123 (l : List WEdit) (Q : AExit → LSt U → Prop) (h : LoopWp (awp cfg (know know123) (drawOk cfg (know know123)) Tryz.f123.ntmps lv123 (cd Tryz.f123 [1, 0, 1, 0, 0])) (head123_0 l 0) (AExit.inBlock 0 (seqK cfg (know know123) (drawOk cfg (know know123)) Tryz.f123.ntmps lv123 (cd Tryz.f123 [1, 1]) Q))) :
    W123 l Q := by
  have e_ : (W123 l Q) = (((LoopWp (a123_ZKG20c (cd Tryz.f123 [1, 0, 1, 0, 0])) (head123_0 l 0) (AExit.inBlock 0 (s123_ZKG20c (cd Tryz.f123 [1, 1]) Q))))) := by kernel_rfl
  exact e_.mpr h
abbrev W123_l0 (l : List WEdit) (x7 : Int) (N0 : LSt U → Prop) (Q : AExit → LSt U → Prop) := awp cfg (know know123) (drawOk cfg (know know123)) Tryz.f123.ntmps lv123 (cd Tryz.f123 [1, 0, 1, 0, 0]) (head123_0 l x7) (AExit.then N0 (AExit.inBlock 0 (seqK cfg (know know123) (drawOk cfg (know know123)) Tryz.f123.ntmps lv123 (cd Tryz.f123 [1, 1]) Q)))
theorem vc123_l0 (l : List WEdit) (x7 : Int) (N0 : LSt U → Prop) (Q : AExit → LSt U → Prop) (h : ∀ y_1, y_1 = (List.getD l (Int.toNat x7) (WEdit.mk 0 0 0 0)) → ∀ y_2, y_2 = (List.getD l (Int.toNat ((x7 : Int) - 1)) (WEdit.mk 0 0 0 0)) → ((decide ((x7 : Int) < (l.length : Int))) = true → ((0 : Int) ≤ x7 ∧ x7 < (l.length : Int)) ∧ ((((!(bif (decide (((WEdit.at_ y_1) : Int) < 0)) then true else (decide ((65535 : Int) ≤ (WEdit.at_ y_1))))) && (decide ((0 : Int) < x7))) = true → InR ((x7 : Int) - 1)) ∧ (((!(bif (decide (((WEdit.at_ y_1) : Int) < 0)) then true else (decide ((65535 : Int) ≤ (WEdit.at_ y_1))))) && (decide ((0 : Int) < x7))) = true → (0 : Int) ≤ ((x7 : Int) - 1) ∧ ((x7 : Int) - 1) < (l.length : Int)) ∧ (((bif (bif (bif (decide (((WEdit.at_ y_1) : Int) < 0)) then true else (decide ((65535 : Int) ≤ (WEdit.at_ y_1)))) then true else (bif (decide ((0 : Int) < x7)) then (decide (((WEdit.at_ y_1) : Int) ≤ (WEdit.at_ y_2))) else false)) then true else (((WEdit.mask y_1) : Int) == 0)) = true → Q .ret (⟨[(2, .c (.bool false))], [], []⟩ : LSt U)) ∧ ((bif (bif (bif (decide (((WEdit.at_ y_1) : Int) < 0)) then true else (decide ((65535 : Int) ≤ (WEdit.at_ y_1)))) then true else (bif (decide ((0 : Int) < x7)) then (decide (((WEdit.at_ y_1) : Int) ≤ (WEdit.at_ y_2))) else false)) then true else (((WEdit.mask y_1) : Int) == 0)) = false → (pre176 ((WEdit.old y_1), 0, (WEdit.mask y_1), ())) ∧ ((!(((mix (WEdit.old y_1) 0 (WEdit.mask y_1)) : Int) != 0)) = true → pre176 ((WEdit.new y_1), 0, (WEdit.mask y_1), ())) ∧ (((bif (((mix (WEdit.old y_1) 0 (WEdit.mask y_1)) : Int) != 0) then true else (((mix (WEdit.new y_1) 0 (WEdit.mask y_1)) : Int) != 0)) = true → Q .ret (⟨[(2, .c (.bool false))], [], []⟩ : LSt U)) ∧ ((bif (((mix (WEdit.old y_1) 0 (WEdit.mask y_1)) : Int) != 0) then true else (((mix (WEdit.new y_1) 0 (WEdit.mask y_1)) : Int) != 0)) = false → (InR ((x7 : Int) + 1)) ∧ (N0 (head123_0 l ((x7 : Int) + 1))))))))) ∧ ((decide ((x7 : Int) < (l.length : Int))) = false → Q .ret (⟨[(2, .c (.bool true))], [], []⟩ : LSt U))) :
    W123_l0 l x7 N0 Q := by
  have e_ : (W123_l0 l x7 N0 Q) = (let y_1 := (List.getD l (Int.toNat x7) (WEdit.mk 0 0 0 0)); let y_2 := (List.getD l (Int.toNat ((x7 : Int) - 1)) (WEdit.mk 0 0 0 0)); let zz5 := (((mix (WEdit.new y_1) 0 (WEdit.mask y_1)) : Int) != 0); let zz4 := (decide ((WEdit.at_ y_1) < 0)); let zz3 := (decide ((0 : Int) < x7)); let zz2 := (bif zz3 then (decide ((WEdit.at_ y_1) ≤ (WEdit.at_ y_2))) else false); let zz1 := (((mix (WEdit.old y_1) 0 (WEdit.mask y_1)) : Int) != 0); let zz0 := (bif zz4 then true else (decide ((65535 : Int) ≤ (WEdit.at_ y_1)))); (((decide ((x7 : Int) < (l.length : Int))) = true → ((0 : Int) ≤ x7 ∧ x7 < (l.length : Int)) ∧ ((TrZKG20c ((!zz4) = true)) ∧ (TrZKG20c ((!zz4) = true)) ∧ ((zz4 = false → (!zz4) = true)) ∧ (TrZKG20c ((!zz0) = true)) ∧ (TrZKG20c ((!zz0) = true)) ∧ (TrZKG20c (((!zz0) && zz3) = true)) ∧ (((!zz0) && zz3) = true → InR ((x7 : Int) - 1)) ∧ (TrZKG20c (((!zz0) && zz3) = true)) ∧ (TrZKG20c (((!zz0) && zz3) = true)) ∧ (((!zz0) && zz3) = true → (0 : Int) ≤ ((x7 : Int) - 1) ∧ ((x7 : Int) - 1) < (l.length : Int)) ∧ (TrZKG20c (((!zz0) && zz3) = true)) ∧ (TrZKG20c (((!zz0) && zz3) = true)) ∧ (TrZKG20c (((!zz0) && zz3) = true)) ∧ (TrZKG20c (((!zz0) && zz3) = true)) ∧ (TrZKG20c (((!zz0) && zz3) = true)) ∧ ((!zz0) = true → (True → (!zz0) = true)) ∧ ((!zz0) = true → (zz3 = true → ((!zz0) && zz3) = true)) ∧ ((zz0 = false → (!zz0) = true)) ∧ (TrZKG20c ((!(bif zz0 then true else zz2)) = true)) ∧ (TrZKG20c ((!(bif zz0 then true else zz2)) = true)) ∧ (((bif zz0 then true else zz2) = false → (!(bif zz0 then true else zz2)) = true)) ∧ (((bif (bif zz0 then true else zz2) then true else ((WEdit.mask y_1) == 0)) = true → (Q .ret (⟨[(2, .c (.bool false))], [], []⟩ : LSt U))) ∧ ((bif (bif zz0 then true else zz2) then true else ((WEdit.mask y_1) == 0)) = false → (pre176 ((WEdit.old y_1), 0, (WEdit.mask y_1), ())) ∧ (TrZKG20c ((!zz1) = true)) ∧ (TrZKG20c ((!zz1) = true)) ∧ (TrZKG20c ((!zz1) = true)) ∧ (TrZKG20c ((!zz1) = true)) ∧ ((!zz1) = true → pre176 ((WEdit.new y_1), 0, (WEdit.mask y_1), ())) ∧ (TrZKG20c ((!zz1) = true)) ∧ ((zz1 = false → (!zz1) = true)) ∧ (((bif zz1 then true else zz5) = true → (Q .ret (⟨[(2, .c (.bool false))], [], []⟩ : LSt U))) ∧ ((bif zz1 then true else zz5) = false → (InR ((x7 : Int) + 1)) ∧ (N0 (head123_0 l ((x7 : Int) + 1))))))))) ∧ ((decide ((x7 : Int) < (l.length : Int))) = false → (Q .ret (⟨[(2, .c (.bool true))], [], []⟩ : LSt U))))) := by kernel_rfl
  exact e_.mpr (by intro y_1 y_2; have hh := h y_1 rfl y_2 rfl; exact ⟨fun c_5 => ⟨(hh.1 c_5).1, ⟨id, id, (by generalize (decide (((WEdit.at_ y_1) : Int) < 0)) = b0; revert b0; decide), id, id, id, (hh.1 c_5).2.1, id, id, (hh.1 c_5).2.2.1, id, id, id, id, id, (by generalize (decide ((65535 : Int) ≤ (WEdit.at_ y_1))) = b0; generalize (decide (((WEdit.at_ y_1) : Int) < 0)) = b1; revert b0 b1; decide), (by generalize (decide ((65535 : Int) ≤ (WEdit.at_ y_1))) = b0; generalize (decide (((WEdit.at_ y_1) : Int) < 0)) = b1; generalize (decide ((0 : Int) < x7)) = b2; revert b0 b1 b2; decide), (by generalize (decide ((65535 : Int) ≤ (WEdit.at_ y_1))) = b0; generalize (decide (((WEdit.at_ y_1) : Int) < 0)) = b1; revert b0 b1; decide), id, id, (by generalize (decide (((WEdit.at_ y_1) : Int) ≤ (WEdit.at_ y_2))) = b0; generalize (decide ((65535 : Int) ≤ (WEdit.at_ y_1))) = b1; generalize (decide (((WEdit.at_ y_1) : Int) < 0)) = b2; generalize (decide ((0 : Int) < x7)) = b3; revert b0 b1 b2 b3; decide), ⟨fun c_6 => ((hh.1 c_5).2.2.2.1 c_6), fun c_6 => ⟨((hh.1 c_5).2.2.2.2 c_6).1, id, id, id, id, ((hh.1 c_5).2.2.2.2 c_6).2.1, id, (by generalize (((mix (WEdit.old y_1) 0 (WEdit.mask y_1)) : Int) != 0) = b0; revert b0; decide), ⟨fun c_7 => (((hh.1 c_5).2.2.2.2 c_6).2.2.1 c_7), fun c_7 => ⟨(((hh.1 c_5).2.2.2.2 c_6).2.2.2 c_7).1, (((hh.1 c_5).2.2.2.2 c_6).2.2.2 c_7).2⟩⟩⟩⟩⟩⟩, fun c_5 => (hh.2 c_5)⟩)
def Body123 (l : List WEdit)  : Prop := awp cfg (know (know123)) (drawOk cfg (know (know123))) Tryz.f123.ntmps lv123 (cd Tryz.f123 []) (entry (args123.can (l, ())) []) (EndsQ cfg Tryz.f123.ntmps Tryz.f123.results.toList (res123 (l, ())) [])
theorem make123 (c176 : Contract Tryz.prog cfg 176 spec176) (hb : ∀ (l : List WEdit) (_ : Unit), pre123 (l, ()) → Body123 l) : Contract Tryz.prog cfg 123 spec123 :=
  contract_flat (l := [(176, spec176)]) cfgOk rfl (⟨c176, trivial⟩) lv123 Tryz.func123 rfl rfl 1 (fun _ => rfl) (by decide) (fun ⟨l, _⟩ => hb l ())
end
end Go.AM.YtpjenobkibfpcaaGreat

namespace Go.AM.YtpjenobkibfpcaaGreat
open Go.AM Go.Proofs
theorem bit_of : ∀ n : Fin 256, ∀ i : Fin 8, IntKind.wrap .u8 (BitVec.ofInt (IntKind.bits .u8) (Int.fdiv (n.1 : Int) (2 ^ (min (Int.toNat (i.1 : Int)) (IntKind.bits .u8)))) &&& BitVec.ofInt (IntKind.bits .u8) 1).toNat = ((n.1 / 2 ^ i.1 % 2 : Nat) : Int) := by decide +kernel
theorem or_byte : ∀ n : Fin 256, ∀ i : Fin 8, IntKind.wrap .u64 (BitVec.ofInt (IntKind.bits .u64) ((widN n.1 i.1 : Nat) : Int) ||| BitVec.ofInt (IntKind.bits .u64) (IntKind.wrap .u64 (255 * 2 ^ (min (Int.toNat (8 * (i.1 : Int))) (IntKind.bits .u64))))).toNat = ((widN n.1 i.1 + 255 * 2 ^ (8 * i.1) : Nat) : Int) := by decide +kernel
theorem c215 : Contract Tryz.prog cfg 215 spec215 := by
  refine make215 ?_
  intro m _ hp
  simp only [pre215] at hp
  obtain ⟨n, rfl⟩ := Int.eq_ofNat_of_zero_le hp.1
  have hn : n < 256 := by omega
  refine vc215 _ _ ?_
  refine loop_rule (ι := Nat) (fun i => head215_0 n ((widN n i : Nat) : Int) i) (fun i => i ≤ 8) (fun i => 8 - i) 0 rfl (by omega) ?_
  intro i hi
  refine vc215_l0 _ _ _ _ _ ?_
  (simp only [vcS])
  refine ⟨fun hc => ⟨by omega, fun hq => ⟨by unfold InR; omega, by omega, by unfold InR; omega, i + 1, ?_, by omega, by omega⟩, fun hq => ⟨by unfold InR; omega, i + 1, ?_, by omega, by omega⟩⟩, fun hc => ?_⟩
  · have h1 := bit_of ⟨n, hn⟩ ⟨i, by omega⟩
    have h2 := or_byte ⟨n, hn⟩ ⟨i, by omega⟩
    simp only at h1 h2
    rw [h1] at hq
    rw [h2]
    have e : widN n (i + 1) = widN n i + 255 * 2 ^ (8 * i) := by simp only [widN]; rw [if_pos (by omega)]
    rw [e]
    rfl
  · have h1 := bit_of ⟨n, hn⟩ ⟨i, by omega⟩
    simp only at h1
    rw [h1] at hq
    have e : widN n (i + 1) = widN n i := by simp only [widN]; rw [if_neg (by omega)]; omega
    rw [e]
    rfl
  · have : i = 8 := by omega
    subst this
    exact ends_int rfl rfl
theorem ofInt_nat (a : Nat) (h : a < 2 ^ 64) : (BitVec.ofInt 64 (a : Int)).toNat = a := by
  rw [BitVec.toNat_ofInt]
  omega
theorem c176 : Contract Tryz.prog cfg 176 spec176 := by
  refine make176 c215 ?_
  intro a b m _ hp
  simp only [pre176] at hp
  obtain ⟨⟨a0, a1⟩, ⟨b0, b1⟩, m0, m1⟩ := hp
  obtain ⟨x, rfl⟩ := Int.eq_ofNat_of_zero_le a0
  obtain ⟨y, rfl⟩ := Int.eq_ofNat_of_zero_le b0
  obtain ⟨n, rfl⟩ := Int.eq_ofNat_of_zero_le m0
  have hn : n < 256 := by omega
  have hx : x < 2 ^ 64 := by omega
  have hy : y < 2 ^ 64 := by omega
  have hw := widW_lt ⟨n, hn⟩
  have hw2 := widN_eq ⟨n, hn⟩
  simp only at hw hw2
  rw [← hw2] at hw
  refine vc176 _ _ _ _ ?_
  refine ⟨⟨m0, m1⟩, ⟨m0, m1⟩, ends_int rfl ?_⟩
  have em : mix x y n = (((x &&& (2 ^ 64 - 1 - widN n 8)) ||| (y &&& widN n 8) : Nat) : Int) := by rw [← mixW_mix, ← mix_bits x y n hn]
  have e1 : (BitVec.ofInt 64 (x : Int) &&& ~~~(BitVec.ofInt 64 ((widN n 8 : Nat) : Int))).toNat = x &&& (2 ^ 64 - 1 - widN n 8) := by
    rw [BitVec.toNat_and, BitVec.toNat_not, ofInt_nat x hx, ofInt_nat _ hw]
  have e2 : (BitVec.ofInt 64 (y : Int) &&& BitVec.ofInt 64 ((widN n 8 : Nat) : Int)).toNat = y &&& widN n 8 := by
    rw [BitVec.toNat_and, ofInt_nat y hy, ofInt_nat _ hw]
  have l1 : x &&& (2 ^ 64 - 1 - widN n 8) < 2 ^ 64 := Nat.lt_of_le_of_lt Nat.and_le_left hx
  have l2 : y &&& widN n 8 < 2 ^ 64 := Nat.lt_of_le_of_lt Nat.and_le_left hy
  have l3 : (x &&& (2 ^ 64 - 1 - widN n 8)) ||| (y &&& widN n 8) < 2 ^ 64 := Nat.or_lt_two_pow l1 l2
  have key : IntKind.wrap .u64 ((BitVec.ofInt 64 (IntKind.wrap .u64 ((BitVec.ofInt 64 (x : Int) &&& ~~~(BitVec.ofInt 64 ((widN n 8 : Nat) : Int))).toNat : Int)) ||| BitVec.ofInt 64 (IntKind.wrap .u64 ((BitVec.ofInt 64 (y : Int) &&& BitVec.ofInt 64 ((widN n 8 : Nat) : Int)).toNat : Int))).toNat : Int) = mix x y n := by
    have w1 : ∀ k : Nat, k < 2 ^ 64 → IntKind.wrap .u64 (k : Int) = k := fun k hk => wrap_u64 (by omega) (by omega)
    rw [e1, e2, w1 _ l1, w1 _ l2, BitVec.toNat_or, ofInt_nat _ l1, ofInt_nat _ l2, w1 _ l3, em]
  exact key
theorem c122 : Contract Tryz.prog cfg 122 spec122 := by
  refine make122 c82 ?_
  intro t _ hp
  refine vc122 _ _ ?_
  (simp only [Tree.eta, Edit.eta, Tree.kind_mk, Tree.words_mk, Tree.kids_mk])
  refine ⟨fun _ => hp, ends_bool rfl ?_⟩
  rw [Bool.eq_iff_iff]
  (simp only [vcS])
theorem c218 : Contract Tryz.prog cfg 218 spec218 := by
  refine make218 c82 ?_
  intro list t _ hp
  simp only [pre218] at hp
  refine vc218 _ _ _ ?_
  (simp only [Tree.eta, Edit.eta, Tree.kind_mk, Tree.words_mk, Tree.kids_mk])
  refine ⟨⟨?_, ?_⟩, by (repeat' (first | exact trivial | exact rfl | apply And.intro))⟩
  · simp only [mass, massK, List.length_nil]; omega
  · simp only [rng, rngK]
    have hi := hp.2.2
    unfold isI at hi
    exact ⟨hi, by simp, hp.2.1, trivial⟩
theorem c219 : Contract Tryz.prog cfg 219 spec219 := by
  refine make219 c220 ?_
  intro list e _ hp
  refine vc219 _ _ _ ?_
  (simp only [vcS])
  refine ⟨trivial, fun h => ?_, fun h => ⟨fun h2 => ?_, fun h2 => ?_⟩⟩
  · exact ends_bool rfl (by show false = withinB list e; unfold withinB; rw [if_pos h])
  · exact ends_bool rfl (by show true = withinB list e; unfold withinB; rw [if_neg (by omega), if_pos h2])
  · refine ends_bool rfl ?_
    show _ = withinB list e
    unfold withinB
    rw [if_neg (by omega), if_neg (by omega), Bool.eq_iff_iff]
    (simp only [vcS])
    omega
theorem wordsOk_cons (last : Int) (w : WEdit) (r : List WEdit) : wordsOk last (w :: r) = (decide (last < w.at_ ∧ w.at_ ≤ 65534 ∧ w.mask ≠ 0) && withinW w.old w.mask && withinW w.new w.mask && wordsOk w.at_ r) := rfl
theorem c123 : Contract Tryz.prog cfg 123 spec123 := by
  refine make123 c176 ?_
  intro l _ hp
  simp only [pre123] at hp
  refine vc123 _ _ ?_
  refine loop_rule (ι := Int) (fun i => head123_0 l i) (fun i => 0 ≤ i ∧ i ≤ l.length ∧ (i ≠ 0 → 0 ≤ (l.getD (i - 1).toNat (WEdit.mk 0 0 0 0)).at_) ∧ wordsOk (if i = 0 then -1 else (l.getD (i - 1).toNat (WEdit.mk 0 0 0 0)).at_) (l.drop i.toNat) = wordsOk (-1) l) (fun i => ((l.length : Int) - i).toNat) 0 rfl ⟨by omega, by omega, by simp, by simp⟩ ?_
  rintro i ⟨h1, h2, hpos, h3⟩
  refine vc123_l0 _ _ _ _ ?_
  rintro y1 hy1 y2 hy2
  (simp only [vcS])
  refine ⟨fun hi => ?_, fun hi => ?_⟩
  · have hm := hp.2 _ (mem_getD (l := l) (i := i.toNat) (by omega) (WEdit.mk 0 0 0 0))
    rw [dropI h1 hi (WEdit.mk 0 0 0 0), wordsOk_cons] at h3
    rw [← hy1] at h3 hm
    rw [← hy2] at h3 hpos
    obtain ⟨r1, r2, r3, r4⟩ := hm
    unfold isW at r3 r4
    have hw : ∀ x : Int, withinW x y1.mask = decide (mix x 0 y1.mask = 0) := fun x => rfl
    refine ⟨⟨h1, hi⟩, fun _ => by unfold InR; omega, fun _ => ⟨by omega, by omega⟩, fun hq => ?_, fun hq => ⟨⟨r3, by dsimp only; omega, r2⟩, fun _ => ⟨r4, by dsimp only; omega, r2⟩, fun hz => ?_, fun hz => ⟨by unfold InR; omega, i + 1, rfl, ⟨by omega, by omega, fun _ => by rw [show i + 1 - 1 = i by omega, ← hy1]; omega, ?_⟩, by omega⟩⟩⟩
    · refine ends_bool rfl ?_
      show false = wordsOk (-1) l
      rw [← h3, decide_eq_false]
      · rfl
      · split <;> omega
    · refine ends_bool rfl ?_
      show false = wordsOk (-1) l
      rw [← h3, hw, hw]
      rcases hz with hz | hz
      · rw [decide_eq_false hz]; simp
      · rw [decide_eq_false hz]; simp
    · rw [if_neg (by omega), show i + 1 - 1 = i by omega, ← hy1, ← h3, hw, hw, decide_eq_true hz.1, decide_eq_true hz.2, decide_eq_true]
      · simp
      · split <;> omega
  · rw [List.drop_of_length_le (by omega)] at h3
    exact ends_bool rfl (by show true = wordsOk (-1) l; rw [← h3]; rfl)
end Go.AM.YtpjenobkibfpcaaGreat

namespace Go.AM
def wr (n : Int) : Int := IntKind.wrap .i64 n
def opLenW (o : Op) : Int := if o.kind = 3 then 1 else wr (o.n + o.l.length)
def capW (n : Int) : Int := if 1048576 < n then 1048576 else n
def lenAW : List Op → Int → Int
  | [], n => n
  | o :: r, n => lenAW r (if o.kind = 2 then n else capW (wr (n + opLenW o)))
def lenBW : List Op → Int → Int
  | [], n => n
  | o :: r, n => lenBW r (if o.kind = 1 then n else capW (wr (n + opLenW o)))
def bareE (e : Edit) : Bool :=
  if (e.kind ≠ 1 ∧ ¬(noneT e.old = true ∧ noneT e.new = true)) ∨ (e.kind ≠ 2 ∧ ¬(e.words.length = 0 ∧ e.kids.length = 0)) ∨ (e.kind ≠ 3 ∧ (e.list ≠ 0 ∨ e.ops.length ≠ 0)) then false else true
end Go.AM

namespace Go.AM.YtpjenobkibfpcaaGreat
open Go.AM Go.Proofs
def args169 : ArgL (Edit × Unit) := (.cons (aEl .edit) .nil)
def pre169 (a : Edit × Unit) : Prop := massE a.1 ≤ 20000000000
noncomputable def res169 (a : Edit × Unit) : V U := .tup [(false, [.int .i64 (lenAW (Edit.ops a.1) 0)]), (false, [.int .i64 (lenBW (Edit.ops a.1) 0)])]
noncomputable def spec169 : Fs U := fs args169 (fun a => [pre169 a]) res169
noncomputable def know169 : List (FuncId × Fs U) := []
def lv169 : Lives U := fun i => match i with
  | 0 => ([(1, [])], [((.loc 1), [])])
  | 1 => ([(1, []), (4, []), (5, [])], [((.loc 1), [])])
  | 2 => ([(4, []), (5, []), (10, []), (11, []), (12, [])], [])
  | 3 => ([(4, []), (5, []), (10, []), (11, []), (12, []), (13, [])], [])
  | 4 => ([(4, []), (5, []), (7, []), (10, []), (11, []), (12, [])], [((.loc 7), [])])
  | 5 => ([(4, []), (5, []), (7, []), (8, []), (10, []), (11, []), (12, [])], [((.loc 7), [])])
  | 6 => ([(4, []), (5, []), (7, []), (8, []), (10, []), (11, []), (12, []), (24, [])], [((.loc 7), [])])
  | 7 => ([(4, []), (5, []), (7, []), (8, []), (10, []), (11, []), (12, []), (24, [])], [((.loc 7), [])])
  | 8 => ([(4, []), (5, []), (7, []), (8, []), (10, []), (11, []), (12, []), (27, [])], [((.loc 7), [])])
  | 9 => ([(4, []), (5, []), (7, []), (8, []), (10, []), (11, []), (12, []), (27, [])], [((.loc 7), [])])
  | 10 => ([(4, []), (5, []), (8, []), (10, []), (11, []), (12, []), (34, [])], [])
  | 11 => ([(4, []), (5, []), (10, []), (11, []), (12, [])], [])
  | 12 => ([(4, []), (5, []), (10, []), (11, []), (12, [])], [])
  | 13 => ([(2, []), (3, [])], [])
  | _ => ([], [])
def head169_0 (e : Edit) (x4 : Int) (x5 : Int) (x12 : Int) : LSt U := (⟨[(4, .c (.int .i64 x4)), (5, .c (.int .i64 x5)), (10, .c (.slice (U := U) .op (Edit.ops e) .unk)), (11, .c (.int .i64 ((Edit.ops e).length : Int))), (12, .c (.int .i64 x12))], [], []⟩ : LSt U)
def head169_1 (e : Edit) (x4 : Int) (x5 : Int) (x12 : Int) (x8_a : Int) : LSt U := (⟨[(4, .c (.int .i64 x4)), (5, .c (.int .i64 x5)), (7, .ptr (.loc 7) 0), (8, .c (.int .i64 x8_a)), (10, .c (.slice (U := U) .op (Edit.ops e) .unk)), (11, .c (.int .i64 ((Edit.ops e).length : Int))), (12, .c (.int .i64 x12)), (24, .c (.bool (((OpOf.kind (List.getD (Edit.ops e) (Int.toNat x12) Op.nil)) : Int) == 3)))], [((.loc 7), [.int .i64 (OpOf.kind (List.getD (Edit.ops e) (Int.toNat x12) Op.nil)), .int .i64 (OpOf.n (List.getD (Edit.ops e) (Int.toNat x12) Op.nil)), .slice (U := U) .tree (OpOf.l (List.getD (Edit.ops e) (Int.toNat x12) Op.nil)) .unk, .int .i64 (Edit.kind (OpOf.e (List.getD (Edit.ops e) (Int.toNat x12) Op.nil))), .int .i64 (Tree.kind (Edit.old (OpOf.e (List.getD (Edit.ops e) (Int.toNat x12) Op.nil)))), .slice (U := U) .u64 (Tree.words (Edit.old (OpOf.e (List.getD (Edit.ops e) (Int.toNat x12) Op.nil)))) .unk, .slice (U := U) .tree (Tree.kids (Edit.old (OpOf.e (List.getD (Edit.ops e) (Int.toNat x12) Op.nil)))) .unk, .int .i64 (Tree.kind (Edit.new (OpOf.e (List.getD (Edit.ops e) (Int.toNat x12) Op.nil)))), .slice (U := U) .u64 (Tree.words (Edit.new (OpOf.e (List.getD (Edit.ops e) (Int.toNat x12) Op.nil)))) .unk, .slice (U := U) .tree (Tree.kids (Edit.new (OpOf.e (List.getD (Edit.ops e) (Int.toNat x12) Op.nil)))) .unk, .slice (U := U) .wedit (Edit.words (OpOf.e (List.getD (Edit.ops e) (Int.toNat x12) Op.nil))) .unk, .slice (U := U) .kid (Edit.kids (OpOf.e (List.getD (Edit.ops e) (Int.toNat x12) Op.nil))) .unk, .int .i64 (Edit.list (OpOf.e (List.getD (Edit.ops e) (Int.toNat x12) Op.nil))), .slice (U := U) .op (Edit.ops (OpOf.e (List.getD (Edit.ops e) (Int.toNat x12) Op.nil))) .unk])], []⟩ : LSt U)
def head169_2 (e : Edit) (x5 : Int) (x12 : Int) (x8_a : Int) (x4_b : Int) : LSt U := (⟨[(4, .c (.int .i64 x4_b)), (5, .c (.int .i64 x5)), (7, .ptr (.loc 7) 0), (8, .c (.int .i64 x8_a)), (10, .c (.slice (U := U) .op (Edit.ops e) .unk)), (11, .c (.int .i64 ((Edit.ops e).length : Int))), (12, .c (.int .i64 x12)), (27, .c (.bool (((OpOf.kind (List.getD (Edit.ops e) (Int.toNat x12) Op.nil)) : Int) != 2)))], [((.loc 7), [.int .i64 (OpOf.kind (List.getD (Edit.ops e) (Int.toNat x12) Op.nil)), .int .i64 (OpOf.n (List.getD (Edit.ops e) (Int.toNat x12) Op.nil)), .slice (U := U) .tree (OpOf.l (List.getD (Edit.ops e) (Int.toNat x12) Op.nil)) .unk, .int .i64 (Edit.kind (OpOf.e (List.getD (Edit.ops e) (Int.toNat x12) Op.nil))), .int .i64 (Tree.kind (Edit.old (OpOf.e (List.getD (Edit.ops e) (Int.toNat x12) Op.nil)))), .slice (U := U) .u64 (Tree.words (Edit.old (OpOf.e (List.getD (Edit.ops e) (Int.toNat x12) Op.nil)))) .unk, .slice (U := U) .tree (Tree.kids (Edit.old (OpOf.e (List.getD (Edit.ops e) (Int.toNat x12) Op.nil)))) .unk, .int .i64 (Tree.kind (Edit.new (OpOf.e (List.getD (Edit.ops e) (Int.toNat x12) Op.nil)))), .slice (U := U) .u64 (Tree.words (Edit.new (OpOf.e (List.getD (Edit.ops e) (Int.toNat x12) Op.nil)))) .unk, .slice (U := U) .tree (Tree.kids (Edit.new (OpOf.e (List.getD (Edit.ops e) (Int.toNat x12) Op.nil)))) .unk, .slice (U := U) .wedit (Edit.words (OpOf.e (List.getD (Edit.ops e) (Int.toNat x12) Op.nil))) .unk, .slice (U := U) .kid (Edit.kids (OpOf.e (List.getD (Edit.ops e) (Int.toNat x12) Op.nil))) .unk, .int .i64 (Edit.list (OpOf.e (List.getD (Edit.ops e) (Int.toNat x12) Op.nil))), .slice (U := U) .op (Edit.ops (OpOf.e (List.getD (Edit.ops e) (Int.toNat x12) Op.nil))) .unk])], []⟩ : LSt U)
abbrev W169 (e : Edit) (Q : AExit → LSt U → Prop) := awp cfg (knowW know169) (drawOk cfg (knowW know169)) Tryz.f169.ntmps lv169 (cd Tryz.f169 []) (⟨[(0, .agg [.int .i64 (Edit.kind e), .int .i64 (Tree.kind (Edit.old e)), .slice (U := U) .u64 (Tree.words (Edit.old e)) .unk, .slice (U := U) .tree (Tree.kids (Edit.old e)) .unk, .int .i64 (Tree.kind (Edit.new e)), .slice (U := U) .u64 (Tree.words (Edit.new e)) .unk, .slice (U := U) .tree (Tree.kids (Edit.new e)) .unk, .slice (U := U) .wedit (Edit.words e) .unk, .slice (U := U) .kid (Edit.kids e) .unk, .int .i64 (Edit.list e), .slice (U := U) .op (Edit.ops e) .unk])], [], []⟩ : LSt U) Q
theorem vc169 (e : Edit) (Q : AExit → LSt U → Prop) (h : LoopWp (awp cfg (knowW know169) (drawOk cfg (knowW know169)) Tryz.f169.ntmps lv169 (cd Tryz.f169 [1, 1, 0, 1, 0, 0])) (head169_0 e 0 0 0) (AExit.inBlock 0 (seqK cfg (knowW know169) (drawOk cfg (knowW know169)) Tryz.f169.ntmps lv169 (cd Tryz.f169 [1, 1, 1]) Q))) :
    W169 e Q := by
  have e_ : (W169 e Q) = ((((LoopWp (awp cfg (knowW know169) (drawOk cfg (knowW know169)) Tryz.f169.ntmps lv169 (cd Tryz.f169 [1, 1, 0, 1, 0, 0])) (head169_0 e 0 0 0) (AExit.inBlock 0 (seqK cfg (knowW know169) (drawOk cfg (knowW know169)) Tryz.f169.ntmps lv169 (cd Tryz.f169 [1, 1, 1]) Q)))))) := by kernel_rfl
  exact e_.mpr h
abbrev W169_l0 (e : Edit) (x4 : Int) (x5 : Int) (x12 : Int) (N0 : LSt U → Prop) (Q : AExit → LSt U → Prop) := awp cfg (knowW know169) (drawOk cfg (knowW know169)) Tryz.f169.ntmps lv169 (cd Tryz.f169 [1, 1, 0, 1, 0, 0]) (head169_0 e x4 x5 x12) (AExit.then N0 (AExit.inBlock 0 (seqK cfg (knowW know169) (drawOk cfg (knowW know169)) Tryz.f169.ntmps lv169 (cd Tryz.f169 [1, 1, 1]) Q)))
theorem vc169_l0 (e : Edit) (x4 : Int) (x5 : Int) (x12 : Int) (N0 : LSt U → Prop) (Q : AExit → LSt U → Prop) (h : ((decide ((x12 : Int) < ((Edit.ops e).length : Int))) = true → ((0 : Int) ≤ x12 ∧ x12 < ((Edit.ops e).length : Int)) ∧ (((((OpOf.kind (List.getD (Edit.ops e) (Int.toNat x12) Op.nil)) : Int) == 3) = true → awp cfg (knowW know169) (drawOk cfg (knowW know169)) Tryz.f169.ntmps lv169 (cd Tryz.f169 [1, 1, 0, 1, 0, 0, 1, 1, 0, 0, 1, 1, 1]) (head169_1 e x4 x5 x12 1) (AExit.inBlock 1 (seqK cfg (knowW know169) (drawOk cfg (knowW know169)) Tryz.f169.ntmps lv169 (cd Tryz.f169 [1, 1, 0, 1, 0, 0, 1, 1, 1]) (AExit.then N0 (AExit.inBlock 0 (seqK cfg (knowW know169) (drawOk cfg (knowW know169)) Tryz.f169.ntmps lv169 (cd Tryz.f169 [1, 1, 1]) Q)))))) ∧ ((((OpOf.kind (List.getD (Edit.ops e) (Int.toNat x12) Op.nil)) : Int) == 3) = false → awp cfg (knowW know169) (drawOk cfg (knowW know169)) Tryz.f169.ntmps lv169 (cd Tryz.f169 [1, 1, 0, 1, 0, 0, 1, 1, 0, 0, 1, 1, 1]) (head169_1 e x4 x5 x12 (IntKind.wrap .i64 (((OpOf.n (List.getD (Edit.ops e) (Int.toNat x12) Op.nil)) : Int) + ((OpOf.l (List.getD (Edit.ops e) (Int.toNat x12) Op.nil)).length : Int)))) (AExit.inBlock 1 (seqK cfg (knowW know169) (drawOk cfg (knowW know169)) Tryz.f169.ntmps lv169 (cd Tryz.f169 [1, 1, 0, 1, 0, 0, 1, 1, 1]) (AExit.then N0 (AExit.inBlock 0 (seqK cfg (knowW know169) (drawOk cfg (knowW know169)) Tryz.f169.ntmps lv169 (cd Tryz.f169 [1, 1, 1]) Q)))))))) ∧ ((decide ((x12 : Int) < ((Edit.ops e).length : Int))) = false → Q .ret (⟨[(2, .c (.int .i64 x4)), (3, .c (.int .i64 x5))], [], []⟩ : LSt U))) :
    W169_l0 e x4 x5 x12 N0 Q := by
  have e_ : (W169_l0 e x4 x5 x12 N0 Q) = (let zz0 := (((OpOf.kind (List.getD (Edit.ops e) (Int.toNat x12) Op.nil)) : Int) == 3); (((decide ((x12 : Int) < ((Edit.ops e).length : Int))) = true → ((0 : Int) ≤ x12 ∧ x12 < ((Edit.ops e).length : Int)) ∧ ((((zz0 = true → (awp cfg (knowW know169) (drawOk cfg (knowW know169)) Tryz.f169.ntmps lv169 (cd Tryz.f169 [1, 1, 0, 1, 0, 0, 1, 1, 0, 0, 1, 1, 1]) (head169_1 e x4 x5 x12 1) (AExit.inBlock 1 (seqK cfg (knowW know169) (drawOk cfg (knowW know169)) Tryz.f169.ntmps lv169 (cd Tryz.f169 [1, 1, 0, 1, 0, 0, 1, 1, 1]) (AExit.then N0 (AExit.inBlock 0 (seqK cfg (knowW know169) (drawOk cfg (knowW know169)) Tryz.f169.ntmps lv169 (cd Tryz.f169 [1, 1, 1]) Q))))))) ∧ (zz0 = false → awp cfg (knowW know169) (drawOk cfg (knowW know169)) Tryz.f169.ntmps lv169 (cd Tryz.f169 [1, 1, 0, 1, 0, 0, 1, 1, 0, 0, 1, 1, 1]) (head169_1 e x4 x5 x12 (IntKind.wrap .i64 (((OpOf.n (List.getD (Edit.ops e) (Int.toNat x12) Op.nil)) : Int) + ((OpOf.l (List.getD (Edit.ops e) (Int.toNat x12) Op.nil)).length : Int)))) (AExit.inBlock 1 (seqK cfg (knowW know169) (drawOk cfg (knowW know169)) Tryz.f169.ntmps lv169 (cd Tryz.f169 [1, 1, 0, 1, 0, 0, 1, 1, 1]) (AExit.then N0 (AExit.inBlock 0 (seqK cfg (knowW know169) (drawOk cfg (knowW know169)) Tryz.f169.ntmps lv169 (cd Tryz.f169 [1, 1, 1]) Q)))))))))) ∧ ((decide ((x12 : Int) < ((Edit.ops e).length : Int))) = false → (Q .ret (⟨[(2, .c (.int .i64 x4)), (3, .c (.int .i64 x5))], [], []⟩ : LSt U))))) := by kernel_rfl
  exact e_.mpr ⟨fun c_1 => ⟨(h.1 c_1).1, ⟨fun c_2 => ((h.1 c_1).2.1 c_2), fun c_2 => ((h.1 c_1).2.2 c_2)⟩⟩, fun c_1 => (h.2 c_1)⟩
abbrev W169_c1 (e : Edit) (x4 : Int) (x5 : Int) (x12 : Int) (x8_a : Int) (N0 : LSt U → Prop) (Q : AExit → LSt U → Prop) := awp cfg (knowW know169) (drawOk cfg (knowW know169)) Tryz.f169.ntmps lv169 (cd Tryz.f169 [1, 1, 0, 1, 0, 0, 1, 1, 0, 0, 1, 1, 1]) (head169_1 e x4 x5 x12 x8_a) (AExit.inBlock 1 (seqK cfg (knowW know169) (drawOk cfg (knowW know169)) Tryz.f169.ntmps lv169 (cd Tryz.f169 [1, 1, 0, 1, 0, 0, 1, 1, 1]) (AExit.then N0 (AExit.inBlock 0 (seqK cfg (knowW know169) (drawOk cfg (knowW know169)) Tryz.f169.ntmps lv169 (cd Tryz.f169 [1, 1, 1]) Q)))))
theorem vc169_c1 (e : Edit) (x4 : Int) (x5 : Int) (x12 : Int) (x8_a : Int) (N0 : LSt U → Prop) (Q : AExit → LSt U → Prop) (h : ((((OpOf.kind (List.getD (Edit.ops e) (Int.toNat x12) Op.nil)) : Int) != 2) = true → awp cfg (knowW know169) (drawOk cfg (knowW know169)) Tryz.f169.ntmps lv169 (cd Tryz.f169 [1, 1, 0, 1, 0, 0, 1, 1, 0, 0, 1, 1, 1, 1]) (head169_2 e x5 x12 x8_a (if (1048576 : Int) < (IntKind.wrap .i64 ((x4 : Int) + x8_a)) then 1048576 else (IntKind.wrap .i64 ((x4 : Int) + x8_a)))) (AExit.inBlock 1 (seqK cfg (knowW know169) (drawOk cfg (knowW know169)) Tryz.f169.ntmps lv169 (cd Tryz.f169 [1, 1, 0, 1, 0, 0, 1, 1, 1]) (AExit.then N0 (AExit.inBlock 0 (seqK cfg (knowW know169) (drawOk cfg (knowW know169)) Tryz.f169.ntmps lv169 (cd Tryz.f169 [1, 1, 1]) Q)))))) ∧ ((((OpOf.kind (List.getD (Edit.ops e) (Int.toNat x12) Op.nil)) : Int) != 2) = false → awp cfg (knowW know169) (drawOk cfg (knowW know169)) Tryz.f169.ntmps lv169 (cd Tryz.f169 [1, 1, 0, 1, 0, 0, 1, 1, 0, 0, 1, 1, 1, 1]) (head169_2 e x5 x12 x8_a x4) (AExit.inBlock 1 (seqK cfg (knowW know169) (drawOk cfg (knowW know169)) Tryz.f169.ntmps lv169 (cd Tryz.f169 [1, 1, 0, 1, 0, 0, 1, 1, 1]) (AExit.then N0 (AExit.inBlock 0 (seqK cfg (knowW know169) (drawOk cfg (knowW know169)) Tryz.f169.ntmps lv169 (cd Tryz.f169 [1, 1, 1]) Q))))))) :
    W169_c1 e x4 x5 x12 x8_a N0 Q := by
  have e_ : (W169_c1 e x4 x5 x12 x8_a N0 Q) = (let zz0 := (((OpOf.kind (List.getD (Edit.ops e) (Int.toNat x12) Op.nil)) : Int) != 2); ((zz0 = true → (awp cfg (knowW know169) (drawOk cfg (knowW know169)) Tryz.f169.ntmps lv169 (cd Tryz.f169 [1, 1, 0, 1, 0, 0, 1, 1, 0, 0, 1, 1, 1, 1]) (head169_2 e x5 x12 x8_a (if (1048576 : Int) < (IntKind.wrap .i64 ((x4 : Int) + x8_a)) then 1048576 else (IntKind.wrap .i64 ((x4 : Int) + x8_a)))) (AExit.inBlock 1 (seqK cfg (knowW know169) (drawOk cfg (knowW know169)) Tryz.f169.ntmps lv169 (cd Tryz.f169 [1, 1, 0, 1, 0, 0, 1, 1, 1]) (AExit.then N0 (AExit.inBlock 0 (seqK cfg (knowW know169) (drawOk cfg (knowW know169)) Tryz.f169.ntmps lv169 (cd Tryz.f169 [1, 1, 1]) Q))))))) ∧ (zz0 = false → awp cfg (knowW know169) (drawOk cfg (knowW know169)) Tryz.f169.ntmps lv169 (cd Tryz.f169 [1, 1, 0, 1, 0, 0, 1, 1, 0, 0, 1, 1, 1, 1]) (head169_2 e x5 x12 x8_a x4) (AExit.inBlock 1 (seqK cfg (knowW know169) (drawOk cfg (knowW know169)) Tryz.f169.ntmps lv169 (cd Tryz.f169 [1, 1, 0, 1, 0, 0, 1, 1, 1]) (AExit.then N0 (AExit.inBlock 0 (seqK cfg (knowW know169) (drawOk cfg (knowW know169)) Tryz.f169.ntmps lv169 (cd Tryz.f169 [1, 1, 1]) Q)))))))) := by kernel_rfl
  exact e_.mpr ⟨fun c_3 => (h.1 c_3), fun c_3 => (h.2 c_3)⟩
abbrev W169_c2 (e : Edit) (x5 : Int) (x12 : Int) (x8_a : Int) (x4_b : Int) (N0 : LSt U → Prop) (Q : AExit → LSt U → Prop) := awp cfg (knowW know169) (drawOk cfg (knowW know169)) Tryz.f169.ntmps lv169 (cd Tryz.f169 [1, 1, 0, 1, 0, 0, 1, 1, 0, 0, 1, 1, 1, 1]) (head169_2 e x5 x12 x8_a x4_b) (AExit.inBlock 1 (seqK cfg (knowW know169) (drawOk cfg (knowW know169)) Tryz.f169.ntmps lv169 (cd Tryz.f169 [1, 1, 0, 1, 0, 0, 1, 1, 1]) (AExit.then N0 (AExit.inBlock 0 (seqK cfg (knowW know169) (drawOk cfg (knowW know169)) Tryz.f169.ntmps lv169 (cd Tryz.f169 [1, 1, 1]) Q)))))
theorem vc169_c2 (e : Edit) (x5 : Int) (x12 : Int) (x8_a : Int) (x4_b : Int) (N0 : LSt U → Prop) (Q : AExit → LSt U → Prop) (h : ((((OpOf.kind (List.getD (Edit.ops e) (Int.toNat x12) Op.nil)) : Int) != 1) = true → N0 (head169_0 e x4_b (if (1048576 : Int) < (IntKind.wrap .i64 ((x5 : Int) + x8_a)) then 1048576 else (IntKind.wrap .i64 ((x5 : Int) + x8_a))) (IntKind.wrap .i64 ((x12 : Int) + 1)))) ∧ ((((OpOf.kind (List.getD (Edit.ops e) (Int.toNat x12) Op.nil)) : Int) != 1) = false → N0 (head169_0 e x4_b x5 (IntKind.wrap .i64 ((x12 : Int) + 1))))) :
    W169_c2 e x5 x12 x8_a x4_b N0 Q := by
  have e_ : (W169_c2 e x5 x12 x8_a x4_b N0 Q) = ((((((OpOf.kind (List.getD (Edit.ops e) (Int.toNat x12) Op.nil)) : Int) != 1) = true → ((N0 (head169_0 e x4_b (if (1048576 : Int) < (IntKind.wrap .i64 ((x5 : Int) + x8_a)) then 1048576 else (IntKind.wrap .i64 ((x5 : Int) + x8_a))) (IntKind.wrap .i64 ((x12 : Int) + 1)))))) ∧ ((((OpOf.kind (List.getD (Edit.ops e) (Int.toNat x12) Op.nil)) : Int) != 1) = false → (N0 (head169_0 e x4_b x5 (IntKind.wrap .i64 ((x12 : Int) + 1))))))) := by kernel_rfl
  exact e_.mpr ⟨fun c_4 => (h.1 c_4), fun c_4 => (h.2 c_4)⟩
def Body169 (e : Edit)  : Prop := awp cfg (knowW (know169)) (drawOk cfg (knowW (know169))) Tryz.f169.ntmps lv169 (cd Tryz.f169 []) (entry (args169.can (e, ())) []) (EndsQ cfg Tryz.f169.ntmps Tryz.f169.results.toList (res169 (e, ())) [])
theorem make169 (hb : ∀ (e : Edit) (_ : Unit), pre169 (e, ()) → Body169 e) : Contract Tryz.prog cfg 169 spec169 :=
  contract_flatW (l := []) cfgOk rfl (trivial) lv169 Tryz.func169 rfl rfl 1 (fun _ => rfl) (by decide) (fun ⟨e, _⟩ => hb e ())
end Go.AM.YtpjenobkibfpcaaGreat

namespace Go.AM.YtpjenobkibfpcaaGreat
open Go.AM Go.Proofs
theorem wr_in {n : Int} (h : InR n) : wr n = n := by
  unfold InR at h
  simp [wr, IntKind.wrap, IntKind.signed, IntKind.bits]
  split <;> omega
theorem lenAW_drop {l : List Op} {i : Int} (n : Int) (h0 : 0 ≤ i) (h : i < l.length) : lenAW (l.drop i.toNat) n = lenAW (l.drop (i + 1).toNat) (if (l.getD i.toNat Op.nil).kind = 2 then n else capW (wr (n + opLenW (l.getD i.toNat Op.nil)))) := by
  rw [dropI h0 h Op.nil, lenAW]
theorem lenBW_drop {l : List Op} {i : Int} (n : Int) (h0 : 0 ≤ i) (h : i < l.length) : lenBW (l.drop i.toNat) n = lenBW (l.drop (i + 1).toNat) (if (l.getD i.toNat Op.nil).kind = 1 then n else capW (wr (n + opLenW (l.getD i.toNat Op.nil)))) := by
  rw [dropI h0 h Op.nil, lenBW]
theorem c169 : Contract Tryz.prog cfg 169 spec169 := by
  refine make169 ?_
  intro e _ hp
  simp only [pre169] at hp
  have h1 := len_massE e
  have h2 := massOs_len e.ops
  refine vc169 _ _ ?_
  refine loop_rule (ι := Int × Int × Int) (fun s => head169_0 e s.1 s.2.1 s.2.2) (fun s => (0 ≤ s.2.2 ∧ s.2.2 ≤ e.ops.length) ∧ lenAW (e.ops.drop s.2.2.toNat) s.1 = lenAW e.ops 0 ∧ lenBW (e.ops.drop s.2.2.toNat) s.2.1 = lenBW e.ops 0) (fun s => ((e.ops.length : Int) - s.2.2).toNat) (0, 0, 0) rfl ⟨⟨by simp, by simp⟩, rfl, rfl⟩ ?_
  rintro ⟨n, m, i⟩ ⟨⟨g1, g2⟩, g3, g4⟩
  dsimp only at g1 g2 g3 g4
  refine vc169_l0 _ _ _ _ _ _ ?_
  (simp only [vcS])
  refine ⟨fun hi => ⟨⟨g1, hi⟩, ?_⟩, fun hi => ?_⟩
  · rw [lenAW_drop _ g1 hi] at g3
    rw [lenBW_drop _ g1 hi] at g4
    have hk : IntKind.wrap .i64 (i + 1) = i + 1 := wr_in (by unfold InR; omega)
    generalize hy : e.ops.getD i.toNat Op.nil = y at *
    have key : ∀ k : Int, k = opLenW y → ∀ (Q' : AExit → LSt U → Prop), W169_c1 e n m i k (fun s2 => ∃ j : Int × Int × Int, s2 = head169_0 e j.1 j.2.1 j.2.2 ∧ ((0 ≤ j.2.2 ∧ j.2.2 ≤ e.ops.length) ∧ lenAW (e.ops.drop j.2.2.toNat) j.1 = lenAW e.ops 0 ∧ lenBW (e.ops.drop j.2.2.toNat) j.2.1 = lenBW e.ops 0) ∧ ((e.ops.length : Int) - j.2.2).toNat < ((e.ops.length : Int) - i).toNat) Q' := by
      rintro k rfl Q'
      have step2 : ∀ a : Int, a = (if y.kind = 2 then n else capW (wr (n + opLenW y))) → W169_c2 e m i (opLenW y) a (fun s2 => ∃ j : Int × Int × Int, s2 = head169_0 e j.1 j.2.1 j.2.2 ∧ ((0 ≤ j.2.2 ∧ j.2.2 ≤ e.ops.length) ∧ lenAW (e.ops.drop j.2.2.toNat) j.1 = lenAW e.ops 0 ∧ lenBW (e.ops.drop j.2.2.toNat) j.2.1 = lenBW e.ops 0) ∧ ((e.ops.length : Int) - j.2.2).toNat < ((e.ops.length : Int) - i).toNat) Q' := by
        rintro a ha
        refine vc169_c2 _ _ _ _ _ _ _ ?_
        rw [hy, hk]
        (simp only [vcS])
        rw [← ha] at g3
        refine ⟨fun hb => ⟨(a, _, i + 1), rfl, ⟨⟨by dsimp only; omega, by dsimp only; omega⟩, g3, ?_⟩, by dsimp only; omega⟩, fun hb => ⟨(a, _, i + 1), rfl, ⟨⟨by dsimp only; omega, by dsimp only; omega⟩, g3, ?_⟩, by dsimp only; omega⟩⟩
        · rw [if_neg hb] at g4; exact g4
        · rw [if_pos hb] at g4; exact g4
      refine vc169_c1 _ _ _ _ _ _ _ ?_
      rw [hy]
      (simp only [vcS])
      exact ⟨fun hb => step2 _ (by rw [if_neg hb]; rfl), fun hb => step2 _ (by rw [if_pos hb])⟩
    exact ⟨fun hb => key _ (by unfold opLenW; rw [if_pos hb]) _, fun hb => key _ (by unfold opLenW; rw [if_neg hb]; rfl) _⟩
  · rw [List.drop_of_length_le (by omega)] at g3 g4
    simp only [lenAW, lenBW] at g3 g4
    rw [g3, g4]
    (repeat' (first | exact trivial | exact rfl | apply And.intro))
theorem lenAW_eq : ∀ (l : List Op) (n : Int), (∀ o ∈ l, (0 ≤ o.n ∧ o.n ≤ 1048576) ∧ o.l.length ≤ 20000000000) → 0 ≤ n → n ≤ 1048576 → lenAW l n = lenA l n
  | [], _, _, _, _ => rfl
  | o :: r, n, h, h0, hn => by
    have ho := h o (List.mem_cons_self ..)
    have hl := opLen_eq o
    have ew : opLenW o = opLen o := by
      unfold opLenW; rw [hl]
      split
      · rfl
      · exact wr_in (by unfold InR; omega)
    have hb : 0 ≤ opLen o ∧ opLen o ≤ 60000000000 := by rw [hl]; split <;> omega
    simp only [lenAW, lenA]
    rw [ew, wr_in (by unfold InR; omega)]
    have e2 : (if o.kind = 2 then n else capW (n + opLen o)) = min (if o.kind = 2 then n else n + opLen o) 1048576 := by
      unfold capW; split
      · omega
      · split <;> omega
    rw [e2]
    exact lenAW_eq r _ (fun x hx => h x (List.mem_cons_of_mem _ hx)) (by split <;> omega) (by omega)
theorem lenBW_eq : ∀ (l : List Op) (n : Int), (∀ o ∈ l, (0 ≤ o.n ∧ o.n ≤ 1048576) ∧ o.l.length ≤ 20000000000) → 0 ≤ n → n ≤ 1048576 → lenBW l n = lenB l n
  | [], _, _, _, _ => rfl
  | o :: r, n, h, h0, hn => by
    have ho := h o (List.mem_cons_self ..)
    have hl := opLen_eq o
    have ew : opLenW o = opLen o := by
      unfold opLenW; rw [hl]
      split
      · rfl
      · exact wr_in (by unfold InR; omega)
    have hb : 0 ≤ opLen o ∧ opLen o ≤ 60000000000 := by rw [hl]; split <;> omega
    simp only [lenBW, lenB]
    rw [ew, wr_in (by unfold InR; omega)]
    have e2 : (if o.kind = 1 then n else capW (n + opLen o)) = min (if o.kind = 1 then n else n + opLen o) 1048576 := by
      unfold capW; split
      · omega
      · split <;> omega
    rw [e2]
    exact lenBW_eq r _ (fun x hx => h x (List.mem_cons_of_mem _ hx)) (by split <;> omega) (by omega)
end Go.AM.YtpjenobkibfpcaaGreat

namespace Go.AM.YtpjenobkibfpcaaGreat
open Go.AM Go.Proofs
noncomputable section
def args177 : ArgL (List Tree × List Tree × Unit × Unit) := (.cons (aSl .tree) (.cons (aSl .tree) (.cons (aFn 114) .nil)))
def pre177 (a : List Tree × List Tree × Unit × Unit) : Prop := massK a.1 ≤ 1000000000000 ∧ massK a.2.1 ≤ 1000000000000
noncomputable def res177 (a : List Tree × List Tree × Unit × Unit) : V U := .c (.bool (eqX (normsT a.1) (normsT a.2.1)))
noncomputable def spec177 : Fs U := fs args177 (fun a => [pre177 a]) res177
noncomputable def know177 : List (FuncId × Fs U) := [(114, spec114)]
def lv177 : Lives U := fun i => match i with
  | 0 => ([(0, []), (1, []), (2, [])], [])
  | 1 => ([(0, []), (1, []), (2, []), (14, [])], [])
  | 2 => ([(6, [])], [])
  | 3 => ([(1, []), (2, []), (15, []), (16, []), (17, [])], [])
  | 4 => ([(1, []), (2, []), (15, []), (16, []), (17, []), (18, [])], [])
  | 5 => ([(1, []), (2, []), (7, []), (8, []), (15, []), (16, []), (17, [])], [((.loc 8), [])])
  | 6 => ([(1, []), (2, []), (8, []), (9, []), (15, []), (16, []), (17, [])], [((.loc 8), []), ((.loc 9), [])])
  | 7 => ([(1, []), (2, []), (15, []), (16, []), (17, []), (30, [])], [])
  | 8 => ([(6, [])], [])
  | 9 => ([(1, []), (2, []), (15, []), (16, []), (17, [])], [])
  | 10 => ([(6, [])], [])
  | _ => ([], [])
def head177_0 (a : List Tree) (b : List Tree) (f : Unit) (x17 : Int) : LSt U := (⟨[(1, .c (.slice (U := U) .tree b .unk)), (2, .fn 114), (15, .c (.slice (U := U) .tree a .unk)), (16, .c (.int .i64 (a.length : Int))), (17, .c (.int .i64 x17))], [], []⟩ : LSt U)
abbrev W177 (a : List Tree) (b : List Tree) (f : Unit) (Q : AExit → LSt U → Prop) := awp cfg (know know177) (drawOk cfg (know know177)) Tryz.f177.ntmps lv177 (cd Tryz.f177 []) (⟨[(0, .c (.slice (U := U) .tree a .unk)), (1, .c (.slice (U := U) .tree b .unk)), (2, .fn 114)], [], []⟩ : LSt U) Q
abbrev a177_ZKG20d := awp cfg (know know177) (drawOk cfg (know know177)) Tryz.f177.ntmps lv177
abbrev s177_ZKG20d := seqK cfg (know know177) (drawOk cfg (know know177)) Tryz.f177.ntmps lv177
theorem vc177 (a : List Tree) (b : List Tree) (f : Unit) (Q : AExit → LSt U → Prop) (h : ((((a.length : Int) : Int) != (b.length : Int)) = true → Q .ret (⟨[(6, .c (.bool false))], [], []⟩ : LSt U)) ∧ ((((a.length : Int) : Int) != (b.length : Int)) = false → LoopWp (awp cfg (know know177) (drawOk cfg (know know177)) Tryz.f177.ntmps lv177 (cd Tryz.f177 [1, 1, 0, 1, 0, 0])) (head177_0 a b f 0) (AExit.inBlock 0 (seqK cfg (know know177) (drawOk cfg (know know177)) Tryz.f177.ntmps lv177 (cd Tryz.f177 [1, 1, 1]) Q)))) :
    W177 a b f Q := by
  have e_ : (W177 a b f Q) = ((((((a.length : Int) != (b.length : Int)) = true → (Q .ret (⟨[(6, .c (.bool false))], [], []⟩ : LSt U))) ∧ (((a.length : Int) != (b.length : Int)) = false → (LoopWp (a177_ZKG20d (cd Tryz.f177 [1, 1, 0, 1, 0, 0])) (head177_0 a b f 0) (AExit.inBlock 0 (s177_ZKG20d (cd Tryz.f177 [1, 1, 1]) Q))))))) := by kernel_rfl
  exact e_.mpr ⟨fun c_4 => (h.1 c_4), fun c_4 => (h.2 c_4)⟩
abbrev W177_l0 (a : List Tree) (b : List Tree) (f : Unit) (x17 : Int) (N0 : LSt U → Prop) (Q : AExit → LSt U → Prop) := awp cfg (know know177) (drawOk cfg (know know177)) Tryz.f177.ntmps lv177 (cd Tryz.f177 [1, 1, 0, 1, 0, 0]) (head177_0 a b f x17) (AExit.then N0 (AExit.inBlock 0 (seqK cfg (know know177) (drawOk cfg (know know177)) Tryz.f177.ntmps lv177 (cd Tryz.f177 [1, 1, 1]) Q)))
theorem vc177_l0 (a : List Tree) (b : List Tree) (f : Unit) (x17 : Int) (N0 : LSt U → Prop) (Q : AExit → LSt U → Prop) (h : ((decide ((x17 : Int) < (a.length : Int))) = true → ((0 : Int) ≤ x17 ∧ x17 < (a.length : Int)) ∧ (((0 : Int) ≤ x17 ∧ x17 < (b.length : Int)) ∧ ((pre114 ((Tree.mk (Tree.kind (List.getD a (Int.toNat x17) Tree.nil)) (Tree.words (List.getD a (Int.toNat x17) Tree.nil)) (Tree.kids (List.getD a (Int.toNat x17) Tree.nil))), (Tree.mk (Tree.kind (List.getD b (Int.toNat x17) Tree.nil)) (Tree.words (List.getD b (Int.toNat x17) Tree.nil)) (Tree.kids (List.getD b (Int.toNat x17) Tree.nil))), ())) ∧ (((!(sameT (normT (Tree.mk (Tree.kind (List.getD a (Int.toNat x17) Tree.nil)) (Tree.words (List.getD a (Int.toNat x17) Tree.nil)) (Tree.kids (List.getD a (Int.toNat x17) Tree.nil)))) (normT (Tree.mk (Tree.kind (List.getD b (Int.toNat x17) Tree.nil)) (Tree.words (List.getD b (Int.toNat x17) Tree.nil)) (Tree.kids (List.getD b (Int.toNat x17) Tree.nil)))))) = true → Q .ret (⟨[(6, .c (.bool false))], [], []⟩ : LSt U)) ∧ ((!(sameT (normT (Tree.mk (Tree.kind (List.getD a (Int.toNat x17) Tree.nil)) (Tree.words (List.getD a (Int.toNat x17) Tree.nil)) (Tree.kids (List.getD a (Int.toNat x17) Tree.nil)))) (normT (Tree.mk (Tree.kind (List.getD b (Int.toNat x17) Tree.nil)) (Tree.words (List.getD b (Int.toNat x17) Tree.nil)) (Tree.kids (List.getD b (Int.toNat x17) Tree.nil)))))) = false → (InR ((x17 : Int) + 1)) ∧ (N0 (head177_0 a b f ((x17 : Int) + 1)))))))) ∧ ((decide ((x17 : Int) < (a.length : Int))) = false → Q .ret (⟨[(6, .c (.bool true))], [], []⟩ : LSt U))) :
    W177_l0 a b f x17 N0 Q := by
  have e_ : (W177_l0 a b f x17 N0 Q) = (let zz0 := (!(sameT (normT (Tree.mk (Tree.kind (List.getD a (Int.toNat x17) Tree.nil)) (Tree.words (List.getD a (Int.toNat x17) Tree.nil)) (Tree.kids (List.getD a (Int.toNat x17) Tree.nil)))) (normT (Tree.mk (Tree.kind (List.getD b (Int.toNat x17) Tree.nil)) (Tree.words (List.getD b (Int.toNat x17) Tree.nil)) (Tree.kids (List.getD b (Int.toNat x17) Tree.nil)))))); (((decide ((x17 : Int) < (a.length : Int))) = true → ((0 : Int) ≤ x17 ∧ x17 < (a.length : Int)) ∧ (((0 : Int) ≤ x17 ∧ x17 < (b.length : Int)) ∧ ((pre114 ((Tree.mk (Tree.kind (List.getD a (Int.toNat x17) Tree.nil)) (Tree.words (List.getD a (Int.toNat x17) Tree.nil)) (Tree.kids (List.getD a (Int.toNat x17) Tree.nil))), (Tree.mk (Tree.kind (List.getD b (Int.toNat x17) Tree.nil)) (Tree.words (List.getD b (Int.toNat x17) Tree.nil)) (Tree.kids (List.getD b (Int.toNat x17) Tree.nil))), ())) ∧ ((zz0 = true → (Q .ret (⟨[(6, .c (.bool false))], [], []⟩ : LSt U))) ∧ (zz0 = false → (InR ((x17 : Int) + 1)) ∧ (N0 (head177_0 a b f ((x17 : Int) + 1)))))))) ∧ ((decide ((x17 : Int) < (a.length : Int))) = false → (Q .ret (⟨[(6, .c (.bool true))], [], []⟩ : LSt U))))) := by kernel_rfl
  exact e_.mpr ⟨fun c_5 => ⟨(h.1 c_5).1, ⟨(h.1 c_5).2.1, ⟨(h.1 c_5).2.2.1, ⟨fun c_6 => ((h.1 c_5).2.2.2.1 c_6), fun c_6 => ⟨((h.1 c_5).2.2.2.2 c_6).1, ((h.1 c_5).2.2.2.2 c_6).2⟩⟩⟩⟩⟩, fun c_5 => (h.2 c_5)⟩
def Body177 (a : List Tree) (b : List Tree) (f : Unit)  : Prop := awp cfg (know (know177)) (drawOk cfg (know (know177))) Tryz.f177.ntmps lv177 (cd Tryz.f177 []) (entry (args177.can (a, b, f, ())) []) (EndsQ cfg Tryz.f177.ntmps Tryz.f177.results.toList (res177 (a, b, f, ())) [])
theorem make177 (c114 : Contract Tryz.prog cfg 114 spec114) (hb : ∀ (a : List Tree) (b : List Tree) (f : Unit) (_ : Unit), pre177 (a, b, f, ()) → Body177 a b f) : Contract Tryz.prog cfg 177 spec177 :=
  contract_flat (l := [(114, spec114)]) cfgOk rfl (⟨c114, trivial⟩) lv177 Tryz.func177 rfl rfl 3 (fun _ => rfl) (by decide) (fun ⟨a, b, f, _⟩ => hb a b f ())
end
end Go.AM.YtpjenobkibfpcaaGreat

namespace Go.AM.YtpjenobkibfpcaaGreat
open Go.AM Go.Proofs
theorem c177 : Contract Tryz.prog cfg 177 spec177 := by
  refine make177 c114 ?_
  intro a b f _ hp
  simp only [pre177] at hp
  refine vc177 a b f _ ?_
  (simp only [vcS])
  refine ⟨fun hc => ends_bool rfl (eqX_no (a := normsT a) (b := normsT b) (fun h => hc (by have := congrArg List.length h; simp [normsT] at this; omega))).symm, fun hc => ?_⟩
  have hl : a.length = b.length := by omega
  have hla := massK_len a
  refine loop_rule (ι := Int) (fun i => head177_0 a b f i) (fun i => 0 ≤ i ∧ i ≤ a.length ∧ ∀ j : Nat, (j : Int) < i → normT (a.getD j Tree.nil) = normT (b.getD j Tree.nil)) (fun i => ((a.length : Int) - i).toNat) 0 rfl ⟨by omega, by omega, by intro j hj; omega⟩ ?_
  rintro i ⟨h1, h2, h3⟩
  refine vc177_l0 a b f _ _ _ ?_
  (simp only [vcS])
  (simp only [Tree.eta, Edit.eta, Tree.kind_mk, Tree.words_mk, Tree.kids_mk])
  refine ⟨fun hi => ⟨⟨h1, hi⟩, ⟨h1, by omega⟩, ?_, fun hq => ?_, fun hq => ⟨by unfold InR; omega, i + 1, rfl, ⟨by omega, by omega, ?_⟩, by omega⟩⟩, fun hi => ?_⟩
  · have := massK_mem (mem_getD (l := a) (i := i.toNat) (by omega) Tree.nil)
    have := massK_mem (mem_getD (l := b) (i := i.toNat) (by omega) Tree.nil)
    simp only [pre114]; omega
  · refine ends_bool rfl (eqX_no (a := normsT a) (b := normsT b) (fun h => ?_)).symm
    have h5 := getD_map_eq (d := Tree.nil) h i.toNat
    rw [sameT_false] at hq
    exact hq h5
  · intro j hj
    by_cases hj2 : (j : Int) < i
    · exact h3 j hj2
    · rw [sameT_true, show i.toNat = j by omega] at hq
      exact hq
  · exact ends_bool rfl (eqX_iff (a := normsT a) (b := normsT b).2 (map_eq_getD Tree.nil hl (fun j hj => h3 j (by omega)))).symm
end Go.AM.YtpjenobkibfpcaaGreat
