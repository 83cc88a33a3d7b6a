import Derived.Test.YtpjenobkibfpcaaKD20
import Derived.Test.YtpjenobkibfpcaaKRB07
set_option linter.unusedSimpArgs false
set_option linter.unusedVariables false
namespace Go.AM.Ytpjenobkibfpcaa
open Go.AM Go.Proofs
def args67 : ArgL (Int × Unit) := (.cons (aInt .u64) .nil)
def pre67 (a : Int × Unit) : Prop := 0 ≤ a.1 ∧ a.1 < 18446744073709551616
noncomputable def res67 (a : Int × Unit) : V U := .agg [.int .u8 (byteAt a.1 0), .int .u8 (byteAt a.1 1), .int .u8 (byteAt a.1 2), .int .u8 (byteAt a.1 3), .int .u8 (byteAt a.1 4), .int .u8 (byteAt a.1 5), .int .u8 (byteAt a.1 6), .int .u8 (byteAt a.1 7)]
noncomputable def spec67 : Fs U := fs args67 (fun a => [pre67 a]) res67
def args68 : ArgL (Int × Int × Unit) := (.cons (aInt .u8) (.cons (aInt .i64) .nil))
def pre68 (a : Int × Int × Unit) : Prop := (0 ≤ a.1 ∧ a.1 < 256) ∧ 0 ≤ a.2.1 ∧ a.2.1 ≤ 8
noncomputable def res68 (a : Int × Int × Unit) : V U := .c (.bool (named a.1 a.2.1))
noncomputable def spec68 : Fs U := fs args68 (fun a => [pre68 a]) res68
def args69 : ArgL (List Int × Int × Unit) := (.cons (aSl .u8) (.cons (aInt .i64) .nil))
def pre69 (a : List Int × Int × Unit) : Prop := a.2.1 = 0 ∧ a.1.length = 8 ∧ ∀ x ∈ a.1, 0 ≤ x ∧ x < 256
noncomputable def res69 (a : List Int × Int × Unit) : V U := .c (.int .u64 (of8 (fun i => a.1.getD i 0)))
noncomputable def spec69 : Fs U := fs args69 (fun a => [pre69 a]) res69
def args103 : ArgL (Int × Int × Int × Unit) := (.cons (aInt .u64) (.cons (aInt .u64) (.cons (aInt .u8) .nil)))
def pre103 (a : Int × Int × Int × Unit) : Prop := (0 ≤ a.1 ∧ a.1 < 18446744073709551616) ∧ (0 ≤ a.2.1 ∧ a.2.1 < 18446744073709551616) ∧ (0 ≤ a.2.2.1 ∧ a.2.2.1 < 256)
noncomputable def res103 (a : Int × Int × Int × Unit) : V U := .c (.int .u64 (mix a.1 a.2.1 a.2.2.1))
noncomputable def spec103 : Fs U := fs args103 (fun a => [pre103 a]) res103
def args62 : ArgL (Tree × Unit) := (.cons (aEl .tree) .nil)
def pre62 (a : Tree × Unit) : Prop := mass a.1 ≤ 20000000000
noncomputable def res62 (a : Tree × Unit) : V U := .c (.bool (noneT a.1))
noncomputable def spec62 : Fs U := fs args62 (fun a => [pre62 a]) res62
def args63 : ArgL (Int × Int × Unit) := (.cons (aInt .u64) (.cons (aInt .u8) .nil))
def pre63 (a : Int × Int × Unit) : Prop := (0 ≤ a.1 ∧ a.1 < 18446744073709551616) ∧ (0 ≤ a.2.1 ∧ a.2.1 < 256)
noncomputable def res63 (a : Int × Int × Unit) : V U := .c (.bool (withinW a.1 a.2.1))
noncomputable def spec63 : Fs U := fs args63 (fun a => [pre63 a]) res63
def args104 : ArgL (Edit × Unit) := (.cons (aEl .edit) .nil)
def pre104 (a : Edit × Unit) : Prop := massE a.1 ≤ 20000000000
noncomputable def res104 (a : Edit × Unit) : V U := .c (.bool (sameE a.1))
noncomputable def spec104 : Fs U := fs args104 (fun a => [pre104 a]) res104
def args65 : ArgL (Edit × Unit) := (.cons (aEl .edit) .nil)
def pre65 (a : Edit × Unit) : Prop := massE a.1 ≤ 20000000000 ∧ ∀ o ∈ Edit.ops a.1, 0 ≤ o.n ∧ o.n ≤ 1048576
noncomputable def res65 (a : Edit × Unit) : V U := .tup [(false, [.int .i64 (lenA (Edit.ops a.1) 0)]), (false, [.int .i64 (lenB (Edit.ops a.1) 0)])]
noncomputable def spec65 : Fs U := fs args65 (fun a => [pre65 a]) res65
def args90 : ArgL (Edit × Int × Int × Unit) := (.cons (aEl .edit) (.cons (aInt .i64) (.cons (aInt .i64) .nil)))
def pre90 (a : Edit × Int × Int × Unit) : Prop := smallE a.1 ∧ 0 ≤ a.2.1 ∧ a.2.1 ≤ 4611686018427387904 ∧ -1 ≤ a.2.2.1 ∧ a.2.2.1 ≤ 4611686018427387904
def mu90 (a : Edit × Int × Int × Unit) : Nat := massE a.1
noncomputable def res90 (a : Edit × Int × Int × Unit) : V U := .c (.int .i64 (leftE a.1 a.2.1 a.2.2.1))
noncomputable def spec90 : Fs U := fs args90 (fun a => [pre90 a]) res90
def args54 : ArgL (Edit × Unit) := (.cons (aEl .edit) .nil)
def pre54 (a : Edit × Unit) : Prop := smallE a.1
noncomputable def res54 (a : Edit × Unit) : V U := .c (.bool (decide (0 ≤ leftE a.1 80 3000)))
noncomputable def spec54 : Fs U := fs args54 (fun a => [pre54 a]) res54
noncomputable def know67 : List (FuncId × Fs U) := []
def lv67 : Lives U := fun i => match i with
  | 0 => ([(0, []), (2, [])], [((.loc 2), [])])
  | 1 => ([(0, []), (2, []), (3, [])], [((.loc 2), []), ((.loc 3), [])])
  | 2 => ([(0, []), (2, []), (3, []), (4, [])], [((.loc 2), []), ((.loc 3), [])])
  | 3 => ([(0, []), (2, []), (3, []), (4, []), (7, [])], [((.loc 2), []), ((.loc 3), [])])
  | 4 => ([(0, []), (2, []), (3, []), (4, [])], [((.loc 2), []), ((.loc 3), [])])
  | 5 => ([(0, []), (2, []), (3, []), (4, [])], [((.loc 2), []), ((.loc 3), [])])
  | 6 => ([(0, []), (2, []), (3, []), (4, [])], [((.loc 2), []), ((.loc 3), [])])
  | 7 => ([(2, [])], [((.loc 2), [])])
  | _ => ([], [])
noncomputable def head67_0 (w : Int) (x0 : Int) (x4 : Int) (ml3_0 : Int) (ml3_1 : Int) (ml3_2 : Int) (ml3_3 : Int) (ml3_4 : Int) (ml3_5 : Int) (ml3_6 : Int) (ml3_7 : Int) : LSt U := (⟨[(0, .c (.int .u64 x0)), (2, .ptr (.loc 2) 0), (3, .ptr (.loc 3) 0), (4, .c (.int .i64 x4))], [((.loc 2), [.int .u8 0, .int .u8 0, .int .u8 0, .int .u8 0, .int .u8 0, .int .u8 0, .int .u8 0, .int .u8 0]), ((.loc 3), [.int .u8 ml3_0, .int .u8 ml3_1, .int .u8 ml3_2, .int .u8 ml3_3, .int .u8 ml3_4, .int .u8 ml3_5, .int .u8 ml3_6, .int .u8 ml3_7])], []⟩ : LSt U)
noncomputable abbrev A67 (p : List Nat) := awp cfg (know know67) (drawOk cfg (know know67)) Try.f67.ntmps lv67 (cd Try.f67 p)
noncomputable abbrev S67 (p : List Nat) := seqK cfg (know know67) (drawOk cfg (know know67)) Try.f67.ntmps lv67 (cd Try.f67 p)
theorem vc67 (w : Int) (Q : AExit → LSt U → Prop) (h : (((LoopWp (A67 [1, 1, 0, 1, 0, 0]) (head67_0 w w 0 0 0 0 0 0 0 0 0) (AExit.inBlock 0 (S67 [1, 1, 1] Q)))))) :
    A67 [] (⟨[(0, .c (.int .u64 w))], [], []⟩ : LSt U) Q :=
  Eq.mpr (by kernel_rfl) h
theorem vc67_l0 (w : Int) (x0 : Int) (x4 : Int) (ml3_0 : Int) (ml3_1 : Int) (ml3_2 : Int) (ml3_3 : Int) (ml3_4 : Int) (ml3_5 : Int) (ml3_6 : Int) (ml3_7 : Int) (N0 : LSt U → Prop) (Q : AExit → LSt U → Prop) (h : (((decide ((x4 : Int) < 8)) = true → ((256 : Int) ≠ 0) ∧ ((0 : Int) ≤ x4 ∧ x4 < ((8 : Nat) : Int)) ∧ (((256 : Int) ≠ 0) ∧ ((InR ((x4 : Int) + 1)) ∧ (N0 (head67_0 w (IntKind.wrap .u64 (Int.tdiv x0 256)) ((x4 : Int) + 1) (aSet x4 0 (IntKind.wrap .u8 (Int.tmod x0 256)) ml3_0) (aSet x4 1 (IntKind.wrap .u8 (Int.tmod x0 256)) ml3_1) (aSet x4 2 (IntKind.wrap .u8 (Int.tmod x0 256)) ml3_2) (aSet x4 3 (IntKind.wrap .u8 (Int.tmod x0 256)) ml3_3) (aSet x4 4 (IntKind.wrap .u8 (Int.tmod x0 256)) ml3_4) (aSet x4 5 (IntKind.wrap .u8 (Int.tmod x0 256)) ml3_5) (aSet x4 6 (IntKind.wrap .u8 (Int.tmod x0 256)) ml3_6) (aSet x4 7 (IntKind.wrap .u8 (Int.tmod x0 256)) ml3_7)))))) ∧ ((decide ((x4 : Int) < 8)) = false → (Q .ret (⟨[(2, .ptr (.loc 2) 0)], [((.loc 2), [.int .u8 ml3_0, .int .u8 ml3_1, .int .u8 ml3_2, .int .u8 ml3_3, .int .u8 ml3_4, .int .u8 ml3_5, .int .u8 ml3_6, .int .u8 ml3_7])], []⟩ : LSt U))))) :
    A67 [1, 1, 0, 1, 0, 0] (head67_0 w x0 x4 ml3_0 ml3_1 ml3_2 ml3_3 ml3_4 ml3_5 ml3_6 ml3_7) (AExit.then N0 (AExit.inBlock 0 (S67 [1, 1, 1] Q))) :=
  Eq.mpr (by kernel_rfl) h
def Body67 (w : Int)  : Prop := awp cfg (know (know67)) (drawOk cfg (know (know67))) Try.f67.ntmps lv67 (cd Try.f67 []) (entry (args67.can (w, ())) []) (EndsQ cfg Try.f67.ntmps Try.f67.results.toList (res67 (w, ())) [])
theorem make67 (hb : ∀ (w : Int) (_ : Unit), pre67 (w, ()) → Body67 w) : Contract Try.prog cfg 67 spec67 :=
  contract_flat (l := []) cfgOk rfl (trivial) lv67 Try.func67 rfl rfl 1 (fun _ => rfl) (by decide) (fun ⟨w, _⟩ => hb w ())
noncomputable def know68 : List (FuncId × Fs U) := []
def lv68 : Lives U := fun i => match i with
  | 0 => ([(0, []), (1, [])], [])
  | 1 => ([(0, []), (1, []), (5, [])], [])
  | 2 => ([(0, []), (1, []), (5, []), (8, [])], [])
  | 3 => ([(0, []), (1, []), (5, [])], [])
  | 4 => ([(0, []), (1, []), (5, [])], [])
  | 5 => ([(4, [])], [])
  | _ => ([], [])
noncomputable def head68_0 (m : Int) (i : Int) (x0 : Int) (x5 : Int) : LSt U := (⟨[(0, .c (.int .u8 x0)), (1, .c (.int .i64 i)), (5, .c (.int .i64 x5))], [], []⟩ : LSt U)
noncomputable abbrev A68 (p : List Nat) := awp cfg (know know68) (drawOk cfg (know know68)) Try.f68.ntmps lv68 (cd Try.f68 p)
noncomputable abbrev S68 (p : List Nat) := seqK cfg (know know68) (drawOk cfg (know know68)) Try.f68.ntmps lv68 (cd Try.f68 p)
theorem vc68 (m : Int) (i : Int) (Q : AExit → LSt U → Prop) (h : ((LoopWp (A68 [1, 0, 1, 0, 0]) (head68_0 m i m 0) (AExit.inBlock 0 (S68 [1, 1] Q))))) :
    A68 [] (⟨[(0, .c (.int .u8 m)), (1, .c (.int .i64 i))], [], []⟩ : LSt U) Q :=
  Eq.mpr (by kernel_rfl) h
theorem vc68_l0 (m : Int) (i : Int) (x0 : Int) (x5 : Int) (N0 : LSt U → Prop) (Q : AExit → LSt U → Prop) (h : (((decide ((x5 : Int) < i)) = true → ((2 : Int) ≠ 0) ∧ ((InR ((x5 : Int) + 1)) ∧ (N0 (head68_0 m i (IntKind.wrap .u8 (Int.tdiv x0 2)) ((x5 : Int) + 1))))) ∧ ((decide ((x5 : Int) < i)) = false → ((2 : Int) ≠ 0) ∧ (Q .ret (⟨[(4, .c (.bool (((Int.tmod x0 2) : Int) == 1)))], [], []⟩ : LSt U))))) :
    A68 [1, 0, 1, 0, 0] (head68_0 m i x0 x5) (AExit.then N0 (AExit.inBlock 0 (S68 [1, 1] Q))) :=
  Eq.mpr (by kernel_rfl) h
def Body68 (m : Int) (i : Int)  : Prop := awp cfg (know (know68)) (drawOk cfg (know (know68))) Try.f68.ntmps lv68 (cd Try.f68 []) (entry (args68.can (m, i, ())) []) (EndsQ cfg Try.f68.ntmps Try.f68.results.toList (res68 (m, i, ())) [])
theorem make68 (hb : ∀ (m : Int) (i : Int) (_ : Unit), pre68 (m, i, ()) → Body68 m i) : Contract Try.prog cfg 68 spec68 :=
  contract_flat (l := []) cfgOk rfl (trivial) lv68 Try.func68 rfl rfl 2 (fun _ => rfl) (by decide) (fun ⟨m, i, _⟩ => hb m i ())
noncomputable def know69 : List (FuncId × Fs U) := []
def lv69 : Lives U := fun i => match i with
  | 0 => ([(0, []), (1, [])], [])
  | 1 => ([(0, []), (1, []), (5, [])], [])
  | 2 => ([(0, []), (1, []), (5, []), (6, [])], [])
  | 3 => ([(0, []), (1, []), (5, []), (6, []), (8, [])], [])
  | 4 => ([(0, []), (1, []), (5, []), (6, [])], [])
  | 5 => ([(0, []), (1, []), (5, []), (6, [])], [])
  | 6 => ([(4, [])], [])
  | _ => ([], [])
noncomputable def head69_0 (b : List Int) (from_ : Int) (x5 : Int) (x6 : Int) : LSt U := (⟨[(0, .c (.slice (U := U) .u8 b .unk)), (1, .c (.int .i64 from_)), (5, .c (.int .u64 x5)), (6, .c (.int .i64 x6))], [], []⟩ : LSt U)
noncomputable abbrev A69 (p : List Nat) := awp cfg (know know69) (drawOk cfg (know know69)) Try.f69.ntmps lv69 (cd Try.f69 p)
noncomputable abbrev S69 (p : List Nat) := seqK cfg (know know69) (drawOk cfg (know know69)) Try.f69.ntmps lv69 (cd Try.f69 p)
theorem vc69 (b : List Int) (from_ : Int) (Q : AExit → LSt U → Prop) (h : (((LoopWp (A69 [1, 1, 0, 1, 0, 0]) (head69_0 b from_ 0 7) (AExit.inBlock 0 (S69 [1, 1, 1] Q)))))) :
    A69 [] (⟨[(0, .c (.slice (U := U) .u8 b .unk)), (1, .c (.int .i64 from_))], [], []⟩ : LSt U) Q :=
  Eq.mpr (by kernel_rfl) h
theorem vc69_l0 (b : List Int) (from_ : Int) (x5 : Int) (x6 : Int) (N0 : LSt U → Prop) (Q : AExit → LSt U → Prop) (h : (((decide ((0 : Int) ≤ x6)) = true → (InR ((from_ : Int) + x6)) ∧ ((0 : Int) ≤ ((from_ : Int) + x6) ∧ ((from_ : Int) + x6) < (b.length : Int)) ∧ ((InR ((x6 : Int) - 1)) ∧ (N0 (head69_0 b from_ (IntKind.wrap .u64 (((IntKind.wrap .u64 ((x5 : Int) * 256)) : Int) + (IntKind.wrap .u64 (List.getD b (Int.toNat ((from_ : Int) + x6)) (0 : Int))))) ((x6 : Int) - 1))))) ∧ ((decide ((0 : Int) ≤ x6)) = false → (Q .ret (⟨[(4, .c (.int .u64 x5))], [], []⟩ : LSt U))))) :
    A69 [1, 1, 0, 1, 0, 0] (head69_0 b from_ x5 x6) (AExit.then N0 (AExit.inBlock 0 (S69 [1, 1, 1] Q))) :=
  Eq.mpr (by kernel_rfl) h
def Body69 (b : List Int) (from_ : Int)  : Prop := awp cfg (know (know69)) (drawOk cfg (know (know69))) Try.f69.ntmps lv69 (cd Try.f69 []) (entry (args69.can (b, from_, ())) []) (EndsQ cfg Try.f69.ntmps Try.f69.results.toList (res69 (b, from_, ())) [])
theorem make69 (hb : ∀ (b : List Int) (from_ : Int) (_ : Unit), pre69 (b, from_, ()) → Body69 b from_) : Contract Try.prog cfg 69 spec69 :=
  contract_flat (l := []) cfgOk rfl (trivial) lv69 Try.func69 rfl rfl 2 (fun _ => rfl) (by decide) (fun ⟨b, from_, _⟩ => hb b from_ ())
noncomputable def know103 : List (FuncId × Fs U) := [(67, spec67), (68, spec68), (69, spec69)]
def lv103 : Lives U := fun i => match i with
  | 0 => ([(0, []), (1, []), (2, [])], [])
  | 1 => ([(2, []), (7, []), (8, [])], [((.loc 7), []), ((.loc 8), [])])
  | 2 => ([(2, []), (7, []), (8, []), (9, [])], [((.loc 7), []), ((.loc 8), [])])
  | 3 => ([(2, []), (7, []), (8, []), (9, []), (15, [])], [((.loc 7), []), ((.loc 8), [])])
  | 4 => ([(2, []), (7, []), (8, []), (9, [])], [((.loc 7), []), ((.loc 8), [])])
  | 5 => ([(2, []), (7, []), (8, []), (9, []), (20, [])], [((.loc 7), []), ((.loc 8), [])])
  | 6 => ([(2, []), (7, []), (8, []), (9, [])], [((.loc 7), []), ((.loc 8), [])])
  | 7 => ([(6, [])], [])
  | _ => ([], [])
noncomputable def head103_0 (a : Int) (b : Int) (m : Int) (x9 : Int) (ml7_0 : Int) (ml7_1 : Int) (ml7_2 : Int) (ml7_3 : Int) (ml7_4 : Int) (ml7_5 : Int) (ml7_6 : Int) (ml7_7 : Int) : LSt U := (⟨[(2, .c (.int .u8 m)), (7, .ptr (.loc 7) 0), (8, .ptr (.loc 8) 0), (9, .c (.int .i64 x9))], [((.loc 7), [.int .u8 ml7_0, .int .u8 ml7_1, .int .u8 ml7_2, .int .u8 ml7_3, .int .u8 ml7_4, .int .u8 ml7_5, .int .u8 ml7_6, .int .u8 ml7_7]), ((.loc 8), [.int .u8 (byteAt b 0), .int .u8 (byteAt b 1), .int .u8 (byteAt b 2), .int .u8 (byteAt b 3), .int .u8 (byteAt b 4), .int .u8 (byteAt b 5), .int .u8 (byteAt b 6), .int .u8 (byteAt b 7)])], []⟩ : LSt U)
noncomputable abbrev A103 (p : List Nat) := awp cfg (know know103) (drawOk cfg (know know103)) Try.f103.ntmps lv103 (cd Try.f103 p)
noncomputable abbrev S103 (p : List Nat) := seqK cfg (know know103) (drawOk cfg (know know103)) Try.f103.ntmps lv103 (cd Try.f103 p)
theorem vc103 (a : Int) (b : Int) (m : Int) (Q : AExit → LSt U → Prop) (h : ((pre67 (a, ())) ∧ (pre67 (b, ())) ∧ ((LoopWp (A103 [1, 1, 0, 1, 0, 0]) (head103_0 a b m 0 (byteAt a 0) (byteAt a 1) (byteAt a 2) (byteAt a 3) (byteAt a 4) (byteAt a 5) (byteAt a 6) (byteAt a 7)) (AExit.inBlock 0 (S103 [1, 1, 1] Q)))))) :
    A103 [] (⟨[(0, .c (.int .u64 a)), (1, .c (.int .u64 b)), (2, .c (.int .u8 m))], [], []⟩ : LSt U) Q :=
  Eq.mpr (by kernel_rfl) h
theorem vc103_l0 (a : Int) (b : Int) (m : Int) (x9 : Int) (ml7_0 : Int) (ml7_1 : Int) (ml7_2 : Int) (ml7_3 : Int) (ml7_4 : Int) (ml7_5 : Int) (ml7_6 : Int) (ml7_7 : Int) (N0 : LSt U → Prop) (Q : AExit → LSt U → Prop) (h : (((decide ((x9 : Int) < 8)) = true → (pre68 (m, x9, ())) ∧ (((named m x9) = true → ((0 : Int) ≤ x9 ∧ x9 < ((8 : Nat) : Int)) ∧ ((0 : Int) ≤ x9 ∧ x9 < ((8 : Nat) : Int)) ∧ ((InR ((x9 : Int) + 1)) ∧ (N0 (head103_0 a b m ((x9 : Int) + 1) (aSet x9 0 (List.getD [byteAt b 0, byteAt b 1, byteAt b 2, byteAt b 3, byteAt b 4, byteAt b 5, byteAt b 6, byteAt b 7] (Int.toNat x9) 0) ml7_0) (aSet x9 1 (List.getD [byteAt b 0, byteAt b 1, byteAt b 2, byteAt b 3, byteAt b 4, byteAt b 5, byteAt b 6, byteAt b 7] (Int.toNat x9) 0) ml7_1) (aSet x9 2 (List.getD [byteAt b 0, byteAt b 1, byteAt b 2, byteAt b 3, byteAt b 4, byteAt b 5, byteAt b 6, byteAt b 7] (Int.toNat x9) 0) ml7_2) (aSet x9 3 (List.getD [byteAt b 0, byteAt b 1, byteAt b 2, byteAt b 3, byteAt b 4, byteAt b 5, byteAt b 6, byteAt b 7] (Int.toNat x9) 0) ml7_3) (aSet x9 4 (List.getD [byteAt b 0, byteAt b 1, byteAt b 2, byteAt b 3, byteAt b 4, byteAt b 5, byteAt b 6, byteAt b 7] (Int.toNat x9) 0) ml7_4) (aSet x9 5 (List.getD [byteAt b 0, byteAt b 1, byteAt b 2, byteAt b 3, byteAt b 4, byteAt b 5, byteAt b 6, byteAt b 7] (Int.toNat x9) 0) ml7_5) (aSet x9 6 (List.getD [byteAt b 0, byteAt b 1, byteAt b 2, byteAt b 3, byteAt b 4, byteAt b 5, byteAt b 6, byteAt b 7] (Int.toNat x9) 0) ml7_6) (aSet x9 7 (List.getD [byteAt b 0, byteAt b 1, byteAt b 2, byteAt b 3, byteAt b 4, byteAt b 5, byteAt b 6, byteAt b 7] (Int.toNat x9) 0) ml7_7))))) ∧ ((named m x9) = false → (InR ((x9 : Int) + 1)) ∧ (N0 (head103_0 a b m ((x9 : Int) + 1) ml7_0 ml7_1 ml7_2 ml7_3 ml7_4 ml7_5 ml7_6 ml7_7))))) ∧ ((decide ((x9 : Int) < 8)) = false → (pre69 (([ml7_0, ml7_1, ml7_2, ml7_3, ml7_4, ml7_5, ml7_6, ml7_7]), 0, ())) ∧ (Q .ret (⟨[(6, .c (.int .u64 (of8 (fun i => ([ml7_0, ml7_1, ml7_2, ml7_3, ml7_4, ml7_5, ml7_6, ml7_7]).getD i 0))))], [], []⟩ : LSt U))))) :
    A103 [1, 1, 0, 1, 0, 0] (head103_0 a b m x9 ml7_0 ml7_1 ml7_2 ml7_3 ml7_4 ml7_5 ml7_6 ml7_7) (AExit.then N0 (AExit.inBlock 0 (S103 [1, 1, 1] Q))) :=
  Eq.mpr (by kernel_rfl) h
def Body103 (a : Int) (b : Int) (m : Int)  : Prop := awp cfg (know (know103)) (drawOk cfg (know (know103))) Try.f103.ntmps lv103 (cd Try.f103 []) (entry (args103.can (a, b, m, ())) []) (EndsQ cfg Try.f103.ntmps Try.f103.results.toList (res103 (a, b, m, ())) [])
theorem make103 (c67 : Contract Try.prog cfg 67 spec67) (c68 : Contract Try.prog cfg 68 spec68) (c69 : Contract Try.prog cfg 69 spec69) (hb : ∀ (a : Int) (b : Int) (m : Int) (_ : Unit), pre103 (a, b, m, ()) → Body103 a b m) : Contract Try.prog cfg 103 spec103 :=
  contract_flat (l := [(67, spec67), (68, spec68), (69, spec69)]) cfgOk rfl (⟨c67, c68, c69, trivial⟩) lv103 Try.func103 rfl rfl 3 (fun _ => rfl) (by decide) (fun ⟨a, b, m, _⟩ => hb a b m ())
noncomputable def know62 : List (FuncId × Fs U) := []
def lv62 : Lives U := fun i => match i with
  | 0 => ([(1, [])], [((.loc 1), [])])
  | 1 => ([(2, [])], [])
  | _ => ([], [])
noncomputable abbrev A62 (p : List Nat) := awp cfg (know know62) (drawOk cfg (know know62)) Try.f62.ntmps lv62 (cd Try.f62 p)
theorem vc62 (t : Tree) (Q : AExit → LSt U → Prop) (h : ((Tr ((((Tree.kind t) : Int) == 0) = true)) ∧ (Tr ((((Tree.kind t) : Int) == 0) = true)) ∧ (Tr ((((Tree.kind t) : Int) == 0) = true)) ∧ (Tr ((((Tree.kind t) : Int) == 0) = true)) ∧ (Tr ((((Tree.kind t) : Int) == 0) = true)) ∧ (Tr ((((Tree.kind t) : Int) == 0) = true)) ∧ ((((Tree.kind t) : Int) == 0) = true → InR ((((Tree.words t).length : Int) : Int) + ((Tree.kids t).length : Int))) ∧ (Tr ((((Tree.kind t) : Int) == 0) = true)) ∧ ((Tr ((((Tree.kind t) : Int) == 0) = true))) ∧ (Q .ret (⟨[(2, .c (.bool (bif (((Tree.kind t) : Int) == 0) then ((((((Tree.words t).length : Int) : Int) + ((Tree.kids t).length : Int)) : Int) == 0) else false)))], [], []⟩ : LSt U)))) :
    A62 [] (⟨[(0, .agg [.int .i64 (Tree.kind t), .slice (U := U) .u64 (Tree.words t) .unk, .slice (U := U) .tree (Tree.kids t) .unk])], [], []⟩ : LSt U) Q :=
  Eq.mpr (by kernel_rfl) h
def Body62 (t : Tree)  : Prop := awp cfg (know (know62)) (drawOk cfg (know (know62))) Try.f62.ntmps lv62 (cd Try.f62 []) (entry (args62.can (t, ())) []) (EndsQ cfg Try.f62.ntmps Try.f62.results.toList (res62 (t, ())) [])
theorem make62 (hb : ∀ (t : Tree) (_ : Unit), pre62 (t, ()) → Body62 t) : Contract Try.prog cfg 62 spec62 :=
  contract_flat (l := []) cfgOk rfl (trivial) lv62 Try.func62 rfl rfl 1 (fun _ => rfl) (by decide) (fun ⟨t, _⟩ => hb t ())
noncomputable def know63 : List (FuncId × Fs U) := [(103, spec103)]
def lv63 : Lives U := fun i => match i with
  | 0 => ([(0, []), (1, [])], [])
  | 1 => ([(4, [])], [])
  | _ => ([], [])
noncomputable abbrev A63 (p : List Nat) := awp cfg (know know63) (drawOk cfg (know know63)) Try.f63.ntmps lv63 (cd Try.f63 p)
theorem vc63 (w : Int) (m : Int) (Q : AExit → LSt U → Prop) (h : ((pre103 (w, 0, m, ())) ∧ (Q .ret (⟨[(4, .c (.bool (((mix w 0 m) : Int) == 0)))], [], []⟩ : LSt U)))) :
    A63 [] (⟨[(0, .c (.int .u64 w)), (1, .c (.int .u8 m))], [], []⟩ : LSt U) Q :=
  Eq.mpr (by kernel_rfl) h
def Body63 (w : Int) (m : Int)  : Prop := awp cfg (know (know63)) (drawOk cfg (know (know63))) Try.f63.ntmps lv63 (cd Try.f63 []) (entry (args63.can (w, m, ())) []) (EndsQ cfg Try.f63.ntmps Try.f63.results.toList (res63 (w, m, ())) [])
theorem make63 (c103 : Contract Try.prog cfg 103 spec103) (hb : ∀ (w : Int) (m : Int) (_ : Unit), pre63 (w, m, ()) → Body63 w m) : Contract Try.prog cfg 63 spec63 :=
  contract_flat (l := [(103, spec103)]) cfgOk rfl (⟨c103, trivial⟩) lv63 Try.func63 rfl rfl 2 (fun _ => rfl) (by decide) (fun ⟨w, m, _⟩ => hb w m ())
noncomputable def know104 : List (FuncId × Fs U) := [(62, spec62)]
def lv104 : Lives U := fun i => match i with
  | 0 => ([(1, [])], [((.loc 1), [])])
  | 1 => ([(2, [])], [])
  | _ => ([], [])
noncomputable abbrev A104 (p : List Nat) := awp cfg (know know104) (drawOk cfg (know know104)) Try.f104.ntmps lv104 (cd Try.f104 p)
theorem vc104 (e : Edit) (Q : AExit → LSt U → Prop) (h : ∀ y_1, y_1 = ((Edit.new e)) → ∀ y_2, y_2 = ((Edit.old e)) → ((Tr ((((Edit.kind e) : Int) == 0) = true)) ∧ (Tr ((((Edit.kind e) : Int) == 0) = true)) ∧ ((((Edit.kind e) : Int) == 0) = true → pre62 (y_2, ())) ∧ ((Tr ((((Edit.kind e) : Int) == 0) = true))) ∧ (Tr ((bif (((Edit.kind e) : Int) == 0) then (noneT y_2) else false) = true)) ∧ (Tr ((bif (((Edit.kind e) : Int) == 0) then (noneT y_2) else false) = true)) ∧ ((bif (((Edit.kind e) : Int) == 0) then (noneT y_2) else false) = true → pre62 (y_1, ())) ∧ ((Tr ((bif (((Edit.kind e) : Int) == 0) then (noneT y_2) else false) = true))) ∧ (Tr ((bif (bif (((Edit.kind e) : Int) == 0) then (noneT y_2) else false) then (noneT y_1) else false) = true)) ∧ (Tr ((bif (bif (((Edit.kind e) : Int) == 0) then (noneT y_2) else false) then (noneT y_1) else false) = true)) ∧ (Tr ((bif (bif (((Edit.kind e) : Int) == 0) then (noneT y_2) else false) then (noneT y_1) else false) = true)) ∧ (Tr ((bif (bif (((Edit.kind e) : Int) == 0) then (noneT y_2) else false) then (noneT y_1) else false) = true)) ∧ (Tr ((bif (bif (((Edit.kind e) : Int) == 0) then (noneT y_2) else false) then (noneT y_1) else false) = true)) ∧ (Tr ((bif (bif (((Edit.kind e) : Int) == 0) then (noneT y_2) else false) then (noneT y_1) else false) = true)) ∧ ((bif (bif (((Edit.kind e) : Int) == 0) then (noneT y_2) else false) then (noneT y_1) else false) = true → InR ((((Edit.words e).length : Int) : Int) + ((Edit.kids e).length : Int))) ∧ (Tr ((bif (bif (((Edit.kind e) : Int) == 0) then (noneT y_2) else false) then (noneT y_1) else false) = true)) ∧ (Tr ((bif (bif (((Edit.kind e) : Int) == 0) then (noneT y_2) else false) then (noneT y_1) else false) = true)) ∧ (Tr ((bif (bif (((Edit.kind e) : Int) == 0) then (noneT y_2) else false) then (noneT y_1) else false) = true)) ∧ (Tr ((bif (bif (((Edit.kind e) : Int) == 0) then (noneT y_2) else false) then (noneT y_1) else false) = true)) ∧ ((bif (bif (((Edit.kind e) : Int) == 0) then (noneT y_2) else false) then (noneT y_1) else false) = true → InR ((((((Edit.words e).length : Int) : Int) + ((Edit.kids e).length : Int)) : Int) + ((Edit.ops e).length : Int))) ∧ (Tr ((bif (bif (((Edit.kind e) : Int) == 0) then (noneT y_2) else false) then (noneT y_1) else false) = true)) ∧ ((Tr ((bif (bif (((Edit.kind e) : Int) == 0) then (noneT y_2) else false) then (noneT y_1) else false) = true))) ∧ (Tr ((bif (bif (bif (((Edit.kind e) : Int) == 0) then (noneT y_2) else false) then (noneT y_1) else false) then ((((((((Edit.words e).length : Int) : Int) + ((Edit.kids e).length : Int)) : Int) + ((Edit.ops e).length : Int)) : Int) == 0) else false) = true)) ∧ (Tr ((bif (bif (bif (((Edit.kind e) : Int) == 0) then (noneT y_2) else false) then (noneT y_1) else false) then ((((((((Edit.words e).length : Int) : Int) + ((Edit.kids e).length : Int)) : Int) + ((Edit.ops e).length : Int)) : Int) == 0) else false) = true)) ∧ ((Tr ((bif (bif (bif (((Edit.kind e) : Int) == 0) then (noneT y_2) else false) then (noneT y_1) else false) then ((((((((Edit.words e).length : Int) : Int) + ((Edit.kids e).length : Int)) : Int) + ((Edit.ops e).length : Int)) : Int) == 0) else false) = true))) ∧ (Q .ret (⟨[(2, .c (.bool (bif (bif (bif (bif (((Edit.kind e) : Int) == 0) then (noneT y_2) else false) then (noneT y_1) else false) then ((((((((Edit.words e).length : Int) : Int) + ((Edit.kids e).length : Int)) : Int) + ((Edit.ops e).length : Int)) : Int) == 0) else false) then (((Edit.list e) : Int) == 0) else false)))], [], []⟩ : LSt U)))) :
    A104 [] (⟨[(0, .agg [.int .i64 (Edit.kind e), .int .i64 (Tree.kind (Edit.old e)), .slice (U := U) .u64 (Tree.words (Edit.old e)) .unk, .slice (U := U) .tree (Tree.kids (Edit.old e)) .unk, .int .i64 (Tree.kind (Edit.new e)), .slice (U := U) .u64 (Tree.words (Edit.new e)) .unk, .slice (U := U) .tree (Tree.kids (Edit.new e)) .unk, .slice (U := U) .wedit (Edit.words e) .unk, .slice (U := U) .kid (Edit.kids e) .unk, .int .i64 (Edit.list e), .slice (U := U) .op (Edit.ops e) .unk])], [], []⟩ : LSt U) Q :=
  Eq.mpr (by kernel_rfl) (h _ (reTree_eq _) _ (reTree_eq _))
def Body104 (e : Edit)  : Prop := awp cfg (know (know104)) (drawOk cfg (know (know104))) Try.f104.ntmps lv104 (cd Try.f104 []) (entry (args104.can (e, ())) []) (EndsQ cfg Try.f104.ntmps Try.f104.results.toList (res104 (e, ())) [])
theorem make104 (c62 : Contract Try.prog cfg 62 spec62) (hb : ∀ (e : Edit) (_ : Unit), pre104 (e, ()) → Body104 e) : Contract Try.prog cfg 104 spec104 :=
  contract_flat (l := [(62, spec62)]) cfgOk rfl (⟨c62, trivial⟩) lv104 Try.func104 rfl rfl 1 (fun _ => rfl) (by decide) (fun ⟨e, _⟩ => hb e ())
noncomputable def know65 : List (FuncId × Fs U) := []
def lv65 : Lives U := fun i => match i with
  | 0 => ([(1, [])], [((.loc 1), [])])
  | 1 => ([(1, []), (4, []), (5, [])], [((.loc 1), [])])
  | 2 => ([(1, []), (4, []), (5, []), (6, [])], [((.loc 1), [])])
  | 3 => ([(1, []), (4, []), (5, []), (6, []), (13, [])], [((.loc 1), [])])
  | 4 => ([(1, []), (4, []), (5, []), (6, [])], [((.loc 1), [])])
  | 5 => ([(1, []), (4, []), (5, []), (6, []), (7, [])], [((.loc 1), []), ((.loc 7), [])])
  | 6 => ([(1, []), (4, []), (5, []), (6, []), (7, []), (8, [])], [((.loc 1), []), ((.loc 7), [])])
  | 7 => ([(1, []), (4, []), (5, []), (6, []), (7, []), (8, []), (29, [])], [((.loc 1), []), ((.loc 7), [])])
  | 8 => ([(1, []), (4, []), (5, []), (6, []), (7, []), (8, []), (29, [])], [((.loc 1), []), ((.loc 7), [])])
  | 9 => ([(1, []), (4, []), (5, []), (6, []), (7, []), (8, []), (32, [])], [((.loc 1), []), ((.loc 7), [])])
  | 10 => ([(1, []), (4, []), (5, []), (6, []), (7, []), (8, []), (32, [])], [((.loc 1), []), ((.loc 7), [])])
  | 11 => ([(1, []), (4, []), (5, []), (6, []), (8, []), (38, [])], [((.loc 1), [])])
  | 12 => ([(1, []), (4, []), (5, []), (6, []), (8, []), (38, [])], [((.loc 1), [])])
  | 13 => ([(1, []), (4, []), (5, []), (6, []), (43, [])], [((.loc 1), [])])
  | 14 => ([(1, []), (4, []), (5, []), (6, []), (43, [])], [((.loc 1), [])])
  | 15 => ([(1, []), (4, []), (5, []), (6, []), (45, [])], [((.loc 1), [])])
  | 16 => ([(1, []), (4, []), (5, []), (6, [])], [((.loc 1), [])])
  | 17 => ([(2, []), (3, [])], [])
  | _ => ([], [])
noncomputable def head65_0 (e : Edit) (x4 : Int) (x5 : Int) (x6 : Int) : LSt U := (⟨[(1, .ptr (.loc 1) 0), (4, .c (.int .i64 x4)), (5, .c (.int .i64 x5)), (6, .c (.int .i64 x6))], [((.loc 1), [.int .i64 (Edit.kind e), .int .i64 (Tree.kind (Edit.old e)), .slice (U := U) .u64 (Tree.words (Edit.old e)) .unk, .slice (U := U) .tree (Tree.kids (Edit.old e)) .unk, .int .i64 (Tree.kind (Edit.new e)), .slice (U := U) .u64 (Tree.words (Edit.new e)) .unk, .slice (U := U) .tree (Tree.kids (Edit.new e)) .unk, .slice (U := U) .wedit (Edit.words e) .unk, .slice (U := U) .kid (Edit.kids e) .unk, .int .i64 (Edit.list e), .slice (U := U) .op (Edit.ops e) .unk])], []⟩ : LSt U)
noncomputable def head65_1 (e : Edit) (x4 : Int) (x5 : Int) (x6 : Int) (x8_a : Int) : LSt U := (⟨[(1, .ptr (.loc 1) 0), (4, .c (.int .i64 x4)), (5, .c (.int .i64 x5)), (6, .c (.int .i64 x6)), (7, .ptr (.loc 7) 0), (8, .c (.int .i64 x8_a)), (29, .c (.bool (((OpOf.kind (List.getD (Edit.ops e) (Int.toNat x6) Op.nil)) : Int) == 3)))], [((.loc 1), [.int .i64 (Edit.kind e), .int .i64 (Tree.kind (Edit.old e)), .slice (U := U) .u64 (Tree.words (Edit.old e)) .unk, .slice (U := U) .tree (Tree.kids (Edit.old e)) .unk, .int .i64 (Tree.kind (Edit.new e)), .slice (U := U) .u64 (Tree.words (Edit.new e)) .unk, .slice (U := U) .tree (Tree.kids (Edit.new e)) .unk, .slice (U := U) .wedit (Edit.words e) .unk, .slice (U := U) .kid (Edit.kids e) .unk, .int .i64 (Edit.list e), .slice (U := U) .op (Edit.ops e) .unk]), ((.loc 7), [.int .i64 (OpOf.kind (List.getD (Edit.ops e) (Int.toNat x6) Op.nil)), .int .i64 (OpOf.n (List.getD (Edit.ops e) (Int.toNat x6) Op.nil)), .slice (U := U) .tree (OpOf.l (List.getD (Edit.ops e) (Int.toNat x6) Op.nil)) .unk, .int .i64 (Edit.kind (OpOf.e (List.getD (Edit.ops e) (Int.toNat x6) Op.nil))), .int .i64 (Tree.kind (Edit.old (OpOf.e (List.getD (Edit.ops e) (Int.toNat x6) Op.nil)))), .slice (U := U) .u64 (Tree.words (Edit.old (OpOf.e (List.getD (Edit.ops e) (Int.toNat x6) Op.nil)))) .unk, .slice (U := U) .tree (Tree.kids (Edit.old (OpOf.e (List.getD (Edit.ops e) (Int.toNat x6) Op.nil)))) .unk, .int .i64 (Tree.kind (Edit.new (OpOf.e (List.getD (Edit.ops e) (Int.toNat x6) Op.nil)))), .slice (U := U) .u64 (Tree.words (Edit.new (OpOf.e (List.getD (Edit.ops e) (Int.toNat x6) Op.nil)))) .unk, .slice (U := U) .tree (Tree.kids (Edit.new (OpOf.e (List.getD (Edit.ops e) (Int.toNat x6) Op.nil)))) .unk, .slice (U := U) .wedit (Edit.words (OpOf.e (List.getD (Edit.ops e) (Int.toNat x6) Op.nil))) .unk, .slice (U := U) .kid (Edit.kids (OpOf.e (List.getD (Edit.ops e) (Int.toNat x6) Op.nil))) .unk, .int .i64 (Edit.list (OpOf.e (List.getD (Edit.ops e) (Int.toNat x6) Op.nil))), .slice (U := U) .op (Edit.ops (OpOf.e (List.getD (Edit.ops e) (Int.toNat x6) Op.nil))) .unk])], []⟩ : LSt U)
noncomputable def head65_2 (e : Edit) (x5 : Int) (x6 : Int) (x8_a : Int) (x4_b : Int) : LSt U := (⟨[(1, .ptr (.loc 1) 0), (4, .c (.int .i64 x4_b)), (5, .c (.int .i64 x5)), (6, .c (.int .i64 x6)), (7, .ptr (.loc 7) 0), (8, .c (.int .i64 x8_a)), (32, .c (.bool (((OpOf.kind (List.getD (Edit.ops e) (Int.toNat x6) Op.nil)) : Int) != 2)))], [((.loc 1), [.int .i64 (Edit.kind e), .int .i64 (Tree.kind (Edit.old e)), .slice (U := U) .u64 (Tree.words (Edit.old e)) .unk, .slice (U := U) .tree (Tree.kids (Edit.old e)) .unk, .int .i64 (Tree.kind (Edit.new e)), .slice (U := U) .u64 (Tree.words (Edit.new e)) .unk, .slice (U := U) .tree (Tree.kids (Edit.new e)) .unk, .slice (U := U) .wedit (Edit.words e) .unk, .slice (U := U) .kid (Edit.kids e) .unk, .int .i64 (Edit.list e), .slice (U := U) .op (Edit.ops e) .unk]), ((.loc 7), [.int .i64 (OpOf.kind (List.getD (Edit.ops e) (Int.toNat x6) Op.nil)), .int .i64 (OpOf.n (List.getD (Edit.ops e) (Int.toNat x6) Op.nil)), .slice (U := U) .tree (OpOf.l (List.getD (Edit.ops e) (Int.toNat x6) Op.nil)) .unk, .int .i64 (Edit.kind (OpOf.e (List.getD (Edit.ops e) (Int.toNat x6) Op.nil))), .int .i64 (Tree.kind (Edit.old (OpOf.e (List.getD (Edit.ops e) (Int.toNat x6) Op.nil)))), .slice (U := U) .u64 (Tree.words (Edit.old (OpOf.e (List.getD (Edit.ops e) (Int.toNat x6) Op.nil)))) .unk, .slice (U := U) .tree (Tree.kids (Edit.old (OpOf.e (List.getD (Edit.ops e) (Int.toNat x6) Op.nil)))) .unk, .int .i64 (Tree.kind (Edit.new (OpOf.e (List.getD (Edit.ops e) (Int.toNat x6) Op.nil)))), .slice (U := U) .u64 (Tree.words (Edit.new (OpOf.e (List.getD (Edit.ops e) (Int.toNat x6) Op.nil)))) .unk, .slice (U := U) .tree (Tree.kids (Edit.new (OpOf.e (List.getD (Edit.ops e) (Int.toNat x6) Op.nil)))) .unk, .slice (U := U) .wedit (Edit.words (OpOf.e (List.getD (Edit.ops e) (Int.toNat x6) Op.nil))) .unk, .slice (U := U) .kid (Edit.kids (OpOf.e (List.getD (Edit.ops e) (Int.toNat x6) Op.nil))) .unk, .int .i64 (Edit.list (OpOf.e (List.getD (Edit.ops e) (Int.toNat x6) Op.nil))), .slice (U := U) .op (Edit.ops (OpOf.e (List.getD (Edit.ops e) (Int.toNat x6) Op.nil))) .unk])], []⟩ : LSt U)
noncomputable def head65_3 (e : Edit) (x6 : Int) (x8_a : Int) (x4_b : Int) (x5_c : Int) : LSt U := (⟨[(1, .ptr (.loc 1) 0), (4, .c (.int .i64 x4_b)), (5, .c (.int .i64 x5_c)), (6, .c (.int .i64 x6)), (8, .c (.int .i64 x8_a)), (38, .c (.bool (((OpOf.kind (List.getD (Edit.ops e) (Int.toNat x6) Op.nil)) : Int) != 1)))], [((.loc 1), [.int .i64 (Edit.kind e), .int .i64 (Tree.kind (Edit.old e)), .slice (U := U) .u64 (Tree.words (Edit.old e)) .unk, .slice (U := U) .tree (Tree.kids (Edit.old e)) .unk, .int .i64 (Tree.kind (Edit.new e)), .slice (U := U) .u64 (Tree.words (Edit.new e)) .unk, .slice (U := U) .tree (Tree.kids (Edit.new e)) .unk, .slice (U := U) .wedit (Edit.words e) .unk, .slice (U := U) .kid (Edit.kids e) .unk, .int .i64 (Edit.list e), .slice (U := U) .op (Edit.ops e) .unk])], []⟩ : LSt U)
noncomputable def head65_4 (e : Edit) (x6 : Int) (x4_b : Int) (x5_c : Int) (x4_d : Int) : LSt U := (⟨[(1, .ptr (.loc 1) 0), (4, .c (.int .i64 x4_d)), (5, .c (.int .i64 x5_c)), (6, .c (.int .i64 x6)), (43, .c (.bool (decide ((1048576 : Int) < x4_b))))], [((.loc 1), [.int .i64 (Edit.kind e), .int .i64 (Tree.kind (Edit.old e)), .slice (U := U) .u64 (Tree.words (Edit.old e)) .unk, .slice (U := U) .tree (Tree.kids (Edit.old e)) .unk, .int .i64 (Tree.kind (Edit.new e)), .slice (U := U) .u64 (Tree.words (Edit.new e)) .unk, .slice (U := U) .tree (Tree.kids (Edit.new e)) .unk, .slice (U := U) .wedit (Edit.words e) .unk, .slice (U := U) .kid (Edit.kids e) .unk, .int .i64 (Edit.list e), .slice (U := U) .op (Edit.ops e) .unk])], []⟩ : LSt U)
noncomputable abbrev A65 (p : List Nat) := awp cfg (know know65) (drawOk cfg (know know65)) Try.f65.ntmps lv65 (cd Try.f65 p)
noncomputable abbrev S65 (p : List Nat) := seqK cfg (know know65) (drawOk cfg (know know65)) Try.f65.ntmps lv65 (cd Try.f65 p)
theorem vc65 (e : Edit) (Q : AExit → LSt U → Prop) (h : (((LoopWp (A65 [1, 1, 0, 1, 0, 0]) (head65_0 e 0 0 0) (AExit.inBlock 0 (S65 [1, 1, 1] Q)))))) :
    A65 [] (⟨[(0, .agg [.int .i64 (Edit.kind e), .int .i64 (Tree.kind (Edit.old e)), .slice (U := U) .u64 (Tree.words (Edit.old e)) .unk, .slice (U := U) .tree (Tree.kids (Edit.old e)) .unk, .int .i64 (Tree.kind (Edit.new e)), .slice (U := U) .u64 (Tree.words (Edit.new e)) .unk, .slice (U := U) .tree (Tree.kids (Edit.new e)) .unk, .slice (U := U) .wedit (Edit.words e) .unk, .slice (U := U) .kid (Edit.kids e) .unk, .int .i64 (Edit.list e), .slice (U := U) .op (Edit.ops e) .unk])], [], []⟩ : LSt U) Q :=
  Eq.mpr (by kernel_rfl) h
abbrev W65_l0 (e : Edit) (x4 : Int) (x5 : Int) (x6 : Int) (N0 : LSt U → Prop) (Q : AExit → LSt U → Prop) : Prop := A65 [1, 1, 0, 1, 0, 0] (head65_0 e x4 x5 x6) (AExit.then N0 (AExit.inBlock 0 (S65 [1, 1, 1] Q)))
theorem vc65_l0 (e : Edit) (x4 : Int) (x5 : Int) (x6 : Int) (N0 : LSt U → Prop) (Q : AExit → LSt U → Prop) (h : (((decide ((x6 : Int) < ((Edit.ops e).length : Int))) = true → ((0 : Int) ≤ x6 ∧ x6 < ((Edit.ops e).length : Int)) ∧ ((InR (((OpOf.n (List.getD (Edit.ops e) (Int.toNat x6) Op.nil)) : Int) + ((OpOf.l (List.getD (Edit.ops e) (Int.toNat x6) Op.nil)).length : Int))) ∧ ((((((OpOf.kind (List.getD (Edit.ops e) (Int.toNat x6) Op.nil)) : Int) == 3) = true → (A65 [1, 1, 0, 1, 0, 0, 1, 0, 0, 1, 1, 1] (head65_1 e x4 x5 x6 1) (AExit.inBlock 1 (S65 [1, 1, 0, 1, 0, 0, 1, 1] (AExit.then N0 (AExit.inBlock 0 (S65 [1, 1, 1] Q))))))) ∧ ((((OpOf.kind (List.getD (Edit.ops e) (Int.toNat x6) Op.nil)) : Int) == 3) = false → A65 [1, 1, 0, 1, 0, 0, 1, 0, 0, 1, 1, 1] (head65_1 e x4 x5 x6 (((OpOf.n (List.getD (Edit.ops e) (Int.toNat x6) Op.nil)) : Int) + ((OpOf.l (List.getD (Edit.ops e) (Int.toNat x6) Op.nil)).length : Int))) (AExit.inBlock 1 (S65 [1, 1, 0, 1, 0, 0, 1, 1] (AExit.then N0 (AExit.inBlock 0 (S65 [1, 1, 1] Q)))))))))) ∧ ((decide ((x6 : Int) < ((Edit.ops e).length : Int))) = false → (Q .ret (⟨[(2, .c (.int .i64 x4)), (3, .c (.int .i64 x5))], [], []⟩ : LSt U))))) :
    A65 [1, 1, 0, 1, 0, 0] (head65_0 e x4 x5 x6) (AExit.then N0 (AExit.inBlock 0 (S65 [1, 1, 1] Q))) :=
  Eq.mpr (by kernel_rfl) h
abbrev W65_c1 (e : Edit) (x4 : Int) (x5 : Int) (x6 : Int) (x8_a : Int) (N0 : LSt U → Prop) (Q : AExit → LSt U → Prop) : Prop := A65 [1, 1, 0, 1, 0, 0, 1, 0, 0, 1, 1, 1] (head65_1 e x4 x5 x6 x8_a) (AExit.inBlock 1 (S65 [1, 1, 0, 1, 0, 0, 1, 1] (AExit.then N0 (AExit.inBlock 0 (S65 [1, 1, 1] Q)))))
theorem vc65_c1 (e : Edit) (x4 : Int) (x5 : Int) (x6 : Int) (x8_a : Int) (N0 : LSt U → Prop) (Q : AExit → LSt U → Prop) (h : (((((OpOf.kind (List.getD (Edit.ops e) (Int.toNat x6) Op.nil)) : Int) != 2) = true → (InR ((x4 : Int) + x8_a)) ∧ (A65 [1, 1, 0, 1, 0, 0, 1, 0, 0, 1, 1, 1, 1] (head65_2 e x5 x6 x8_a ((x4 : Int) + x8_a)) (AExit.inBlock 1 (S65 [1, 1, 0, 1, 0, 0, 1, 1] (AExit.then N0 (AExit.inBlock 0 (S65 [1, 1, 1] Q))))))) ∧ ((((OpOf.kind (List.getD (Edit.ops e) (Int.toNat x6) Op.nil)) : Int) != 2) = false → A65 [1, 1, 0, 1, 0, 0, 1, 0, 0, 1, 1, 1, 1] (head65_2 e x5 x6 x8_a x4) (AExit.inBlock 1 (S65 [1, 1, 0, 1, 0, 0, 1, 1] (AExit.then N0 (AExit.inBlock 0 (S65 [1, 1, 1] Q)))))))) :
    A65 [1, 1, 0, 1, 0, 0, 1, 0, 0, 1, 1, 1] (head65_1 e x4 x5 x6 x8_a) (AExit.inBlock 1 (S65 [1, 1, 0, 1, 0, 0, 1, 1] (AExit.then N0 (AExit.inBlock 0 (S65 [1, 1, 1] Q))))) :=
  Eq.mpr (by kernel_rfl) h
abbrev W65_c2 (e : Edit) (x5 : Int) (x6 : Int) (x8_a : Int) (x4_b : Int) (N0 : LSt U → Prop) (Q : AExit → LSt U → Prop) : Prop := A65 [1, 1, 0, 1, 0, 0, 1, 0, 0, 1, 1, 1, 1] (head65_2 e x5 x6 x8_a x4_b) (AExit.inBlock 1 (S65 [1, 1, 0, 1, 0, 0, 1, 1] (AExit.then N0 (AExit.inBlock 0 (S65 [1, 1, 1] Q)))))
theorem vc65_c2 (e : Edit) (x5 : Int) (x6 : Int) (x8_a : Int) (x4_b : Int) (N0 : LSt U → Prop) (Q : AExit → LSt U → Prop) (h : (((((OpOf.kind (List.getD (Edit.ops e) (Int.toNat x6) Op.nil)) : Int) != 1) = true → (InR ((x5 : Int) + x8_a)) ∧ (A65 [1, 1, 0, 1, 0, 0, 1, 0, 0, 1, 1, 1, 1, 1] (head65_3 e x6 x8_a x4_b ((x5 : Int) + x8_a)) (AExit.inBlock 1 (S65 [1, 1, 0, 1, 0, 0, 1, 1] (AExit.then N0 (AExit.inBlock 0 (S65 [1, 1, 1] Q))))))) ∧ ((((OpOf.kind (List.getD (Edit.ops e) (Int.toNat x6) Op.nil)) : Int) != 1) = false → A65 [1, 1, 0, 1, 0, 0, 1, 0, 0, 1, 1, 1, 1, 1] (head65_3 e x6 x8_a x4_b x5) (AExit.inBlock 1 (S65 [1, 1, 0, 1, 0, 0, 1, 1] (AExit.then N0 (AExit.inBlock 0 (S65 [1, 1, 1] Q)))))))) :
    A65 [1, 1, 0, 1, 0, 0, 1, 0, 0, 1, 1, 1, 1] (head65_2 e x5 x6 x8_a x4_b) (AExit.inBlock 1 (S65 [1, 1, 0, 1, 0, 0, 1, 1] (AExit.then N0 (AExit.inBlock 0 (S65 [1, 1, 1] Q))))) :=
  Eq.mpr (by kernel_rfl) h
abbrev W65_c3 (e : Edit) (x6 : Int) (x8_a : Int) (x4_b : Int) (x5_c : Int) (N0 : LSt U → Prop) (Q : AExit → LSt U → Prop) : Prop := A65 [1, 1, 0, 1, 0, 0, 1, 0, 0, 1, 1, 1, 1, 1] (head65_3 e x6 x8_a x4_b x5_c) (AExit.inBlock 1 (S65 [1, 1, 0, 1, 0, 0, 1, 1] (AExit.then N0 (AExit.inBlock 0 (S65 [1, 1, 1] Q)))))
theorem vc65_c3 (e : Edit) (x6 : Int) (x8_a : Int) (x4_b : Int) (x5_c : Int) (N0 : LSt U → Prop) (Q : AExit → LSt U → Prop) (h : (((decide ((1048576 : Int) < x4_b)) = true → (A65 [1, 1, 0, 1, 0, 0, 1, 0, 0, 1, 1, 1, 1, 1, 1] (head65_4 e x6 x4_b x5_c 1048576) (AExit.inBlock 1 (S65 [1, 1, 0, 1, 0, 0, 1, 1] (AExit.then N0 (AExit.inBlock 0 (S65 [1, 1, 1] Q))))))) ∧ ((decide ((1048576 : Int) < x4_b)) = false → A65 [1, 1, 0, 1, 0, 0, 1, 0, 0, 1, 1, 1, 1, 1, 1] (head65_4 e x6 x4_b x5_c x4_b) (AExit.inBlock 1 (S65 [1, 1, 0, 1, 0, 0, 1, 1] (AExit.then N0 (AExit.inBlock 0 (S65 [1, 1, 1] Q)))))))) :
    A65 [1, 1, 0, 1, 0, 0, 1, 0, 0, 1, 1, 1, 1, 1] (head65_3 e x6 x8_a x4_b x5_c) (AExit.inBlock 1 (S65 [1, 1, 0, 1, 0, 0, 1, 1] (AExit.then N0 (AExit.inBlock 0 (S65 [1, 1, 1] Q))))) :=
  Eq.mpr (by kernel_rfl) h
abbrev W65_c4 (e : Edit) (x6 : Int) (x4_b : Int) (x5_c : Int) (x4_d : Int) (N0 : LSt U → Prop) (Q : AExit → LSt U → Prop) : Prop := A65 [1, 1, 0, 1, 0, 0, 1, 0, 0, 1, 1, 1, 1, 1, 1] (head65_4 e x6 x4_b x5_c x4_d) (AExit.inBlock 1 (S65 [1, 1, 0, 1, 0, 0, 1, 1] (AExit.then N0 (AExit.inBlock 0 (S65 [1, 1, 1] Q)))))
theorem vc65_c4 (e : Edit) (x6 : Int) (x4_b : Int) (x5_c : Int) (x4_d : Int) (N0 : LSt U → Prop) (Q : AExit → LSt U → Prop) (h : (((decide ((1048576 : Int) < x5_c)) = true → ((InR ((x6 : Int) + 1)) ∧ (N0 (head65_0 e x4_d 1048576 ((x6 : Int) + 1))))) ∧ ((decide ((1048576 : Int) < x5_c)) = false → (InR ((x6 : Int) + 1)) ∧ (N0 (head65_0 e x4_d x5_c ((x6 : Int) + 1)))))) :
    A65 [1, 1, 0, 1, 0, 0, 1, 0, 0, 1, 1, 1, 1, 1, 1] (head65_4 e x6 x4_b x5_c x4_d) (AExit.inBlock 1 (S65 [1, 1, 0, 1, 0, 0, 1, 1] (AExit.then N0 (AExit.inBlock 0 (S65 [1, 1, 1] Q))))) :=
  Eq.mpr (by kernel_rfl) h
def Body65 (e : Edit)  : Prop := awp cfg (know (know65)) (drawOk cfg (know (know65))) Try.f65.ntmps lv65 (cd Try.f65 []) (entry (args65.can (e, ())) []) (EndsQ cfg Try.f65.ntmps Try.f65.results.toList (res65 (e, ())) [])
theorem make65 (hb : ∀ (e : Edit) (_ : Unit), pre65 (e, ()) → Body65 e) : Contract Try.prog cfg 65 spec65 :=
  contract_flat (l := []) cfgOk rfl (trivial) lv65 Try.func65 rfl rfl 1 (fun _ => rfl) (by decide) (fun ⟨e, _⟩ => hb e ())
noncomputable def know90 (N : Nat) : List (FuncId × Fs U) := (90, fs args90 (fun a => [pre90 a, mu90 a < N]) res90) :: [(78, spec78)]
def lv90 : Lives U := fun i => match i with
  | 0 => ([(1, []), (2, []), (3, [])], [((.loc 3), [])])
  | 1 => ([(1, []), (2, []), (3, [])], [((.loc 3), [])])
  | 2 => ([(1, []), (2, []), (3, []), (25, [])], [((.loc 3), [])])
  | 3 => ([(6, [])], [])
  | 4 => ([(1, []), (2, []), (3, [])], [((.loc 3), [])])
  | 5 => ([(1, []), (2, []), (3, []), (31, [])], [((.loc 3), [])])
  | 6 => ([(1, []), (2, []), (3, []), (31, [])], [((.loc 3), [])])
  | 7 => ([(1, []), (2, []), (3, []), (7, [])], [((.loc 3), [])])
  | 8 => ([(1, []), (2, []), (3, []), (7, []), (44, [])], [((.loc 3), [])])
  | 9 => ([(1, []), (2, []), (3, []), (7, [])], [((.loc 3), [])])
  | 10 => ([(1, []), (2, []), (3, []), (7, [])], [((.loc 3), [])])
  | 11 => ([(1, []), (2, []), (3, []), (8, [])], [((.loc 3), [])])
  | 12 => ([(1, []), (2, []), (3, []), (8, []), (65, [])], [((.loc 3), [])])
  | 13 => ([(1, []), (2, []), (3, []), (8, [])], [((.loc 3), [])])
  | 14 => ([(1, []), (2, []), (3, []), (8, []), (9, [])], [((.loc 3), [])])
  | 15 => ([(1, []), (2, []), (3, []), (8, []), (9, []), (80, [])], [((.loc 3), [])])
  | 16 => ([(1, []), (2, []), (3, []), (8, []), (9, [])], [((.loc 3), [])])
  | 17 => ([(1, []), (2, []), (3, []), (8, []), (9, [])], [((.loc 3), [])])
  | 18 => ([(1, []), (2, []), (3, []), (8, []), (95, [])], [((.loc 3), [])])
  | 19 => ([(1, []), (2, []), (3, []), (8, [])], [((.loc 3), [])])
  | 20 => ([(6, [])], [])
  | _ => ([], [])
noncomputable def head90_0 (e : Edit) (d : Int) (n : Int) (x2 : Int) : LSt U := (⟨[(1, .c (.int .i64 d)), (2, .c (.int .i64 x2)), (3, .ptr (.loc 3) 0), (31, .c (.bool (decide ((0 : Int) ≤ (shallow (Tree.mk (Tree.kind (Edit.old e)) (Tree.words (Edit.old e)) (Tree.kids (Edit.old e))) 80 ((((((n : Int) - 1) : Int) - ((Edit.words e).length : Int)) : Int) - ((Edit.ops e).length : Int)))))))], [((.loc 3), [.int .i64 (Edit.kind e), .int .i64 (Tree.kind (Edit.old e)), .slice (U := U) .u64 (Tree.words (Edit.old e)) .unk, .slice (U := U) .tree (Tree.kids (Edit.old e)) .unk, .int .i64 (Tree.kind (Edit.new e)), .slice (U := U) .u64 (Tree.words (Edit.new e)) .unk, .slice (U := U) .tree (Tree.kids (Edit.new e)) .unk, .slice (U := U) .wedit (Edit.words e) .unk, .slice (U := U) .kid (Edit.kids e) .unk, .int .i64 (Edit.list e), .slice (U := U) .op (Edit.ops e) .unk])], []⟩ : LSt U)
noncomputable def head90_1 (e : Edit) (d : Int) (n : Int) (x2_a : Int) (x7_a : Int) : LSt U := (⟨[(1, .c (.int .i64 d)), (2, .c (.int .i64 x2_a)), (3, .ptr (.loc 3) 0), (7, .c (.int .i64 x7_a))], [((.loc 3), [.int .i64 (Edit.kind e), .int .i64 (Tree.kind (Edit.old e)), .slice (U := U) .u64 (Tree.words (Edit.old e)) .unk, .slice (U := U) .tree (Tree.kids (Edit.old e)) .unk, .int .i64 (Tree.kind (Edit.new e)), .slice (U := U) .u64 (Tree.words (Edit.new e)) .unk, .slice (U := U) .tree (Tree.kids (Edit.new e)) .unk, .slice (U := U) .wedit (Edit.words e) .unk, .slice (U := U) .kid (Edit.kids e) .unk, .int .i64 (Edit.list e), .slice (U := U) .op (Edit.ops e) .unk])], []⟩ : LSt U)
noncomputable def head90_2 (e : Edit) (d : Int) (n : Int) (x2_b : Int) (x8_b : Int) : LSt U := (⟨[(1, .c (.int .i64 d)), (2, .c (.int .i64 x2_b)), (3, .ptr (.loc 3) 0), (8, .c (.int .i64 x8_b))], [((.loc 3), [.int .i64 (Edit.kind e), .int .i64 (Tree.kind (Edit.old e)), .slice (U := U) .u64 (Tree.words (Edit.old e)) .unk, .slice (U := U) .tree (Tree.kids (Edit.old e)) .unk, .int .i64 (Tree.kind (Edit.new e)), .slice (U := U) .u64 (Tree.words (Edit.new e)) .unk, .slice (U := U) .tree (Tree.kids (Edit.new e)) .unk, .slice (U := U) .wedit (Edit.words e) .unk, .slice (U := U) .kid (Edit.kids e) .unk, .int .i64 (Edit.list e), .slice (U := U) .op (Edit.ops e) .unk])], []⟩ : LSt U)
noncomputable def head90_3 (e : Edit) (d : Int) (n : Int) (x8_b : Int) (x2_c : Int) (x9_c : Int) : LSt U := (⟨[(1, .c (.int .i64 d)), (2, .c (.int .i64 x2_c)), (3, .ptr (.loc 3) 0), (8, .c (.int .i64 x8_b)), (9, .c (.int .i64 x9_c))], [((.loc 3), [.int .i64 (Edit.kind e), .int .i64 (Tree.kind (Edit.old e)), .slice (U := U) .u64 (Tree.words (Edit.old e)) .unk, .slice (U := U) .tree (Tree.kids (Edit.old e)) .unk, .int .i64 (Tree.kind (Edit.new e)), .slice (U := U) .u64 (Tree.words (Edit.new e)) .unk, .slice (U := U) .tree (Tree.kids (Edit.new e)) .unk, .slice (U := U) .wedit (Edit.words e) .unk, .slice (U := U) .kid (Edit.kids e) .unk, .int .i64 (Edit.list e), .slice (U := U) .op (Edit.ops e) .unk])], []⟩ : LSt U)
noncomputable abbrev A90 (N : Nat) (p : List Nat) := awp cfg (know (know90 N)) (drawOk cfg (know (know90 N))) Try.f90.ntmps lv90 (cd Try.f90 p)
noncomputable abbrev S90 (N : Nat) (p : List Nat) := seqK cfg (know (know90 N)) (drawOk cfg (know (know90 N))) Try.f90.ntmps lv90 (cd Try.f90 p)
theorem vc90 (N : Nat) (e : Edit) (d : Int) (n : Int) (Q : AExit → LSt U → Prop) (h : ∀ y_1, y_1 = ((Edit.new e)) → ∀ y_2, y_2 = ((Edit.old e)) → ∀ y_3, y_3 = (shallow y_2 80 ((((((n : Int) - 1) : Int) - ((Edit.words e).length : Int)) : Int) - ((Edit.ops e).length : Int))) → ((InR ((n : Int) - 1)) ∧ (InR ((((n : Int) - 1) : Int) - ((Edit.words e).length : Int))) ∧ (InR ((((((n : Int) - 1) : Int) - ((Edit.words e).length : Int)) : Int) - ((Edit.ops e).length : Int))) ∧ ((Tr ((!((d : Int) == 0)) = true)) ∧ ((((d : Int) == 0) = false → (!((d : Int) == 0)) = true)) ∧ (((bif ((d : Int) == 0) then true else (decide ((((((((n : Int) - 1) : Int) - ((Edit.words e).length : Int)) : Int) - ((Edit.ops e).length : Int)) : Int) < 0))) = true → (Q .ret (⟨[(6, .c (.int .i64 (-1)))], [], []⟩ : LSt U))) ∧ ((bif ((d : Int) == 0) then true else (decide ((((((((n : Int) - 1) : Int) - ((Edit.words e).length : Int)) : Int) - ((Edit.ops e).length : Int)) : Int) < 0))) = false → (pre78 (y_2, 80, ((((((n : Int) - 1) : Int) - ((Edit.words e).length : Int)) : Int) - ((Edit.ops e).length : Int)), ())) ∧ ((((decide ((0 : Int) ≤ y_3)) = true → (pre78 (y_1, 80, y_3, ())) ∧ (A90 N [1, 1, 1, 1, 1] (head90_0 e d n (shallow y_1 80 y_3)) Q)) ∧ ((decide ((0 : Int) ≤ y_3)) = false → A90 N [1, 1, 1, 1, 1] (head90_0 e d n y_3) Q)))))))) :
    A90 N [] (⟨[(0, .agg [.int .i64 (Edit.kind e), .int .i64 (Tree.kind (Edit.old e)), .slice (U := U) .u64 (Tree.words (Edit.old e)) .unk, .slice (U := U) .tree (Tree.kids (Edit.old e)) .unk, .int .i64 (Tree.kind (Edit.new e)), .slice (U := U) .u64 (Tree.words (Edit.new e)) .unk, .slice (U := U) .tree (Tree.kids (Edit.new e)) .unk, .slice (U := U) .wedit (Edit.words e) .unk, .slice (U := U) .kid (Edit.kids e) .unk, .int .i64 (Edit.list e), .slice (U := U) .op (Edit.ops e) .unk]), (1, .c (.int .i64 d)), (2, .c (.int .i64 n))], [], []⟩ : LSt U) Q :=
  Eq.mpr (by kernel_rfl) (h _ (reTree_eq _) _ (reTree_eq _) _ rfl)
abbrev W90_c0 (N : Nat) (e : Edit) (d : Int) (n : Int) (x2 : Int) (Q : AExit → LSt U → Prop) : Prop := A90 N [1, 1, 1, 1, 1] (head90_0 e d n x2) Q
theorem vc90_c0 (N : Nat) (e : Edit) (d : Int) (n : Int) (x2 : Int) (Q : AExit → LSt U → Prop) (h : (LoopWp (A90 N [1, 1, 1, 1, 1, 0, 1, 0, 0]) (head90_1 e d n x2 0) (AExit.inBlock 0 (S90 N [1, 1, 1, 1, 1, 1] Q)))) :
    A90 N [1, 1, 1, 1, 1] (head90_0 e d n x2) Q :=
  Eq.mpr (by kernel_rfl) h
theorem vc90_l1 (N : Nat) (e : Edit) (d : Int) (n : Int) (x2_a : Int) (x7_a : Int) (N1 : LSt U → Prop) (Q : AExit → LSt U → Prop) (h : ∀ y_1, y_1 = (List.getD (Edit.kids e) (Int.toNat x7_a) (KidOf.mk 0 Edit.nil)) → ∀ y_2, y_2 = ((KidOf.e y_1)) → (Tr ((decide ((x7_a : Int) < ((Edit.kids e).length : Int))) = true)) ∧ ((Tr ((decide ((x7_a : Int) < ((Edit.kids e).length : Int))) = true))) ∧ (((bif (decide ((x7_a : Int) < ((Edit.kids e).length : Int))) then (decide ((0 : Int) ≤ x2_a)) else false) = true → ((0 : Int) ≤ x7_a ∧ x7_a < ((Edit.kids e).length : Int)) ∧ (InR ((d : Int) - 1)) ∧ (pre90 (y_2, ((d : Int) - 1), x2_a, ())) ∧ (mu90 (y_2, ((d : Int) - 1), x2_a, ()) < N) ∧ ((InR ((x7_a : Int) + 1)) ∧ (N1 (head90_1 e d n (leftE y_2 ((d : Int) - 1) x2_a) ((x7_a : Int) + 1))))) ∧ ((bif (decide ((x7_a : Int) < ((Edit.kids e).length : Int))) then (decide ((0 : Int) ≤ x2_a)) else false) = false → (LoopWp (A90 N [1, 1, 1, 1, 1, 1, 0, 1, 0, 0]) (head90_2 e d n x2_a 0) (AExit.inBlock 2 (S90 N [1, 1, 1, 1, 1, 1, 1] Q)))))) :
    A90 N [1, 1, 1, 1, 1, 0, 1, 0, 0] (head90_1 e d n x2_a x7_a) (AExit.then N1 (AExit.inBlock 0 (S90 N [1, 1, 1, 1, 1, 1] Q))) :=
  Eq.mpr (by kernel_rfl) (h _ rfl _ (reEdit_eq _))
theorem vc90_l2 (N : Nat) (e : Edit) (d : Int) (n : Int) (x2_b : Int) (x8_b : Int) (N2 : LSt U → Prop) (Q : AExit → LSt U → Prop) (h : (Tr ((decide ((x8_b : Int) < ((Edit.ops e).length : Int))) = true)) ∧ ((Tr ((decide ((x8_b : Int) < ((Edit.ops e).length : Int))) = true))) ∧ (((bif (decide ((x8_b : Int) < ((Edit.ops e).length : Int))) then (decide ((0 : Int) ≤ x2_b)) else false) = true → (LoopWp (A90 N [1, 1, 1, 1, 1, 1, 0, 1, 0, 0, 1, 0, 0, 0, 1, 0, 0]) (head90_3 e d n x8_b x2_b 0) (AExit.inBlock 4 (S90 N [1, 1, 1, 1, 1, 1, 0, 1, 0, 0, 1, 0, 0, 1] (AExit.inBlock 3 (S90 N [1, 1, 1, 1, 1, 1, 0, 1, 0, 0, 1, 1] (AExit.then N2 (AExit.inBlock 2 (S90 N [1, 1, 1, 1, 1, 1, 1] Q))))))))) ∧ ((bif (decide ((x8_b : Int) < ((Edit.ops e).length : Int))) then (decide ((0 : Int) ≤ x2_b)) else false) = false → (Q .ret (⟨[(6, .c (.int .i64 x2_b))], [], []⟩ : LSt U))))) :
    A90 N [1, 1, 1, 1, 1, 1, 0, 1, 0, 0] (head90_2 e d n x2_b x8_b) (AExit.then N2 (AExit.inBlock 2 (S90 N [1, 1, 1, 1, 1, 1, 1] Q))) :=
  Eq.mpr (by kernel_rfl) h
theorem vc90_l3 (N : Nat) (e : Edit) (d : Int) (n : Int) (x8_b : Int) (x2_c : Int) (x9_c : Int) (N3 : LSt U → Prop) (N2 : LSt U → Prop) (Q : AExit → LSt U → Prop) (h : ∀ y_1, y_1 = (List.getD (Edit.ops e) (Int.toNat x8_b) Op.nil) → ∀ y_2, y_2 = ((OpOf.e y_1)) → ∀ y_3, y_3 = ((List.getD (OpOf.l y_1) (Int.toNat x9_c) Tree.nil)) → ((0 : Int) ≤ x8_b ∧ x8_b < ((Edit.ops e).length : Int)) ∧ (Tr ((decide ((x9_c : Int) < ((OpOf.l y_1).length : Int))) = true)) ∧ ((Tr ((decide ((x9_c : Int) < ((OpOf.l y_1).length : Int))) = true))) ∧ (((bif (decide ((x9_c : Int) < ((OpOf.l y_1).length : Int))) then (decide ((0 : Int) ≤ x2_c)) else false) = true → ((0 : Int) ≤ x8_b ∧ x8_b < ((Edit.ops e).length : Int)) ∧ ((0 : Int) ≤ x9_c ∧ x9_c < ((OpOf.l y_1).length : Int)) ∧ (pre78 (y_3, 80, x2_c, ())) ∧ ((InR ((x9_c : Int) + 1)) ∧ (N3 (head90_3 e d n x8_b (shallow y_3 80 x2_c) ((x9_c : Int) + 1))))) ∧ ((bif (decide ((x9_c : Int) < ((OpOf.l y_1).length : Int))) then (decide ((0 : Int) ≤ x2_c)) else false) = false → (((decide ((0 : Int) ≤ x2_c)) = true → ((0 : Int) ≤ x8_b ∧ x8_b < ((Edit.ops e).length : Int)) ∧ (InR ((d : Int) - 1)) ∧ (pre90 (y_2, ((d : Int) - 1), x2_c, ())) ∧ (mu90 (y_2, ((d : Int) - 1), x2_c, ()) < N) ∧ ((InR ((x8_b : Int) + 1)) ∧ (N2 (head90_2 e d n (leftE y_2 ((d : Int) - 1) x2_c) ((x8_b : Int) + 1))))) ∧ ((decide ((0 : Int) ≤ x2_c)) = false → (InR ((x8_b : Int) + 1)) ∧ (N2 (head90_2 e d n x2_c ((x8_b : Int) + 1)))))))) :
    A90 N [1, 1, 1, 1, 1, 1, 0, 1, 0, 0, 1, 0, 0, 0, 1, 0, 0] (head90_3 e d n x8_b x2_c x9_c) (AExit.then N3 (AExit.inBlock 4 (S90 N [1, 1, 1, 1, 1, 1, 0, 1, 0, 0, 1, 0, 0, 1] (AExit.inBlock 3 (S90 N [1, 1, 1, 1, 1, 1, 0, 1, 0, 0, 1, 1] (AExit.then N2 (AExit.inBlock 2 (S90 N [1, 1, 1, 1, 1, 1, 1] Q)))))))) :=
  Eq.mpr (by kernel_rfl) (h _ rfl _ (reEdit_eq _) _ (reTree_eq _))
def Body90 (N : Nat) (e : Edit) (d : Int) (n : Int)  : Prop := awp cfg (know (know90 N)) (drawOk cfg (know (know90 N))) Try.f90.ntmps lv90 (cd Try.f90 []) (entry (args90.can (e, d, n, ())) []) (EndsQ cfg Try.f90.ntmps Try.f90.results.toList (res90 (e, d, n, ())) [])
theorem make90 (c78 : Contract Try.prog cfg 78 spec78) (hb : ∀ (N : Nat) (e : Edit) (d : Int) (n : Int) (_ : Unit), pre90 (e, d, n, ()) → mu90 (e, d, n, ()) < N + 1 → Body90 N e d n) : Contract Try.prog cfg 90 spec90 :=
  contract_rec (μ := mu90) (l := [(78, spec78)]) cfgOk rfl (⟨c78, trivial⟩) lv90 Try.func90 rfl rfl 3 (fun _ => rfl) (by decide) (fun N ⟨e, d, n, _⟩ => hb N e d n ())
noncomputable def know54 : List (FuncId × Fs U) := [(90, spec90)]
def lv54 : Lives U := fun i => match i with
  | 0 => ([(1, [])], [((.loc 1), [])])
  | 1 => ([(2, [])], [])
  | _ => ([], [])
noncomputable abbrev A54 (p : List Nat) := awp cfg (know know54) (drawOk cfg (know know54)) Try.f54.ntmps lv54 (cd Try.f54 p)
theorem vc54 (e : Edit) (Q : AExit → LSt U → Prop) (h : ((pre90 ((Edit.mk (Edit.kind e) (Tree.mk (Tree.kind (Edit.old e)) (Tree.words (Edit.old e)) (Tree.kids (Edit.old e))) (Tree.mk (Tree.kind (Edit.new e)) (Tree.words (Edit.new e)) (Tree.kids (Edit.new e))) (Edit.words e) (Edit.kids e) (Edit.list e) (Edit.ops e)), 80, 3000, ())) ∧ (Q .ret (⟨[(2, .c (.bool (decide ((0 : Int) ≤ (leftE (Edit.mk (Edit.kind e) (Tree.mk (Tree.kind (Edit.old e)) (Tree.words (Edit.old e)) (Tree.kids (Edit.old e))) (Tree.mk (Tree.kind (Edit.new e)) (Tree.words (Edit.new e)) (Tree.kids (Edit.new e))) (Edit.words e) (Edit.kids e) (Edit.list e) (Edit.ops e)) 80 3000)))))], [], []⟩ : LSt U)))) :
    A54 [] (⟨[(0, .agg [.int .i64 (Edit.kind e), .int .i64 (Tree.kind (Edit.old e)), .slice (U := U) .u64 (Tree.words (Edit.old e)) .unk, .slice (U := U) .tree (Tree.kids (Edit.old e)) .unk, .int .i64 (Tree.kind (Edit.new e)), .slice (U := U) .u64 (Tree.words (Edit.new e)) .unk, .slice (U := U) .tree (Tree.kids (Edit.new e)) .unk, .slice (U := U) .wedit (Edit.words e) .unk, .slice (U := U) .kid (Edit.kids e) .unk, .int .i64 (Edit.list e), .slice (U := U) .op (Edit.ops e) .unk])], [], []⟩ : LSt U) Q :=
  Eq.mpr (by kernel_rfl) h
def Body54 (e : Edit)  : Prop := awp cfg (know (know54)) (drawOk cfg (know (know54))) Try.f54.ntmps lv54 (cd Try.f54 []) (entry (args54.can (e, ())) []) (EndsQ cfg Try.f54.ntmps Try.f54.results.toList (res54 (e, ())) [])
theorem make54 (c90 : Contract Try.prog cfg 90 spec90) (hb : ∀ (e : Edit) (_ : Unit), pre54 (e, ()) → Body54 e) : Contract Try.prog cfg 54 spec54 :=
  contract_flat (l := [(90, spec90)]) cfgOk rfl (⟨c90, trivial⟩) lv54 Try.func54 rfl rfl 1 (fun _ => rfl) (by decide) (fun ⟨e, _⟩ => hb e ())
end Go.AM.Ytpjenobkibfpcaa
