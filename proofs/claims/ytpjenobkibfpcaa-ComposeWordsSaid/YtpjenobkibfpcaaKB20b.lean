import Derived.Test.YtpjenobkibfpcaaKD20
import Derived.Test.YtpjenobkibfpcaaKRB07
set_option linter.unusedSimpArgs false
set_option linter.unusedVariables false
namespace Go.AM.Ytpjenobkibfpcaa
open Go.AM Go.Proofs
def args67 : ArgL (Int × Unit) := (.cons (aInt .u64) .nil)
def pre67 (a : Int × Unit) : Prop := 0 ≤ a.1 ∧ a.1 < 18446744073709551616
noncomputable def res67 (a : Int × Unit) : V U := .agg [.int .u8 (byteAt a.1 0), .int .u8 (byteAt a.1 1), .int .u8 (byteAt a.1 2), .int .u8 (byteAt a.1 3), .int .u8 (byteAt a.1 4), .int .u8 (byteAt a.1 5), .int .u8 (byteAt a.1 6), .int .u8 (byteAt a.1 7)]
noncomputable def spec67 : Fs U := fs args67 (fun a => [pre67 a]) res67
def args68 : ArgL (Int × Int × Unit) := (.cons (aInt .u8) (.cons (aInt .i64) .nil))
def pre68 (a : Int × Int × Unit) : Prop := (0 ≤ a.1 ∧ a.1 < 256) ∧ 0 ≤ a.2.1 ∧ a.2.1 ≤ 8
noncomputable def res68 (a : Int × Int × Unit) : V U := .c (.bool (named a.1 a.2.1))
noncomputable def spec68 : Fs U := fs args68 (fun a => [pre68 a]) res68
def args69 : ArgL (List Int × Int × Unit) := (.cons (aSl .u8) (.cons (aInt .i64) .nil))
def pre69 (a : List Int × Int × Unit) : Prop := a.2.1 = 0 ∧ a.1.length = 8 ∧ ∀ x ∈ a.1, 0 ≤ x ∧ x < 256
noncomputable def res69 (a : List Int × Int × Unit) : V U := .c (.int .u64 (of8 (fun i => a.1.getD i 0)))
noncomputable def spec69 : Fs U := fs args69 (fun a => [pre69 a]) res69
def args103 : ArgL (Int × Int × Int × Unit) := (.cons (aInt .u64) (.cons (aInt .u64) (.cons (aInt .u8) .nil)))
def pre103 (a : Int × Int × Int × Unit) : Prop := (0 ≤ a.1 ∧ a.1 < 18446744073709551616) ∧ (0 ≤ a.2.1 ∧ a.2.1 < 18446744073709551616) ∧ (0 ≤ a.2.2.1 ∧ a.2.2.1 < 256)
noncomputable def res103 (a : Int × Int × Int × Unit) : V U := .c (.int .u64 (mix a.1 a.2.1 a.2.2.1))
noncomputable def spec103 : Fs U := fs args103 (fun a => [pre103 a]) res103
def args62 : ArgL (Tree × Unit) := (.cons (aEl .tree) .nil)
def pre62 (a : Tree × Unit) : Prop := mass a.1 ≤ 20000000000
noncomputable def res62 (a : Tree × Unit) : V U := .c (.bool (noneT a.1))
noncomputable def spec62 : Fs U := fs args62 (fun a => [pre62 a]) res62
def args63 : ArgL (Int × Int × Unit) := (.cons (aInt .u64) (.cons (aInt .u8) .nil))
def pre63 (a : Int × Int × Unit) : Prop := (0 ≤ a.1 ∧ a.1 < 18446744073709551616) ∧ (0 ≤ a.2.1 ∧ a.2.1 < 256)
noncomputable def res63 (a : Int × Int × Unit) : V U := .c (.bool (withinW a.1 a.2.1))
noncomputable def spec63 : Fs U := fs args63 (fun a => [pre63 a]) res63
def args104 : ArgL (Edit × Unit) := (.cons (aEl .edit) .nil)
def pre104 (a : Edit × Unit) : Prop := massE a.1 ≤ 20000000000
noncomputable def res104 (a : Edit × Unit) : V U := .c (.bool (sameE a.1))
noncomputable def spec104 : Fs U := fs args104 (fun a => [pre104 a]) res104
def args65 : ArgL (Edit × Unit) := (.cons (aEl .edit) .nil)
def pre65 (a : Edit × Unit) : Prop := massE a.1 ≤ 20000000000 ∧ ∀ o ∈ Edit.ops a.1, 0 ≤ o.n ∧ o.n ≤ 1048576
noncomputable def res65 (a : Edit × Unit) : V U := .tup [(false, [.int .i64 (lenA (Edit.ops a.1) 0)]), (false, [.int .i64 (lenB (Edit.ops a.1) 0)])]
noncomputable def spec65 : Fs U := fs args65 (fun a => [pre65 a]) res65
noncomputable def know67 : List (FuncId × Fs U) := []
def lv67 : Lives U := fun i => match i with
  | 0 => ([(0, []), (2, [])], [((.loc 2), [])])
  | 1 => ([(0, []), (2, []), (3, [])], [((.loc 2), []), ((.loc 3), [])])
  | 2 => ([(0, []), (2, []), (3, []), (4, [])], [((.loc 2), []), ((.loc 3), [])])
  | 3 => ([(0, []), (2, []), (3, []), (4, []), (7, [])], [((.loc 2), []), ((.loc 3), [])])
  | 4 => ([(0, []), (2, []), (3, []), (4, [])], [((.loc 2), []), ((.loc 3), [])])
  | 5 => ([(0, []), (2, []), (3, []), (4, [])], [((.loc 2), []), ((.loc 3), [])])
  | 6 => ([(0, []), (2, []), (3, []), (4, [])], [((.loc 2), []), ((.loc 3), [])])
  | 7 => ([(2, [])], [((.loc 2), [])])
  | _ => ([], [])
noncomputable def head67_0 (w : Int) (x0 : Int) (x4 : Int) (ml3_0 : Int) (ml3_1 : Int) (ml3_2 : Int) (ml3_3 : Int) (ml3_4 : Int) (ml3_5 : Int) (ml3_6 : Int) (ml3_7 : Int) : LSt U := (⟨[(0, .c (.int .u64 x0)), (2, .ptr (.loc 2) 0), (3, .ptr (.loc 3) 0), (4, .c (.int .i64 x4))], [((.loc 2), [.int .u8 0, .int .u8 0, .int .u8 0, .int .u8 0, .int .u8 0, .int .u8 0, .int .u8 0, .int .u8 0]), ((.loc 3), [.int .u8 ml3_0, .int .u8 ml3_1, .int .u8 ml3_2, .int .u8 ml3_3, .int .u8 ml3_4, .int .u8 ml3_5, .int .u8 ml3_6, .int .u8 ml3_7])], []⟩ : LSt U)
noncomputable abbrev A67 (p : List Nat) := awp cfg (know know67) (drawOk cfg (know know67)) Try.f67.ntmps lv67 (cd Try.f67 p)
noncomputable abbrev S67 (p : List Nat) := seqK cfg (know know67) (drawOk cfg (know know67)) Try.f67.ntmps lv67 (cd Try.f67 p)
theorem vc67 (w : Int) (Q : AExit → LSt U → Prop) (h : (((LoopWp (A67 [1, 1, 0, 1, 0, 0]) (head67_0 w w 0 0 0 0 0 0 0 0 0) (AExit.inBlock 0 (S67 [1, 1, 1] Q)))))) :
    A67 [] (⟨[(0, .c (.int .u64 w))], [], []⟩ : LSt U) Q :=
  Eq.mpr (by kernel_rfl) h
theorem vc67_l0 (w : Int) (x0 : Int) (x4 : Int) (ml3_0 : Int) (ml3_1 : Int) (ml3_2 : Int) (ml3_3 : Int) (ml3_4 : Int) (ml3_5 : Int) (ml3_6 : Int) (ml3_7 : Int) (N0 : LSt U → Prop) (Q : AExit → LSt U → Prop) (h : (((decide ((x4 : Int) < 8)) = true → ((256 : Int) ≠ 0) ∧ ((0 : Int) ≤ x4 ∧ x4 < ((8 : Nat) : Int)) ∧ (((256 : Int) ≠ 0) ∧ ((InR ((x4 : Int) + 1)) ∧ (N0 (head67_0 w (IntKind.wrap .u64 (Int.tdiv x0 256)) ((x4 : Int) + 1) (aSet x4 0 (IntKind.wrap .u8 (Int.tmod x0 256)) ml3_0) (aSet x4 1 (IntKind.wrap .u8 (Int.tmod x0 256)) ml3_1) (aSet x4 2 (IntKind.wrap .u8 (Int.tmod x0 256)) ml3_2) (aSet x4 3 (IntKind.wrap .u8 (Int.tmod x0 256)) ml3_3) (aSet x4 4 (IntKind.wrap .u8 (Int.tmod x0 256)) ml3_4) (aSet x4 5 (IntKind.wrap .u8 (Int.tmod x0 256)) ml3_5) (aSet x4 6 (IntKind.wrap .u8 (Int.tmod x0 256)) ml3_6) (aSet x4 7 (IntKind.wrap .u8 (Int.tmod x0 256)) ml3_7)))))) ∧ ((decide ((x4 : Int) < 8)) = false → (Q .ret (⟨[(2, .ptr (.loc 2) 0)], [((.loc 2), [.int .u8 ml3_0, .int .u8 ml3_1, .int .u8 ml3_2, .int .u8 ml3_3, .int .u8 ml3_4, .int .u8 ml3_5, .int .u8 ml3_6, .int .u8 ml3_7])], []⟩ : LSt U))))) :
    A67 [1, 1, 0, 1, 0, 0] (head67_0 w x0 x4 ml3_0 ml3_1 ml3_2 ml3_3 ml3_4 ml3_5 ml3_6 ml3_7) (AExit.then N0 (AExit.inBlock 0 (S67 [1, 1, 1] Q))) :=
  Eq.mpr (by kernel_rfl) h
def Body67 (w : Int)  : Prop := awp cfg (know (know67)) (drawOk cfg (know (know67))) Try.f67.ntmps lv67 (cd Try.f67 []) (entry (args67.can (w, ())) []) (EndsQ cfg Try.f67.ntmps Try.f67.results.toList (res67 (w, ())) [])
theorem make67 (hb : ∀ (w : Int) (_ : Unit), pre67 (w, ()) → Body67 w) : Contract Try.prog cfg 67 spec67 :=
  contract_flat (l := []) cfgOk rfl (trivial) lv67 Try.func67 rfl rfl 1 (fun _ => rfl) (by decide) (fun ⟨w, _⟩ => hb w ())
noncomputable def know68 : List (FuncId × Fs U) := []
def lv68 : Lives U := fun i => match i with
  | 0 => ([(0, []), (1, [])], [])
  | 1 => ([(0, []), (1, []), (5, [])], [])
  | 2 => ([(0, []), (1, []), (5, []), (8, [])], [])
  | 3 => ([(0, []), (1, []), (5, [])], [])
  | 4 => ([(0, []), (1, []), (5, [])], [])
  | 5 => ([(4, [])], [])
  | _ => ([], [])
noncomputable def head68_0 (m : Int) (i : Int) (x0 : Int) (x5 : Int) : LSt U := (⟨[(0, .c (.int .u8 x0)), (1, .c (.int .i64 i)), (5, .c (.int .i64 x5))], [], []⟩ : LSt U)
noncomputable abbrev A68 (p : List Nat) := awp cfg (know know68) (drawOk cfg (know know68)) Try.f68.ntmps lv68 (cd Try.f68 p)
noncomputable abbrev S68 (p : List Nat) := seqK cfg (know know68) (drawOk cfg (know know68)) Try.f68.ntmps lv68 (cd Try.f68 p)
theorem vc68 (m : Int) (i : Int) (Q : AExit → LSt U → Prop) (h : ((LoopWp (A68 [1, 0, 1, 0, 0]) (head68_0 m i m 0) (AExit.inBlock 0 (S68 [1, 1] Q))))) :
    A68 [] (⟨[(0, .c (.int .u8 m)), (1, .c (.int .i64 i))], [], []⟩ : LSt U) Q :=
  Eq.mpr (by kernel_rfl) h
theorem vc68_l0 (m : Int) (i : Int) (x0 : Int) (x5 : Int) (N0 : LSt U → Prop) (Q : AExit → LSt U → Prop) (h : (((decide ((x5 : Int) < i)) = true → ((2 : Int) ≠ 0) ∧ ((InR ((x5 : Int) + 1)) ∧ (N0 (head68_0 m i (IntKind.wrap .u8 (Int.tdiv x0 2)) ((x5 : Int) + 1))))) ∧ ((decide ((x5 : Int) < i)) = false → ((2 : Int) ≠ 0) ∧ (Q .ret (⟨[(4, .c (.bool (((Int.tmod x0 2) : Int) == 1)))], [], []⟩ : LSt U))))) :
    A68 [1, 0, 1, 0, 0] (head68_0 m i x0 x5) (AExit.then N0 (AExit.inBlock 0 (S68 [1, 1] Q))) :=
  Eq.mpr (by kernel_rfl) h
def Body68 (m : Int) (i : Int)  : Prop := awp cfg (know (know68)) (drawOk cfg (know (know68))) Try.f68.ntmps lv68 (cd Try.f68 []) (entry (args68.can (m, i, ())) []) (EndsQ cfg Try.f68.ntmps Try.f68.results.toList (res68 (m, i, ())) [])
theorem make68 (hb : ∀ (m : Int) (i : Int) (_ : Unit), pre68 (m, i, ()) → Body68 m i) : Contract Try.prog cfg 68 spec68 :=
  contract_flat (l := []) cfgOk rfl (trivial) lv68 Try.func68 rfl rfl 2 (fun _ => rfl) (by decide) (fun ⟨m, i, _⟩ => hb m i ())
noncomputable def know69 : List (FuncId × Fs U) := []
def lv69 : Lives U := fun i => match i with
  | 0 => ([(0, []), (1, [])], [])
  | 1 => ([(0, []), (1, []), (5, [])], [])
  | 2 => ([(0, []), (1, []), (5, []), (6, [])], [])
  | 3 => ([(0, []), (1, []), (5, []), (6, []), (8, [])], [])
  | 4 => ([(0, []), (1, []), (5, []), (6, [])], [])
  | 5 => ([(0, []), (1, []), (5, []), (6, [])], [])
  | 6 => ([(4, [])], [])
  | _ => ([], [])
noncomputable def head69_0 (b : List Int) (from_ : Int) (x5 : Int) (x6 : Int) : LSt U := (⟨[(0, .c (.slice (U := U) .u8 b .unk)), (1, .c (.int .i64 from_)), (5, .c (.int .u64 x5)), (6, .c (.int .i64 x6))], [], []⟩ : LSt U)
noncomputable abbrev A69 (p : List Nat) := awp cfg (know know69) (drawOk cfg (know know69)) Try.f69.ntmps lv69 (cd Try.f69 p)
noncomputable abbrev S69 (p : List Nat) := seqK cfg (know know69) (drawOk cfg (know know69)) Try.f69.ntmps lv69 (cd Try.f69 p)
theorem vc69 (b : List Int) (from_ : Int) (Q : AExit → LSt U → Prop) (h : (((LoopWp (A69 [1, 1, 0, 1, 0, 0]) (head69_0 b from_ 0 7) (AExit.inBlock 0 (S69 [1, 1, 1] Q)))))) :
    A69 [] (⟨[(0, .c (.slice (U := U) .u8 b .unk)), (1, .c (.int .i64 from_))], [], []⟩ : LSt U) Q :=
  Eq.mpr (by kernel_rfl) h
theorem vc69_l0 (b : List Int) (from_ : Int) (x5 : Int) (x6 : Int) (N0 : LSt U → Prop) (Q : AExit → LSt U → Prop) (h : (((decide ((0 : Int) ≤ x6)) = true → (InR ((from_ : Int) + x6)) ∧ ((0 : Int) ≤ ((from_ : Int) + x6) ∧ ((from_ : Int) + x6) < (b.length : Int)) ∧ ((InR ((x6 : Int) - 1)) ∧ (N0 (head69_0 b from_ (IntKind.wrap .u64 (((IntKind.wrap .u64 ((x5 : Int) * 256)) : Int) + (IntKind.wrap .u64 (List.getD b (Int.toNat ((from_ : Int) + x6)) (0 : Int))))) ((x6 : Int) - 1))))) ∧ ((decide ((0 : Int) ≤ x6)) = false → (Q .ret (⟨[(4, .c (.int .u64 x5))], [], []⟩ : LSt U))))) :
    A69 [1, 1, 0, 1, 0, 0] (head69_0 b from_ x5 x6) (AExit.then N0 (AExit.inBlock 0 (S69 [1, 1, 1] Q))) :=
  Eq.mpr (by kernel_rfl) h
def Body69 (b : List Int) (from_ : Int)  : Prop := awp cfg (know (know69)) (drawOk cfg (know (know69))) Try.f69.ntmps lv69 (cd Try.f69 []) (entry (args69.can (b, from_, ())) []) (EndsQ cfg Try.f69.ntmps Try.f69.results.toList (res69 (b, from_, ())) [])
theorem make69 (hb : ∀ (b : List Int) (from_ : Int) (_ : Unit), pre69 (b, from_, ()) → Body69 b from_) : Contract Try.prog cfg 69 spec69 :=
  contract_flat (l := []) cfgOk rfl (trivial) lv69 Try.func69 rfl rfl 2 (fun _ => rfl) (by decide) (fun ⟨b, from_, _⟩ => hb b from_ ())
noncomputable def know103 : List (FuncId × Fs U) := [(67, spec67), (68, spec68), (69, spec69)]
def lv103 : Lives U := fun i => match i with
  | 0 => ([(0, []), (1, []), (2, [])], [])
  | 1 => ([(2, []), (7, []), (8, [])], [((.loc 7), []), ((.loc 8), [])])
  | 2 => ([(2, []), (7, []), (8, []), (9, [])], [((.loc 7), []), ((.loc 8), [])])
  | 3 => ([(2, []), (7, []), (8, []), (9, []), (15, [])], [((.loc 7), []), ((.loc 8), [])])
  | 4 => ([(2, []), (7, []), (8, []), (9, [])], [((.loc 7), []), ((.loc 8), [])])
  | 5 => ([(2, []), (7, []), (8, []), (9, []), (20, [])], [((.loc 7), []), ((.loc 8), [])])
  | 6 => ([(2, []), (7, []), (8, []), (9, [])], [((.loc 7), []), ((.loc 8), [])])
  | 7 => ([(6, [])], [])
  | _ => ([], [])
noncomputable def head103_0 (a : Int) (b : Int) (m : Int) (x9 : Int) (ml7_0 : Int) (ml7_1 : Int) (ml7_2 : Int) (ml7_3 : Int) (ml7_4 : Int) (ml7_5 : Int) (ml7_6 : Int) (ml7_7 : Int) : LSt U := (⟨[(2, .c (.int .u8 m)), (7, .ptr (.loc 7) 0), (8, .ptr (.loc 8) 0), (9, .c (.int .i64 x9))], [((.loc 7), [.int .u8 ml7_0, .int .u8 ml7_1, .int .u8 ml7_2, .int .u8 ml7_3, .int .u8 ml7_4, .int .u8 ml7_5, .int .u8 ml7_6, .int .u8 ml7_7]), ((.loc 8), [.int .u8 (byteAt b 0), .int .u8 (byteAt b 1), .int .u8 (byteAt b 2), .int .u8 (byteAt b 3), .int .u8 (byteAt b 4), .int .u8 (byteAt b 5), .int .u8 (byteAt b 6), .int .u8 (byteAt b 7)])], []⟩ : LSt U)
noncomputable abbrev A103 (p : List Nat) := awp cfg (know know103) (drawOk cfg (know know103)) Try.f103.ntmps lv103 (cd Try.f103 p)
noncomputable abbrev S103 (p : List Nat) := seqK cfg (know know103) (drawOk cfg (know know103)) Try.f103.ntmps lv103 (cd Try.f103 p)
theorem vc103 (a : Int) (b : Int) (m : Int) (Q : AExit → LSt U → Prop) (h : ((pre67 (a, ())) ∧ (pre67 (b, ())) ∧ ((LoopWp (A103 [1, 1, 0, 1, 0, 0]) (head103_0 a b m 0 (byteAt a 0) (byteAt a 1) (byteAt a 2) (byteAt a 3) (byteAt a 4) (byteAt a 5) (byteAt a 6) (byteAt a 7)) (AExit.inBlock 0 (S103 [1, 1, 1] Q)))))) :
    A103 [] (⟨[(0, .c (.int .u64 a)), (1, .c (.int .u64 b)), (2, .c (.int .u8 m))], [], []⟩ : LSt U) Q :=
  Eq.mpr (by kernel_rfl) h
theorem vc103_l0 (a : Int) (b : Int) (m : Int) (x9 : Int) (ml7_0 : Int) (ml7_1 : Int) (ml7_2 : Int) (ml7_3 : Int) (ml7_4 : Int) (ml7_5 : Int) (ml7_6 : Int) (ml7_7 : Int) (N0 : LSt U → Prop) (Q : AExit → LSt U → Prop) (h : (((decide ((x9 : Int) < 8)) = true → (pre68 (m, x9, ())) ∧ (((named m x9) = true → ((0 : Int) ≤ x9 ∧ x9 < ((8 : Nat) : Int)) ∧ ((0 : Int) ≤ x9 ∧ x9 < ((8 : Nat) : Int)) ∧ ((InR ((x9 : Int) + 1)) ∧ (N0 (head103_0 a b m ((x9 : Int) + 1) (aSet x9 0 (List.getD [byteAt b 0, byteAt b 1, byteAt b 2, byteAt b 3, byteAt b 4, byteAt b 5, byteAt b 6, byteAt b 7] (Int.toNat x9) 0) ml7_0) (aSet x9 1 (List.getD [byteAt b 0, byteAt b 1, byteAt b 2, byteAt b 3, byteAt b 4, byteAt b 5, byteAt b 6, byteAt b 7] (Int.toNat x9) 0) ml7_1) (aSet x9 2 (List.getD [byteAt b 0, byteAt b 1, byteAt b 2, byteAt b 3, byteAt b 4, byteAt b 5, byteAt b 6, byteAt b 7] (Int.toNat x9) 0) ml7_2) (aSet x9 3 (List.getD [byteAt b 0, byteAt b 1, byteAt b 2, byteAt b 3, byteAt b 4, byteAt b 5, byteAt b 6, byteAt b 7] (Int.toNat x9) 0) ml7_3) (aSet x9 4 (List.getD [byteAt b 0, byteAt b 1, byteAt b 2, byteAt b 3, byteAt b 4, byteAt b 5, byteAt b 6, byteAt b 7] (Int.toNat x9) 0) ml7_4) (aSet x9 5 (List.getD [byteAt b 0, byteAt b 1, byteAt b 2, byteAt b 3, byteAt b 4, byteAt b 5, byteAt b 6, byteAt b 7] (Int.toNat x9) 0) ml7_5) (aSet x9 6 (List.getD [byteAt b 0, byteAt b 1, byteAt b 2, byteAt b 3, byteAt b 4, byteAt b 5, byteAt b 6, byteAt b 7] (Int.toNat x9) 0) ml7_6) (aSet x9 7 (List.getD [byteAt b 0, byteAt b 1, byteAt b 2, byteAt b 3, byteAt b 4, byteAt b 5, byteAt b 6, byteAt b 7] (Int.toNat x9) 0) ml7_7))))) ∧ ((named m x9) = false → (InR ((x9 : Int) + 1)) ∧ (N0 (head103_0 a b m ((x9 : Int) + 1) ml7_0 ml7_1 ml7_2 ml7_3 ml7_4 ml7_5 ml7_6 ml7_7))))) ∧ ((decide ((x9 : Int) < 8)) = false → (pre69 (([ml7_0, ml7_1, ml7_2, ml7_3, ml7_4, ml7_5, ml7_6, ml7_7]), 0, ())) ∧ (Q .ret (⟨[(6, .c (.int .u64 (of8 (fun i => ([ml7_0, ml7_1, ml7_2, ml7_3, ml7_4, ml7_5, ml7_6, ml7_7]).getD i 0))))], [], []⟩ : LSt U))))) :
    A103 [1, 1, 0, 1, 0, 0] (head103_0 a b m x9 ml7_0 ml7_1 ml7_2 ml7_3 ml7_4 ml7_5 ml7_6 ml7_7) (AExit.then N0 (AExit.inBlock 0 (S103 [1, 1, 1] Q))) :=
  Eq.mpr (by kernel_rfl) h
def Body103 (a : Int) (b : Int) (m : Int)  : Prop := awp cfg (know (know103)) (drawOk cfg (know (know103))) Try.f103.ntmps lv103 (cd Try.f103 []) (entry (args103.can (a, b, m, ())) []) (EndsQ cfg Try.f103.ntmps Try.f103.results.toList (res103 (a, b, m, ())) [])
theorem make103 (c67 : Contract Try.prog cfg 67 spec67) (c68 : Contract Try.prog cfg 68 spec68) (c69 : Contract Try.prog cfg 69 spec69) (hb : ∀ (a : Int) (b : Int) (m : Int) (_ : Unit), pre103 (a, b, m, ()) → Body103 a b m) : Contract Try.prog cfg 103 spec103 :=
  contract_flat (l := [(67, spec67), (68, spec68), (69, spec69)]) cfgOk rfl (⟨c67, c68, c69, trivial⟩) lv103 Try.func103 rfl rfl 3 (fun _ => rfl) (by decide) (fun ⟨a, b, m, _⟩ => hb a b m ())
noncomputable def know62 : List (FuncId × Fs U) := []
def lv62 : Lives U := fun i => match i with
  | 0 => ([(1, [])], [((.loc 1), [])])
  | 1 => ([(2, [])], [])
  | _ => ([], [])
noncomputable abbrev A62 (p : List Nat) := awp cfg (know know62) (drawOk cfg (know know62)) Try.f62.ntmps lv62 (cd Try.f62 p)
theorem vc62 (t : Tree) (Q : AExit → LSt U → Prop) (h : ((Tr ((((Tree.kind t) : Int) == 0) = true)) ∧ (Tr ((((Tree.kind t) : Int) == 0) = true)) ∧ (Tr ((((Tree.kind t) : Int) == 0) = true)) ∧ (Tr ((((Tree.kind t) : Int) == 0) = true)) ∧ (Tr ((((Tree.kind t) : Int) == 0) = true)) ∧ (Tr ((((Tree.kind t) : Int) == 0) = true)) ∧ ((((Tree.kind t) : Int) == 0) = true → InR ((((Tree.words t).length : Int) : Int) + ((Tree.kids t).length : Int))) ∧ (Tr ((((Tree.kind t) : Int) == 0) = true)) ∧ ((Tr ((((Tree.kind t) : Int) == 0) = true))) ∧ (Q .ret (⟨[(2, .c (.bool (bif (((Tree.kind t) : Int) == 0) then ((((((Tree.words t).length : Int) : Int) + ((Tree.kids t).length : Int)) : Int) == 0) else false)))], [], []⟩ : LSt U)))) :
    A62 [] (⟨[(0, .agg [.int .i64 (Tree.kind t), .slice (U := U) .u64 (Tree.words t) .unk, .slice (U := U) .tree (Tree.kids t) .unk])], [], []⟩ : LSt U) Q :=
  Eq.mpr (by kernel_rfl) h
def Body62 (t : Tree)  : Prop := awp cfg (know (know62)) (drawOk cfg (know (know62))) Try.f62.ntmps lv62 (cd Try.f62 []) (entry (args62.can (t, ())) []) (EndsQ cfg Try.f62.ntmps Try.f62.results.toList (res62 (t, ())) [])
theorem make62 (hb : ∀ (t : Tree) (_ : Unit), pre62 (t, ()) → Body62 t) : Contract Try.prog cfg 62 spec62 :=
  contract_flat (l := []) cfgOk rfl (trivial) lv62 Try.func62 rfl rfl 1 (fun _ => rfl) (by decide) (fun ⟨t, _⟩ => hb t ())
noncomputable def know63 : List (FuncId × Fs U) := [(103, spec103)]
def lv63 : Lives U := fun i => match i with
  | 0 => ([(0, []), (1, [])], [])
  | 1 => ([(4, [])], [])
  | _ => ([], [])
noncomputable abbrev A63 (p : List Nat) := awp cfg (know know63) (drawOk cfg (know know63)) Try.f63.ntmps lv63 (cd Try.f63 p)
theorem vc63 (w : Int) (m : Int) (Q : AExit → LSt U → Prop) (h : ((pre103 (w, 0, m, ())) ∧ (Q .ret (⟨[(4, .c (.bool (((mix w 0 m) : Int) == 0)))], [], []⟩ : LSt U)))) :
    A63 [] (⟨[(0, .c (.int .u64 w)), (1, .c (.int .u8 m))], [], []⟩ : LSt U) Q :=
  Eq.mpr (by kernel_rfl) h
def Body63 (w : Int) (m : Int)  : Prop := awp cfg (know (know63)) (drawOk cfg (know (know63))) Try.f63.ntmps lv63 (cd Try.f63 []) (entry (args63.can (w, m, ())) []) (EndsQ cfg Try.f63.ntmps Try.f63.results.toList (res63 (w, m, ())) [])
theorem make63 (c103 : Contract Try.prog cfg 103 spec103) (hb : ∀ (w : Int) (m : Int) (_ : Unit), pre63 (w, m, ()) → Body63 w m) : Contract Try.prog cfg 63 spec63 :=
  contract_flat (l := [(103, spec103)]) cfgOk rfl (⟨c103, trivial⟩) lv63 Try.func63 rfl rfl 2 (fun _ => rfl) (by decide) (fun ⟨w, m, _⟩ => hb w m ())
noncomputable def know104 : List (FuncId × Fs U) := [(62, spec62)]
def lv104 : Lives U := fun i => match i with
  | 0 => ([(1, [])], [((.loc 1), [])])
  | 1 => ([(2, [])], [])
  | _ => ([], [])
noncomputable abbrev A104 (p : List Nat) := awp cfg (know know104) (drawOk cfg (know know104)) Try.f104.ntmps lv104 (cd Try.f104 p)
theorem vc104 (e : Edit) (Q : AExit → LSt U → Prop) (h : ∀ y_1, y_1 = ((Edit.new e)) → ∀ y_2, y_2 = ((Edit.old e)) → ((Tr ((((Edit.kind e) : Int) == 0) = true)) ∧ (Tr ((((Edit.kind e) : Int) == 0) = true)) ∧ ((((Edit.kind e) : Int) == 0) = true → pre62 (y_2, ())) ∧ ((Tr ((((Edit.kind e) : Int) == 0) = true))) ∧ (Tr ((bif (((Edit.kind e) : Int) == 0) then (noneT y_2) else false) = true)) ∧ (Tr ((bif (((Edit.kind e) : Int) == 0) then (noneT y_2) else false) = true)) ∧ ((bif (((Edit.kind e) : Int) == 0) then (noneT y_2) else false) = true → pre62 (y_1, ())) ∧ ((Tr ((bif (((Edit.kind e) : Int) == 0) then (noneT y_2) else false) = true))) ∧ (Tr ((bif (bif (((Edit.kind e) : Int) == 0) then (noneT y_2) else false) then (noneT y_1) else false) = true)) ∧ (Tr ((bif (bif (((Edit.kind e) : Int) == 0) then (noneT y_2) else false) then (noneT y_1) else false) = true)) ∧ (Tr ((bif (bif (((Edit.kind e) : Int) == 0) then (noneT y_2) else false) then (noneT y_1) else false) = true)) ∧ (Tr ((bif (bif (((Edit.kind e) : Int) == 0) then (noneT y_2) else false) then (noneT y_1) else false) = true)) ∧ (Tr ((bif (bif (((Edit.kind e) : Int) == 0) then (noneT y_2) else false) then (noneT y_1) else false) = true)) ∧ (Tr ((bif (bif (((Edit.kind e) : Int) == 0) then (noneT y_2) else false) then (noneT y_1) else false) = true)) ∧ ((bif (bif (((Edit.kind e) : Int) == 0) then (noneT y_2) else false) then (noneT y_1) else false) = true → InR ((((Edit.words e).length : Int) : Int) + ((Edit.kids e).length : Int))) ∧ (Tr ((bif (bif (((Edit.kind e) : Int) == 0) then (noneT y_2) else false) then (noneT y_1) else false) = true)) ∧ (Tr ((bif (bif (((Edit.kind e) : Int) == 0) then (noneT y_2) else false) then (noneT y_1) else false) = true)) ∧ (Tr ((bif (bif (((Edit.kind e) : Int) == 0) then (noneT y_2) else false) then (noneT y_1) else false) = true)) ∧ (Tr ((bif (bif (((Edit.kind e) : Int) == 0) then (noneT y_2) else false) then (noneT y_1) else false) = true)) ∧ ((bif (bif (((Edit.kind e) : Int) == 0) then (noneT y_2) else false) then (noneT y_1) else false) = true → InR ((((((Edit.words e).length : Int) : Int) + ((Edit.kids e).length : Int)) : Int) + ((Edit.ops e).length : Int))) ∧ (Tr ((bif (bif (((Edit.kind e) : Int) == 0) then (noneT y_2) else false) then (noneT y_1) else false) = true)) ∧ ((Tr ((bif (bif (((Edit.kind e) : Int) == 0) then (noneT y_2) else false) then (noneT y_1) else false) = true))) ∧ (Tr ((bif (bif (bif (((Edit.kind e) : Int) == 0) then (noneT y_2) else false) then (noneT y_1) else false) then ((((((((Edit.words e).length : Int) : Int) + ((Edit.kids e).length : Int)) : Int) + ((Edit.ops e).length : Int)) : Int) == 0) else false) = true)) ∧ (Tr ((bif (bif (bif (((Edit.kind e) : Int) == 0) then (noneT y_2) else false) then (noneT y_1) else false) then ((((((((Edit.words e).length : Int) : Int) + ((Edit.kids e).length : Int)) : Int) + ((Edit.ops e).length : Int)) : Int) == 0) else false) = true)) ∧ ((Tr ((bif (bif (bif (((Edit.kind e) : Int) == 0) then (noneT y_2) else false) then (noneT y_1) else false) then ((((((((Edit.words e).length : Int) : Int) + ((Edit.kids e).length : Int)) : Int) + ((Edit.ops e).length : Int)) : Int) == 0) else false) = true))) ∧ (Q .ret (⟨[(2, .c (.bool (bif (bif (bif (bif (((Edit.kind e) : Int) == 0) then (noneT y_2) else false) then (noneT y_1) else false) then ((((((((Edit.words e).length : Int) : Int) + ((Edit.kids e).length : Int)) : Int) + ((Edit.ops e).length : Int)) : Int) == 0) else false) then (((Edit.list e) : Int) == 0) else false)))], [], []⟩ : LSt U)))) :
    A104 [] (⟨[(0, .agg [.int .i64 (Edit.kind e), .int .i64 (Tree.kind (Edit.old e)), .slice (U := U) .u64 (Tree.words (Edit.old e)) .unk, .slice (U := U) .tree (Tree.kids (Edit.old e)) .unk, .int .i64 (Tree.kind (Edit.new e)), .slice (U := U) .u64 (Tree.words (Edit.new e)) .unk, .slice (U := U) .tree (Tree.kids (Edit.new e)) .unk, .slice (U := U) .wedit (Edit.words e) .unk, .slice (U := U) .kid (Edit.kids e) .unk, .int .i64 (Edit.list e), .slice (U := U) .op (Edit.ops e) .unk])], [], []⟩ : LSt U) Q :=
  Eq.mpr (by kernel_rfl) (h _ (reTree_eq _) _ (reTree_eq _))
def Body104 (e : Edit)  : Prop := awp cfg (know (know104)) (drawOk cfg (know (know104))) Try.f104.ntmps lv104 (cd Try.f104 []) (entry (args104.can (e, ())) []) (EndsQ cfg Try.f104.ntmps Try.f104.results.toList (res104 (e, ())) [])
theorem make104 (c62 : Contract Try.prog cfg 62 spec62) (hb : ∀ (e : Edit) (_ : Unit), pre104 (e, ()) → Body104 e) : Contract Try.prog cfg 104 spec104 :=
  contract_flat (l := [(62, spec62)]) cfgOk rfl (⟨c62, trivial⟩) lv104 Try.func104 rfl rfl 1 (fun _ => rfl) (by decide) (fun ⟨e, _⟩ => hb e ())
noncomputable def know65 : List (FuncId × Fs U) := []
def lv65 : Lives U := fun i => match i with
  | 0 => ([(1, [])], [((.loc 1), [])])
  | 1 => ([(1, []), (4, []), (5, [])], [((.loc 1), [])])
  | 2 => ([(1, []), (4, []), (5, []), (6, [])], [((.loc 1), [])])
  | 3 => ([(1, []), (4, []), (5, []), (6, []), (13, [])], [((.loc 1), [])])
  | 4 => ([(1, []), (4, []), (5, []), (6, [])], [((.loc 1), [])])
  | 5 => ([(1, []), (4, []), (5, []), (6, []), (7, [])], [((.loc 1), []), ((.loc 7), [])])
  | 6 => ([(1, []), (4, []), (5, []), (6, []), (7, []), (8, [])], [((.loc 1), []), ((.loc 7), [])])
  | 7 => ([(1, []), (4, []), (5, []), (6, []), (7, []), (8, []), (29, [])], [((.loc 1), []), ((.loc 7), [])])
  | 8 => ([(1, []), (4, []), (5, []), (6, []), (7, []), (8, []), (29, [])], [((.loc 1), []), ((.loc 7), [])])
  | 9 => ([(1, []), (4, []), (5, []), (6, []), (7, []), (8, []), (32, [])], [((.loc 1), []), ((.loc 7), [])])
  | 10 => ([(1, []), (4, []), (5, []), (6, []), (7, []), (8, []), (32, [])], [((.loc 1), []), ((.loc 7), [])])
  | 11 => ([(1, []), (4, []), (5, []), (6, []), (8, []), (38, [])], [((.loc 1), [])])
  | 12 => ([(1, []), (4, []), (5, []), (6, []), (8, []), (38, [])], [((.loc 1), [])])
  | 13 => ([(1, []), (4, []), (5, []), (6, []), (43, [])], [((.loc 1), [])])
  | 14 => ([(1, []), (4, []), (5, []), (6, []), (43, [])], [((.loc 1), [])])
  | 15 => ([(1, []), (4, []), (5, []), (6, []), (45, [])], [((.loc 1), [])])
  | 16 => ([(1, []), (4, []), (5, []), (6, [])], [((.loc 1), [])])
  | 17 => ([(2, []), (3, [])], [])
  | _ => ([], [])
noncomputable def head65_0 (e : Edit) (x4 : Int) (x5 : Int) (x6 : Int) : LSt U := (⟨[(1, .ptr (.loc 1) 0), (4, .c (.int .i64 x4)), (5, .c (.int .i64 x5)), (6, .c (.int .i64 x6))], [((.loc 1), [.int .i64 (Edit.kind e), .int .i64 (Tree.kind (Edit.old e)), .slice (U := U) .u64 (Tree.words (Edit.old e)) .unk, .slice (U := U) .tree (Tree.kids (Edit.old e)) .unk, .int .i64 (Tree.kind (Edit.new e)), .slice (U := U) .u64 (Tree.words (Edit.new e)) .unk, .slice (U := U) .tree (Tree.kids (Edit.new e)) .unk, .slice (U := U) .wedit (Edit.words e) .unk, .slice (U := U) .kid (Edit.kids e) .unk, .int .i64 (Edit.list e), .slice (U := U) .op (Edit.ops e) .unk])], []⟩ : LSt U)
noncomputable def head65_1 (e : Edit) (x4 : Int) (x5 : Int) (x6 : Int) (x8_a : Int) : LSt U := (⟨[(1, .ptr (.loc 1) 0), (4, .c (.int .i64 x4)), (5, .c (.int .i64 x5)), (6, .c (.int .i64 x6)), (7, .ptr (.loc 7) 0), (8, .c (.int .i64 x8_a)), (29, .c (.bool (((OpOf.kind (List.getD (Edit.ops e) (Int.toNat x6) Op.nil)) : Int) == 3)))], [((.loc 1), [.int .i64 (Edit.kind e), .int .i64 (Tree.kind (Edit.old e)), .slice (U := U) .u64 (Tree.words (Edit.old e)) .unk, .slice (U := U) .tree (Tree.kids (Edit.old e)) .unk, .int .i64 (Tree.kind (Edit.new e)), .slice (U := U) .u64 (Tree.words (Edit.new e)) .unk, .slice (U := U) .tree (Tree.kids (Edit.new e)) .unk, .slice (U := U) .wedit (Edit.words e) .unk, .slice (U := U) .kid (Edit.kids e) .unk, .int .i64 (Edit.list e), .slice (U := U) .op (Edit.ops e) .unk]), ((.loc 7), [.int .i64 (OpOf.kind (List.getD (Edit.ops e) (Int.toNat x6) Op.nil)), .int .i64 (OpOf.n (List.getD (Edit.ops e) (Int.toNat x6) Op.nil)), .slice (U := U) .tree (OpOf.l (List.getD (Edit.ops e) (Int.toNat x6) Op.nil)) .unk, .int .i64 (Edit.kind (OpOf.e (List.getD (Edit.ops e) (Int.toNat x6) Op.nil))), .int .i64 (Tree.kind (Edit.old (OpOf.e (List.getD (Edit.ops e) (Int.toNat x6) Op.nil)))), .slice (U := U) .u64 (Tree.words (Edit.old (OpOf.e (List.getD (Edit.ops e) (Int.toNat x6) Op.nil)))) .unk, .slice (U := U) .tree (Tree.kids (Edit.old (OpOf.e (List.getD (Edit.ops e) (Int.toNat x6) Op.nil)))) .unk, .int .i64 (Tree.kind (Edit.new (OpOf.e (List.getD (Edit.ops e) (Int.toNat x6) Op.nil)))), .slice (U := U) .u64 (Tree.words (Edit.new (OpOf.e (List.getD (Edit.ops e) (Int.toNat x6) Op.nil)))) .unk, .slice (U := U) .tree (Tree.kids (Edit.new (OpOf.e (List.getD (Edit.ops e) (Int.toNat x6) Op.nil)))) .unk, .slice (U := U) .wedit (Edit.words (OpOf.e (List.getD (Edit.ops e) (Int.toNat x6) Op.nil))) .unk, .slice (U := U) .kid (Edit.kids (OpOf.e (List.getD (Edit.ops e) (Int.toNat x6) Op.nil))) .unk, .int .i64 (Edit.list (OpOf.e (List.getD (Edit.ops e) (Int.toNat x6) Op.nil))), .slice (U := U) .op (Edit.ops (OpOf.e (List.getD (Edit.ops e) (Int.toNat x6) Op.nil))) .unk])], []⟩ : LSt U)
noncomputable def head65_2 (e : Edit) (x5 : Int) (x6 : Int) (x8_a : Int) (x4_b : Int) : LSt U := (⟨[(1, .ptr (.loc 1) 0), (4, .c (.int .i64 x4_b)), (5, .c (.int .i64 x5)), (6, .c (.int .i64 x6)), (7, .ptr (.loc 7) 0), (8, .c (.int .i64 x8_a)), (32, .c (.bool (((OpOf.kind (List.getD (Edit.ops e) (Int.toNat x6) Op.nil)) : Int) != 2)))], [((.loc 1), [.int .i64 (Edit.kind e), .int .i64 (Tree.kind (Edit.old e)), .slice (U := U) .u64 (Tree.words (Edit.old e)) .unk, .slice (U := U) .tree (Tree.kids (Edit.old e)) .unk, .int .i64 (Tree.kind (Edit.new e)), .slice (U := U) .u64 (Tree.words (Edit.new e)) .unk, .slice (U := U) .tree (Tree.kids (Edit.new e)) .unk, .slice (U := U) .wedit (Edit.words e) .unk, .slice (U := U) .kid (Edit.kids e) .unk, .int .i64 (Edit.list e), .slice (U := U) .op (Edit.ops e) .unk]), ((.loc 7), [.int .i64 (OpOf.kind (List.getD (Edit.ops e) (Int.toNat x6) Op.nil)), .int .i64 (OpOf.n (List.getD (Edit.ops e) (Int.toNat x6) Op.nil)), .slice (U := U) .tree (OpOf.l (List.getD (Edit.ops e) (Int.toNat x6) Op.nil)) .unk, .int .i64 (Edit.kind (OpOf.e (List.getD (Edit.ops e) (Int.toNat x6) Op.nil))), .int .i64 (Tree.kind (Edit.old (OpOf.e (List.getD (Edit.ops e) (Int.toNat x6) Op.nil)))), .slice (U := U) .u64 (Tree.words (Edit.old (OpOf.e (List.getD (Edit.ops e) (Int.toNat x6) Op.nil)))) .unk, .slice (U := U) .tree (Tree.kids (Edit.old (OpOf.e (List.getD (Edit.ops e) (Int.toNat x6) Op.nil)))) .unk, .int .i64 (Tree.kind (Edit.new (OpOf.e (List.getD (Edit.ops e) (Int.toNat x6) Op.nil)))), .slice (U := U) .u64 (Tree.words (Edit.new (OpOf.e (List.getD (Edit.ops e) (Int.toNat x6) Op.nil)))) .unk, .slice (U := U) .tree (Tree.kids (Edit.new (OpOf.e (List.getD (Edit.ops e) (Int.toNat x6) Op.nil)))) .unk, .slice (U := U) .wedit (Edit.words (OpOf.e (List.getD (Edit.ops e) (Int.toNat x6) Op.nil))) .unk, .slice (U := U) .kid (Edit.kids (OpOf.e (List.getD (Edit.ops e) (Int.toNat x6) Op.nil))) .unk, .int .i64 (Edit.list (OpOf.e (List.getD (Edit.ops e) (Int.toNat x6) Op.nil))), .slice (U := U) .op (Edit.ops (OpOf.e (List.getD (Edit.ops e) (Int.toNat x6) Op.nil))) .unk])], []⟩ : LSt U)
noncomputable def head65_3 (e : Edit) (x6 : Int) (x8_a : Int) (x4_b : Int) (x5_c : Int) : LSt U := (⟨[(1, .ptr (.loc 1) 0), (4, .c (.int .i64 x4_b)), (5, .c (.int .i64 x5_c)), (6, .c (.int .i64 x6)), (8, .c (.int .i64 x8_a)), (38, .c (.bool (((OpOf.kind (List.getD (Edit.ops e) (Int.toNat x6) Op.nil)) : Int) != 1)))], [((.loc 1), [.int .i64 (Edit.kind e), .int .i64 (Tree.kind (Edit.old e)), .slice (U := U) .u64 (Tree.words (Edit.old e)) .unk, .slice (U := U) .tree (Tree.kids (Edit.old e)) .unk, .int .i64 (Tree.kind (Edit.new e)), .slice (U := U) .u64 (Tree.words (Edit.new e)) .unk, .slice (U := U) .tree (Tree.kids (Edit.new e)) .unk, .slice (U := U) .wedit (Edit.words e) .unk, .slice (U := U) .kid (Edit.kids e) .unk, .int .i64 (Edit.list e), .slice (U := U) .op (Edit.ops e) .unk])], []⟩ : LSt U)
noncomputable def head65_4 (e : Edit) (x6 : Int) (x4_b : Int) (x5_c : Int) (x4_d : Int) : LSt U := (⟨[(1, .ptr (.loc 1) 0), (4, .c (.int .i64 x4_d)), (5, .c (.int .i64 x5_c)), (6, .c (.int .i64 x6)), (43, .c (.bool (decide ((1048576 : Int) < x4_b))))], [((.loc 1), [.int .i64 (Edit.kind e), .int .i64 (Tree.kind (Edit.old e)), .slice (U := U) .u64 (Tree.words (Edit.old e)) .unk, .slice (U := U) .tree (Tree.kids (Edit.old e)) .unk, .int .i64 (Tree.kind (Edit.new e)), .slice (U := U) .u64 (Tree.words (Edit.new e)) .unk, .slice (U := U) .tree (Tree.kids (Edit.new e)) .unk, .slice (U := U) .wedit (Edit.words e) .unk, .slice (U := U) .kid (Edit.kids e) .unk, .int .i64 (Edit.list e), .slice (U := U) .op (Edit.ops e) .unk])], []⟩ : LSt U)
noncomputable abbrev A65 (p : List Nat) := awp cfg (know know65) (drawOk cfg (know know65)) Try.f65.ntmps lv65 (cd Try.f65 p)
noncomputable abbrev S65 (p : List Nat) := seqK cfg (know know65) (drawOk cfg (know know65)) Try.f65.ntmps lv65 (cd Try.f65 p)
theorem vc65 (e : Edit) (Q : AExit → LSt U → Prop) (h : (((LoopWp (A65 [1, 1, 0, 1, 0, 0]) (head65_0 e 0 0 0) (AExit.inBlock 0 (S65 [1, 1, 1] Q)))))) :
    A65 [] (⟨[(0, .agg [.int .i64 (Edit.kind e), .int .i64 (Tree.kind (Edit.old e)), .slice (U := U) .u64 (Tree.words (Edit.old e)) .unk, .slice (U := U) .tree (Tree.kids (Edit.old e)) .unk, .int .i64 (Tree.kind (Edit.new e)), .slice (U := U) .u64 (Tree.words (Edit.new e)) .unk, .slice (U := U) .tree (Tree.kids (Edit.new e)) .unk, .slice (U := U) .wedit (Edit.words e) .unk, .slice (U := U) .kid (Edit.kids e) .unk, .int .i64 (Edit.list e), .slice (U := U) .op (Edit.ops e) .unk])], [], []⟩ : LSt U) Q :=
  Eq.mpr (by kernel_rfl) h
abbrev W65_l0 (e : Edit) (x4 : Int) (x5 : Int) (x6 : Int) (N0 : LSt U → Prop) (Q : AExit → LSt U → Prop) : Prop := A65 [1, 1, 0, 1, 0, 0] (head65_0 e x4 x5 x6) (AExit.then N0 (AExit.inBlock 0 (S65 [1, 1, 1] Q)))
theorem vc65_l0 (e : Edit) (x4 : Int) (x5 : Int) (x6 : Int) (N0 : LSt U → Prop) (Q : AExit → LSt U → Prop) (h : (((decide ((x6 : Int) < ((Edit.ops e).length : Int))) = true → ((0 : Int) ≤ x6 ∧ x6 < ((Edit.ops e).length : Int)) ∧ ((InR (((OpOf.n (List.getD (Edit.ops e) (Int.toNat x6) Op.nil)) : Int) + ((OpOf.l (List.getD (Edit.ops e) (Int.toNat x6) Op.nil)).length : Int))) ∧ ((((((OpOf.kind (List.getD (Edit.ops e) (Int.toNat x6) Op.nil)) : Int) == 3) = true → (A65 [1, 1, 0, 1, 0, 0, 1, 0, 0, 1, 1, 1] (head65_1 e x4 x5 x6 1) (AExit.inBlock 1 (S65 [1, 1, 0, 1, 0, 0, 1, 1] (AExit.then N0 (AExit.inBlock 0 (S65 [1, 1, 1] Q))))))) ∧ ((((OpOf.kind (List.getD (Edit.ops e) (Int.toNat x6) Op.nil)) : Int) == 3) = false → A65 [1, 1, 0, 1, 0, 0, 1, 0, 0, 1, 1, 1] (head65_1 e x4 x5 x6 (((OpOf.n (List.getD (Edit.ops e) (Int.toNat x6) Op.nil)) : Int) + ((OpOf.l (List.getD (Edit.ops e) (Int.toNat x6) Op.nil)).length : Int))) (AExit.inBlock 1 (S65 [1, 1, 0, 1, 0, 0, 1, 1] (AExit.then N0 (AExit.inBlock 0 (S65 [1, 1, 1] Q)))))))))) ∧ ((decide ((x6 : Int) < ((Edit.ops e).length : Int))) = false → (Q .ret (⟨[(2, .c (.int .i64 x4)), (3, .c (.int .i64 x5))], [], []⟩ : LSt U))))) :
    A65 [1, 1, 0, 1, 0, 0] (head65_0 e x4 x5 x6) (AExit.then N0 (AExit.inBlock 0 (S65 [1, 1, 1] Q))) :=
  Eq.mpr (by kernel_rfl) h
abbrev W65_c1 (e : Edit) (x4 : Int) (x5 : Int) (x6 : Int) (x8_a : Int) (N0 : LSt U → Prop) (Q : AExit → LSt U → Prop) : Prop := A65 [1, 1, 0, 1, 0, 0, 1, 0, 0, 1, 1, 1] (head65_1 e x4 x5 x6 x8_a) (AExit.inBlock 1 (S65 [1, 1, 0, 1, 0, 0, 1, 1] (AExit.then N0 (AExit.inBlock 0 (S65 [1, 1, 1] Q)))))
theorem vc65_c1 (e : Edit) (x4 : Int) (x5 : Int) (x6 : Int) (x8_a : Int) (N0 : LSt U → Prop) (Q : AExit → LSt U → Prop) (h : (((((OpOf.kind (List.getD (Edit.ops e) (Int.toNat x6) Op.nil)) : Int) != 2) = true → (InR ((x4 : Int) + x8_a)) ∧ (A65 [1, 1, 0, 1, 0, 0, 1, 0, 0, 1, 1, 1, 1] (head65_2 e x5 x6 x8_a ((x4 : Int) + x8_a)) (AExit.inBlock 1 (S65 [1, 1, 0, 1, 0, 0, 1, 1] (AExit.then N0 (AExit.inBlock 0 (S65 [1, 1, 1] Q))))))) ∧ ((((OpOf.kind (List.getD (Edit.ops e) (Int.toNat x6) Op.nil)) : Int) != 2) = false → A65 [1, 1, 0, 1, 0, 0, 1, 0, 0, 1, 1, 1, 1] (head65_2 e x5 x6 x8_a x4) (AExit.inBlock 1 (S65 [1, 1, 0, 1, 0, 0, 1, 1] (AExit.then N0 (AExit.inBlock 0 (S65 [1, 1, 1] Q)))))))) :
    A65 [1, 1, 0, 1, 0, 0, 1, 0, 0, 1, 1, 1] (head65_1 e x4 x5 x6 x8_a) (AExit.inBlock 1 (S65 [1, 1, 0, 1, 0, 0, 1, 1] (AExit.then N0 (AExit.inBlock 0 (S65 [1, 1, 1] Q))))) :=
  Eq.mpr (by kernel_rfl) h
abbrev W65_c2 (e : Edit) (x5 : Int) (x6 : Int) (x8_a : Int) (x4_b : Int) (N0 : LSt U → Prop) (Q : AExit → LSt U → Prop) : Prop := A65 [1, 1, 0, 1, 0, 0, 1, 0, 0, 1, 1, 1, 1] (head65_2 e x5 x6 x8_a x4_b) (AExit.inBlock 1 (S65 [1, 1, 0, 1, 0, 0, 1, 1] (AExit.then N0 (AExit.inBlock 0 (S65 [1, 1, 1] Q)))))
theorem vc65_c2 (e : Edit) (x5 : Int) (x6 : Int) (x8_a : Int) (x4_b : Int) (N0 : LSt U → Prop) (Q : AExit → LSt U → Prop) (h : (((((OpOf.kind (List.getD (Edit.ops e) (Int.toNat x6) Op.nil)) : Int) != 1) = true → (InR ((x5 : Int) + x8_a)) ∧ (A65 [1, 1, 0, 1, 0, 0, 1, 0, 0, 1, 1, 1, 1, 1] (head65_3 e x6 x8_a x4_b ((x5 : Int) + x8_a)) (AExit.inBlock 1 (S65 [1, 1, 0, 1, 0, 0, 1, 1] (AExit.then N0 (AExit.inBlock 0 (S65 [1, 1, 1] Q))))))) ∧ ((((OpOf.kind (List.getD (Edit.ops e) (Int.toNat x6) Op.nil)) : Int) != 1) = false → A65 [1, 1, 0, 1, 0, 0, 1, 0, 0, 1, 1, 1, 1, 1] (head65_3 e x6 x8_a x4_b x5) (AExit.inBlock 1 (S65 [1, 1, 0, 1, 0, 0, 1, 1] (AExit.then N0 (AExit.inBlock 0 (S65 [1, 1, 1] Q)))))))) :
    A65 [1, 1, 0, 1, 0, 0, 1, 0, 0, 1, 1, 1, 1] (head65_2 e x5 x6 x8_a x4_b) (AExit.inBlock 1 (S65 [1, 1, 0, 1, 0, 0, 1, 1] (AExit.then N0 (AExit.inBlock 0 (S65 [1, 1, 1] Q))))) :=
  Eq.mpr (by kernel_rfl) h
abbrev W65_c3 (e : Edit) (x6 : Int) (x8_a : Int) (x4_b : Int) (x5_c : Int) (N0 : LSt U → Prop) (Q : AExit → LSt U → Prop) : Prop := A65 [1, 1, 0, 1, 0, 0, 1, 0, 0, 1, 1, 1, 1, 1] (head65_3 e x6 x8_a x4_b x5_c) (AExit.inBlock 1 (S65 [1, 1, 0, 1, 0, 0, 1, 1] (AExit.then N0 (AExit.inBlock 0 (S65 [1, 1, 1] Q)))))
theorem vc65_c3 (e : Edit) (x6 : Int) (x8_a : Int) (x4_b : Int) (x5_c : Int) (N0 : LSt U → Prop) (Q : AExit → LSt U → Prop) (h : (((decide ((1048576 : Int) < x4_b)) = true → (A65 [1, 1, 0, 1, 0, 0, 1, 0, 0, 1, 1, 1, 1, 1, 1] (head65_4 e x6 x4_b x5_c 1048576) (AExit.inBlock 1 (S65 [1, 1, 0, 1, 0, 0, 1, 1] (AExit.then N0 (AExit.inBlock 0 (S65 [1, 1, 1] Q))))))) ∧ ((decide ((1048576 : Int) < x4_b)) = false → A65 [1, 1, 0, 1, 0, 0, 1, 0, 0, 1, 1, 1, 1, 1, 1] (head65_4 e x6 x4_b x5_c x4_b) (AExit.inBlock 1 (S65 [1, 1, 0, 1, 0, 0, 1, 1] (AExit.then N0 (AExit.inBlock 0 (S65 [1, 1, 1] Q)))))))) :
    A65 [1, 1, 0, 1, 0, 0, 1, 0, 0, 1, 1, 1, 1, 1] (head65_3 e x6 x8_a x4_b x5_c) (AExit.inBlock 1 (S65 [1, 1, 0, 1, 0, 0, 1, 1] (AExit.then N0 (AExit.inBlock 0 (S65 [1, 1, 1] Q))))) :=
  Eq.mpr (by kernel_rfl) h
abbrev W65_c4 (e : Edit) (x6 : Int) (x4_b : Int) (x5_c : Int) (x4_d : Int) (N0 : LSt U → Prop) (Q : AExit → LSt U → Prop) : Prop := A65 [1, 1, 0, 1, 0, 0, 1, 0, 0, 1, 1, 1, 1, 1, 1] (head65_4 e x6 x4_b x5_c x4_d) (AExit.inBlock 1 (S65 [1, 1, 0, 1, 0, 0, 1, 1] (AExit.then N0 (AExit.inBlock 0 (S65 [1, 1, 1] Q)))))
theorem vc65_c4 (e : Edit) (x6 : Int) (x4_b : Int) (x5_c : Int) (x4_d : Int) (N0 : LSt U → Prop) (Q : AExit → LSt U → Prop) (h : (((decide ((1048576 : Int) < x5_c)) = true → ((InR ((x6 : Int) + 1)) ∧ (N0 (head65_0 e x4_d 1048576 ((x6 : Int) + 1))))) ∧ ((decide ((1048576 : Int) < x5_c)) = false → (InR ((x6 : Int) + 1)) ∧ (N0 (head65_0 e x4_d x5_c ((x6 : Int) + 1)))))) :
    A65 [1, 1, 0, 1, 0, 0, 1, 0, 0, 1, 1, 1, 1, 1, 1] (head65_4 e x6 x4_b x5_c x4_d) (AExit.inBlock 1 (S65 [1, 1, 0, 1, 0, 0, 1, 1] (AExit.then N0 (AExit.inBlock 0 (S65 [1, 1, 1] Q))))) :=
  Eq.mpr (by kernel_rfl) h
def Body65 (e : Edit)  : Prop := awp cfg (know (know65)) (drawOk cfg (know (know65))) Try.f65.ntmps lv65 (cd Try.f65 []) (entry (args65.can (e, ())) []) (EndsQ cfg Try.f65.ntmps Try.f65.results.toList (res65 (e, ())) [])
theorem make65 (hb : ∀ (e : Edit) (_ : Unit), pre65 (e, ()) → Body65 e) : Contract Try.prog cfg 65 spec65 :=
  contract_flat (l := []) cfgOk rfl (trivial) lv65 Try.func65 rfl rfl 1 (fun _ => rfl) (by decide) (fun ⟨e, _⟩ => hb e ())
end Go.AM.Ytpjenobkibfpcaa

namespace Go.AM.Ytpjenobkibfpcaa
open Go.AM Go.Proofs
def args23 : ArgL (Edit × Int × Unit) := (.cons (aEl .edit) (.cons (aInt .i64) .nil))
def pre23 (a : Edit × Int × Unit) : Prop := (massE a.1 ≤ 20000000000 ∧ rngE a.1) ∧ 0 ≤ a.2.1 ∧ a.2.1 ≤ 1000
def mu23 (a : Edit × Int × Unit) : Nat := 2 * massE a.1
noncomputable def res23 (a : Edit × Int × Unit) : V U := .c (.bool (rightE a.1 a.2.1))
noncomputable def spec23 : Fs U := fs args23 (fun a => [pre23 a]) res23
def args64 : ArgL (Int × Op × Int × Unit) := (.cons (aInt .i64) (.cons (aEl .op) (.cons (aInt .i64) .nil)))
def pre64 (a : Int × Op × Int × Unit) : Prop := (massOp a.2.1 ≤ 20000000000 ∧ rngOp a.2.1 ∧ isI a.1) ∧ 0 ≤ a.2.2.1 ∧ a.2.2.1 ≤ 1000
def mu64 (a : Int × Op × Int × Unit) : Nat := 2 * massOp a.2.1 + 1
noncomputable def res64 (a : Int × Op × Int × Unit) : V U := .c (.bool (rightOp a.1 a.2.1 a.2.2.1))
noncomputable def spec64 : Fs U := fs args64 (fun a => [pre64 a]) res64
noncomputable def know23 (N : Nat) : List (FuncId × Fs U) := (23, fs args23 (fun a => [pre23 a, mu23 a < N]) res23) :: (64, fs args64 (fun a => [pre64 a, mu64 a < N]) res64) :: [(62, spec62), (63, spec63), (104, spec104), (37, spec37), (65, spec65)]
def lv23 : Lives U := fun i => match i with
  | 0 => ([(1, []), (2, [])], [((.loc 2), [])])
  | 1 => ([(1, []), (2, []), (24, [])], [((.loc 2), [])])
  | 2 => ([(4, [])], [])
  | 3 => ([(1, []), (2, []), (69, [])], [((.loc 2), [])])
  | 4 => ([(4, [])], [])
  | 5 => ([(1, []), (2, []), (72, [])], [((.loc 2), [])])
  | 6 => ([(4, [])], [])
  | 7 => ([(1, []), (2, []), (5, [])], [((.loc 2), [])])
  | 8 => ([(1, []), (2, []), (5, []), (6, [])], [((.loc 2), [])])
  | 9 => ([(1, []), (2, []), (5, []), (6, []), (97, [])], [((.loc 2), [])])
  | 10 => ([(1, []), (2, []), (5, []), (6, [])], [((.loc 2), [])])
  | 11 => ([(1, []), (2, []), (5, []), (6, []), (7, [])], [((.loc 2), []), ((.loc 7), [])])
  | 12 => ([(1, []), (2, []), (6, []), (7, []), (134, [])], [((.loc 2), []), ((.loc 7), [])])
  | 13 => ([(4, [])], [])
  | 14 => ([(1, []), (2, []), (5, []), (6, [])], [((.loc 2), [])])
  | 15 => ([(1, []), (2, []), (5, [])], [((.loc 2), [])])
  | 16 => ([(1, []), (2, []), (5, []), (8, [])], [((.loc 2), [])])
  | 17 => ([(1, []), (2, []), (5, []), (8, []), (141, [])], [((.loc 2), [])])
  | 18 => ([(1, []), (2, []), (5, []), (8, [])], [((.loc 2), [])])
  | 19 => ([(1, []), (2, []), (5, []), (8, []), (9, [])], [((.loc 2), []), ((.loc 9), [])])
  | 20 => ([(1, []), (2, []), (8, []), (9, []), (171, [])], [((.loc 2), []), ((.loc 9), [])])
  | 21 => ([(4, [])], [])
  | 22 => ([(1, []), (2, []), (5, []), (8, [])], [((.loc 2), [])])
  | 23 => ([(1, []), (2, []), (186, [])], [((.loc 2), [])])
  | 24 => ([(4, [])], [])
  | 25 => ([(1, []), (2, []), (10, [])], [((.loc 2), [])])
  | 26 => ([(1, []), (2, []), (10, []), (191, [])], [((.loc 2), [])])
  | 27 => ([(1, []), (2, []), (10, [])], [((.loc 2), [])])
  | 28 => ([(1, []), (2, []), (10, []), (204, [])], [((.loc 2), [])])
  | 29 => ([(4, [])], [])
  | 30 => ([(11, []), (12, [])], [])
  | 31 => ([(4, [])], [])
  | _ => ([], [])
noncomputable def head23_0 (e : Edit) (d : Int) (x5 : Int) (x6 : Int) : LSt U := (⟨[(1, .c (.int .i64 d)), (2, .ptr (.loc 2) 0), (5, .c (.int .i64 x5)), (6, .c (.int .i64 x6))], [((.loc 2), [.int .i64 (Edit.kind e), .int .i64 (Tree.kind (Edit.old e)), .slice (U := U) .u64 (Tree.words (Edit.old e)) .unk, .slice (U := U) .tree (Tree.kids (Edit.old e)) .unk, .int .i64 (Tree.kind (Edit.new e)), .slice (U := U) .u64 (Tree.words (Edit.new e)) .unk, .slice (U := U) .tree (Tree.kids (Edit.new e)) .unk, .slice (U := U) .wedit (Edit.words e) .unk, .slice (U := U) .kid (Edit.kids e) .unk, .int .i64 (Edit.list e), .slice (U := U) .op (Edit.ops e) .unk])], []⟩ : LSt U)
noncomputable def head23_1 (e : Edit) (d : Int) (x5_a : Int) (x8_a : Int) : LSt U := (⟨[(1, .c (.int .i64 d)), (2, .ptr (.loc 2) 0), (5, .c (.int .i64 x5_a)), (8, .c (.int .i64 x8_a))], [((.loc 2), [.int .i64 (Edit.kind e), .int .i64 (Tree.kind (Edit.old e)), .slice (U := U) .u64 (Tree.words (Edit.old e)) .unk, .slice (U := U) .tree (Tree.kids (Edit.old e)) .unk, .int .i64 (Tree.kind (Edit.new e)), .slice (U := U) .u64 (Tree.words (Edit.new e)) .unk, .slice (U := U) .tree (Tree.kids (Edit.new e)) .unk, .slice (U := U) .wedit (Edit.words e) .unk, .slice (U := U) .kid (Edit.kids e) .unk, .int .i64 (Edit.list e), .slice (U := U) .op (Edit.ops e) .unk])], []⟩ : LSt U)
noncomputable def head23_2 (e : Edit) (d : Int) (x10_b : Int) : LSt U := (⟨[(1, .c (.int .i64 d)), (2, .ptr (.loc 2) 0), (10, .c (.int .i64 x10_b))], [((.loc 2), [.int .i64 (Edit.kind e), .int .i64 (Tree.kind (Edit.old e)), .slice (U := U) .u64 (Tree.words (Edit.old e)) .unk, .slice (U := U) .tree (Tree.kids (Edit.old e)) .unk, .int .i64 (Tree.kind (Edit.new e)), .slice (U := U) .u64 (Tree.words (Edit.new e)) .unk, .slice (U := U) .tree (Tree.kids (Edit.new e)) .unk, .slice (U := U) .wedit (Edit.words e) .unk, .slice (U := U) .kid (Edit.kids e) .unk, .int .i64 (Edit.list e), .slice (U := U) .op (Edit.ops e) .unk])], []⟩ : LSt U)
noncomputable abbrev A23 (N : Nat) (p : List Nat) := awp cfg (know (know23 N)) (drawOk cfg (know (know23 N))) Try.f23.ntmps lv23 (cd Try.f23 p)
noncomputable abbrev S23 (N : Nat) (p : List Nat) := seqK cfg (know (know23 N)) (drawOk cfg (know (know23 N))) Try.f23.ntmps lv23 (cd Try.f23 p)
theorem vc23 (N : Nat) (e : Edit) (d : Int) (Q : AExit → LSt U → Prop) (h : ∀ y_1, y_1 = ((Edit.new e)) → ∀ y_2, y_2 = ((Edit.old e)) → ((Tr ((!((d : Int) == 0)) = true)) ∧ (Tr ((!((d : Int) == 0)) = true)) ∧ ((((d : Int) == 0) = false → (!((d : Int) == 0)) = true)) ∧ (Tr ((!(bif ((d : Int) == 0) then true else (decide (((Edit.kind e) : Int) < 0)))) = true)) ∧ (Tr ((!(bif ((d : Int) == 0) then true else (decide (((Edit.kind e) : Int) < 0)))) = true)) ∧ (((bif ((d : Int) == 0) then true else (decide (((Edit.kind e) : Int) < 0))) = false → (!(bif ((d : Int) == 0) then true else (decide (((Edit.kind e) : Int) < 0)))) = true)) ∧ (((bif (bif ((d : Int) == 0) then true else (decide (((Edit.kind e) : Int) < 0))) then true else (decide ((3 : Int) < (Edit.kind e)))) = true → (Q .ret (⟨[(4, .c (.bool false))], [], []⟩ : LSt U))) ∧ ((bif (bif ((d : Int) == 0) then true else (decide (((Edit.kind e) : Int) < 0))) then true else (decide ((3 : Int) < (Edit.kind e)))) = false → (Tr ((((Edit.kind e) : Int) != 1) = true)) ∧ (Tr ((((Edit.kind e) : Int) != 1) = true)) ∧ ((((Edit.kind e) : Int) != 1) = true → pre62 (y_2, ())) ∧ (Tr ((((Edit.kind e) : Int) != 1) = true)) ∧ (Tr (((((Edit.kind e) : Int) != 1) && (noneT y_2)) = true)) ∧ (Tr (((((Edit.kind e) : Int) != 1) && (noneT y_2)) = true)) ∧ (((((Edit.kind e) : Int) != 1) && (noneT y_2)) = true → pre62 (y_1, ())) ∧ ((((Edit.kind e) : Int) != 1) = true → (True → (((Edit.kind e) : Int) != 1) = true)) ∧ ((((Edit.kind e) : Int) != 1) = true → ((noneT y_2) = true → ((((Edit.kind e) : Int) != 1) && (noneT y_2)) = true)) ∧ (Tr ((((Edit.kind e) : Int) != 1) = true)) ∧ ((Tr ((((Edit.kind e) : Int) != 1) = true))) ∧ (Tr ((!(bif (((Edit.kind e) : Int) != 1) then (!(bif (noneT y_2) then (noneT y_1) else false)) else false)) = true)) ∧ (Tr ((!(bif (((Edit.kind e) : Int) != 1) then (!(bif (noneT y_2) then (noneT y_1) else false)) else false)) = true)) ∧ (Tr ((!(bif (((Edit.kind e) : Int) != 1) then (!(bif (noneT y_2) then (noneT y_1) else false)) else false)) = true)) ∧ (Tr (((!(bif (((Edit.kind e) : Int) != 1) then (!(bif (noneT y_2) then (noneT y_1) else false)) else false)) && (((Edit.kind e) : Int) != 2)) = true)) ∧ (Tr (((!(bif (((Edit.kind e) : Int) != 1) then (!(bif (noneT y_2) then (noneT y_1) else false)) else false)) && (((Edit.kind e) : Int) != 2)) = true)) ∧ (Tr (((!(bif (((Edit.kind e) : Int) != 1) then (!(bif (noneT y_2) then (noneT y_1) else false)) else false)) && (((Edit.kind e) : Int) != 2)) = true)) ∧ (Tr (((!(bif (((Edit.kind e) : Int) != 1) then (!(bif (noneT y_2) then (noneT y_1) else false)) else false)) && (((Edit.kind e) : Int) != 2)) = true)) ∧ (Tr (((!(bif (((Edit.kind e) : Int) != 1) then (!(bif (noneT y_2) then (noneT y_1) else false)) else false)) && (((Edit.kind e) : Int) != 2)) = true)) ∧ (Tr (((!(bif (((Edit.kind e) : Int) != 1) then (!(bif (noneT y_2) then (noneT y_1) else false)) else false)) && (((Edit.kind e) : Int) != 2)) = true)) ∧ (((!(bif (((Edit.kind e) : Int) != 1) then (!(bif (noneT y_2) then (noneT y_1) else false)) else false)) && (((Edit.kind e) : Int) != 2)) = true → InR ((((Edit.words e).length : Int) : Int) + ((Edit.kids e).length : Int))) ∧ (Tr (((!(bif (((Edit.kind e) : Int) != 1) then (!(bif (noneT y_2) then (noneT y_1) else false)) else false)) && (((Edit.kind e) : Int) != 2)) = true)) ∧ ((!(bif (((Edit.kind e) : Int) != 1) then (!(bif (noneT y_2) then (noneT y_1) else false)) else false)) = true → (True → (!(bif (((Edit.kind e) : Int) != 1) then (!(bif (noneT y_2) then (noneT y_1) else false)) else false)) = true)) ∧ ((!(bif (((Edit.kind e) : Int) != 1) then (!(bif (noneT y_2) then (noneT y_1) else false)) else false)) = true → ((((Edit.kind e) : Int) != 2) = true → ((!(bif (((Edit.kind e) : Int) != 1) then (!(bif (noneT y_2) then (noneT y_1) else false)) else false)) && (((Edit.kind e) : Int) != 2)) = true)) ∧ (((bif (((Edit.kind e) : Int) != 1) then (!(bif (noneT y_2) then (noneT y_1) else false)) else false) = false → (!(bif (((Edit.kind e) : Int) != 1) then (!(bif (noneT y_2) then (noneT y_1) else false)) else false)) = true)) ∧ (Tr ((!(bif (bif (((Edit.kind e) : Int) != 1) then (!(bif (noneT y_2) then (noneT y_1) else false)) else false) then true else (bif (((Edit.kind e) : Int) != 2) then (decide ((0 : Int) < ((((Edit.words e).length : Int) : Int) + ((Edit.kids e).length : Int)))) else false))) = true)) ∧ (Tr ((!(bif (bif (((Edit.kind e) : Int) != 1) then (!(bif (noneT y_2) then (noneT y_1) else false)) else false) then true else (bif (((Edit.kind e) : Int) != 2) then (decide ((0 : Int) < ((((Edit.words e).length : Int) : Int) + ((Edit.kids e).length : Int)))) else false))) = true)) ∧ (Tr ((!(bif (bif (((Edit.kind e) : Int) != 1) then (!(bif (noneT y_2) then (noneT y_1) else false)) else false) then true else (bif (((Edit.kind e) : Int) != 2) then (decide ((0 : Int) < ((((Edit.words e).length : Int) : Int) + ((Edit.kids e).length : Int)))) else false))) = true)) ∧ (Tr (((!(bif (bif (((Edit.kind e) : Int) != 1) then (!(bif (noneT y_2) then (noneT y_1) else false)) else false) then true else (bif (((Edit.kind e) : Int) != 2) then (decide ((0 : Int) < ((((Edit.words e).length : Int) : Int) + ((Edit.kids e).length : Int)))) else false))) && (((Edit.kind e) : Int) != 3)) = true)) ∧ (Tr (((!(bif (bif (((Edit.kind e) : Int) != 1) then (!(bif (noneT y_2) then (noneT y_1) else false)) else false) then true else (bif (((Edit.kind e) : Int) != 2) then (decide ((0 : Int) < ((((Edit.words e).length : Int) : Int) + ((Edit.kids e).length : Int)))) else false))) && (((Edit.kind e) : Int) != 3)) = true)) ∧ (Tr (((!(bif (bif (((Edit.kind e) : Int) != 1) then (!(bif (noneT y_2) then (noneT y_1) else false)) else false) then true else (bif (((Edit.kind e) : Int) != 2) then (decide ((0 : Int) < ((((Edit.words e).length : Int) : Int) + ((Edit.kids e).length : Int)))) else false))) && (((Edit.kind e) : Int) != 3)) = true)) ∧ (Tr ((((!(bif (bif (((Edit.kind e) : Int) != 1) then (!(bif (noneT y_2) then (noneT y_1) else false)) else false) then true else (bif (((Edit.kind e) : Int) != 2) then (decide ((0 : Int) < ((((Edit.words e).length : Int) : Int) + ((Edit.kids e).length : Int)))) else false))) && (((Edit.kind e) : Int) != 3)) && (!(((Edit.list e) : Int) != 0))) = true)) ∧ (Tr ((((!(bif (bif (((Edit.kind e) : Int) != 1) then (!(bif (noneT y_2) then (noneT y_1) else false)) else false) then true else (bif (((Edit.kind e) : Int) != 2) then (decide ((0 : Int) < ((((Edit.words e).length : Int) : Int) + ((Edit.kids e).length : Int)))) else false))) && (((Edit.kind e) : Int) != 3)) && (!(((Edit.list e) : Int) != 0))) = true)) ∧ (Tr ((((!(bif (bif (((Edit.kind e) : Int) != 1) then (!(bif (noneT y_2) then (noneT y_1) else false)) else false) then true else (bif (((Edit.kind e) : Int) != 2) then (decide ((0 : Int) < ((((Edit.words e).length : Int) : Int) + ((Edit.kids e).length : Int)))) else false))) && (((Edit.kind e) : Int) != 3)) && (!(((Edit.list e) : Int) != 0))) = true)) ∧ (((!(bif (bif (((Edit.kind e) : Int) != 1) then (!(bif (noneT y_2) then (noneT y_1) else false)) else false) then true else (bif (((Edit.kind e) : Int) != 2) then (decide ((0 : Int) < ((((Edit.words e).length : Int) : Int) + ((Edit.kids e).length : Int)))) else false))) && (((Edit.kind e) : Int) != 3)) = true → (True → ((!(bif (bif (((Edit.kind e) : Int) != 1) then (!(bif (noneT y_2) then (noneT y_1) else false)) else false) then true else (bif (((Edit.kind e) : Int) != 2) then (decide ((0 : Int) < ((((Edit.words e).length : Int) : Int) + ((Edit.kids e).length : Int)))) else false))) && (((Edit.kind e) : Int) != 3)) = true)) ∧ (((!(bif (bif (((Edit.kind e) : Int) != 1) then (!(bif (noneT y_2) then (noneT y_1) else false)) else false) then true else (bif (((Edit.kind e) : Int) != 2) then (decide ((0 : Int) < ((((Edit.words e).length : Int) : Int) + ((Edit.kids e).length : Int)))) else false))) && (((Edit.kind e) : Int) != 3)) = true → ((((Edit.list e) : Int) != 0) = false → (((!(bif (bif (((Edit.kind e) : Int) != 1) then (!(bif (noneT y_2) then (noneT y_1) else false)) else false) then true else (bif (((Edit.kind e) : Int) != 2) then (decide ((0 : Int) < ((((Edit.words e).length : Int) : Int) + ((Edit.kids e).length : Int)))) else false))) && (((Edit.kind e) : Int) != 3)) && (!(((Edit.list e) : Int) != 0))) = true)) ∧ ((!(bif (bif (((Edit.kind e) : Int) != 1) then (!(bif (noneT y_2) then (noneT y_1) else false)) else false) then true else (bif (((Edit.kind e) : Int) != 2) then (decide ((0 : Int) < ((((Edit.words e).length : Int) : Int) + ((Edit.kids e).length : Int)))) else false))) = true → (True → (!(bif (bif (((Edit.kind e) : Int) != 1) then (!(bif (noneT y_2) then (noneT y_1) else false)) else false) then true else (bif (((Edit.kind e) : Int) != 2) then (decide ((0 : Int) < ((((Edit.words e).length : Int) : Int) + ((Edit.kids e).length : Int)))) else false))) = true)) ∧ ((!(bif (bif (((Edit.kind e) : Int) != 1) then (!(bif (noneT y_2) then (noneT y_1) else false)) else false) then true else (bif (((Edit.kind e) : Int) != 2) then (decide ((0 : Int) < ((((Edit.words e).length : Int) : Int) + ((Edit.kids e).length : Int)))) else false))) = true → ((((Edit.kind e) : Int) != 3) = true → ((!(bif (bif (((Edit.kind e) : Int) != 1) then (!(bif (noneT y_2) then (noneT y_1) else false)) else false) then true else (bif (((Edit.kind e) : Int) != 2) then (decide ((0 : Int) < ((((Edit.words e).length : Int) : Int) + ((Edit.kids e).length : Int)))) else false))) && (((Edit.kind e) : Int) != 3)) = true)) ∧ (((bif (bif (((Edit.kind e) : Int) != 1) then (!(bif (noneT y_2) then (noneT y_1) else false)) else false) then true else (bif (((Edit.kind e) : Int) != 2) then (decide ((0 : Int) < ((((Edit.words e).length : Int) : Int) + ((Edit.kids e).length : Int)))) else false)) = false → (!(bif (bif (((Edit.kind e) : Int) != 1) then (!(bif (noneT y_2) then (noneT y_1) else false)) else false) then true else (bif (((Edit.kind e) : Int) != 2) then (decide ((0 : Int) < ((((Edit.words e).length : Int) : Int) + ((Edit.kids e).length : Int)))) else false))) = true)) ∧ (((bif (bif (bif (((Edit.kind e) : Int) != 1) then (!(bif (noneT y_2) then (noneT y_1) else false)) else false) then true else (bif (((Edit.kind e) : Int) != 2) then (decide ((0 : Int) < ((((Edit.words e).length : Int) : Int) + ((Edit.kids e).length : Int)))) else false)) then true else (bif (((Edit.kind e) : Int) != 3) then (bif (((Edit.list e) : Int) != 0) then true else (decide ((0 : Int) < ((Edit.ops e).length : Int)))) else false)) = true → (Q .ret (⟨[(4, .c (.bool false))], [], []⟩ : LSt U))) ∧ ((bif (bif (bif (((Edit.kind e) : Int) != 1) then (!(bif (noneT y_2) then (noneT y_1) else false)) else false) then true else (bif (((Edit.kind e) : Int) != 2) then (decide ((0 : Int) < ((((Edit.words e).length : Int) : Int) + ((Edit.kids e).length : Int)))) else false)) then true else (bif (((Edit.kind e) : Int) != 3) then (bif (((Edit.list e) : Int) != 0) then true else (decide ((0 : Int) < ((Edit.ops e).length : Int)))) else false)) = false → (((((Edit.kind e) : Int) == 1) = true → (pre37 (y_2, 64, ())) ∧ (Tr ((rightT y_2 64) = true)) ∧ (Tr ((rightT y_2 64) = true)) ∧ ((rightT y_2 64) = true → pre37 (y_1, 64, ())) ∧ ((Tr ((rightT y_2 64) = true))) ∧ (Tr ((bif (rightT y_2 64) then (rightT y_1 64) else false) = true)) ∧ (Tr ((bif (rightT y_2 64) then (rightT y_1 64) else false) = true)) ∧ (Tr ((bif (rightT y_2 64) then (rightT y_1 64) else false) = true)) ∧ ((Tr ((bif (rightT y_2 64) then (rightT y_1 64) else false) = true))) ∧ (Tr ((bif (bif (rightT y_2 64) then (rightT y_1 64) else false) then (((Tree.kind (Edit.old e)) : Int) != 10) else false) = true)) ∧ (Tr ((bif (bif (rightT y_2 64) then (rightT y_1 64) else false) then (((Tree.kind (Edit.old e)) : Int) != 10) else false) = true)) ∧ (Tr ((bif (bif (rightT y_2 64) then (rightT y_1 64) else false) then (((Tree.kind (Edit.old e)) : Int) != 10) else false) = true)) ∧ ((Tr ((bif (bif (rightT y_2 64) then (rightT y_1 64) else false) then (((Tree.kind (Edit.old e)) : Int) != 10) else false) = true))) ∧ (Q .ret (⟨[(4, .c (.bool (bif (bif (bif (rightT y_2 64) then (rightT y_1 64) else false) then (((Tree.kind (Edit.old e)) : Int) != 10) else false) then (((Tree.kind (Edit.new e)) : Int) != 10) else false)))], [], []⟩ : LSt U))) ∧ ((((Edit.kind e) : Int) == 1) = false → ((LoopWp (A23 N [1, 1, 1, 1, 1, 0, 1, 0, 0]) (head23_0 e d (-1) 0) (AExit.inBlock 0 (S23 N [1, 1, 1, 1, 1, 1] Q)))))))))))) :
    A23 N [] (⟨[(0, .agg [.int .i64 (Edit.kind e), .int .i64 (Tree.kind (Edit.old e)), .slice (U := U) .u64 (Tree.words (Edit.old e)) .unk, .slice (U := U) .tree (Tree.kids (Edit.old e)) .unk, .int .i64 (Tree.kind (Edit.new e)), .slice (U := U) .u64 (Tree.words (Edit.new e)) .unk, .slice (U := U) .tree (Tree.kids (Edit.new e)) .unk, .slice (U := U) .wedit (Edit.words e) .unk, .slice (U := U) .kid (Edit.kids e) .unk, .int .i64 (Edit.list e), .slice (U := U) .op (Edit.ops e) .unk]), (1, .c (.int .i64 d))], [], []⟩ : LSt U) Q :=
  Eq.mpr (by kernel_rfl) (h _ (reTree_eq _) _ (reTree_eq _))
theorem vc23_l0 (N : Nat) (e : Edit) (d : Int) (x5 : Int) (x6 : Int) (N0 : LSt U → Prop) (Q : AExit → LSt U → Prop) (h : ∀ y_1, y_1 = (List.getD (Edit.words e) (Int.toNat x6) (WEdit.mk 0 0 0 0)) → (((decide ((x6 : Int) < ((Edit.words e).length : Int))) = true → ((0 : Int) ≤ x6 ∧ x6 < ((Edit.words e).length : Int)) ∧ ((Tr ((!(decide (((WEdit.at_ y_1) : Int) ≤ x5))) = true)) ∧ (Tr ((!(decide (((WEdit.at_ y_1) : Int) ≤ x5))) = true)) ∧ (((decide (((WEdit.at_ y_1) : Int) ≤ x5)) = false → (!(decide (((WEdit.at_ y_1) : Int) ≤ x5))) = true)) ∧ (Tr ((!(bif (decide (((WEdit.at_ y_1) : Int) ≤ x5)) then true else (decide ((65534 : Int) < (WEdit.at_ y_1))))) = true)) ∧ (Tr ((!(bif (decide (((WEdit.at_ y_1) : Int) ≤ x5)) then true else (decide ((65534 : Int) < (WEdit.at_ y_1))))) = true)) ∧ (((bif (decide (((WEdit.at_ y_1) : Int) ≤ x5)) then true else (decide ((65534 : Int) < (WEdit.at_ y_1)))) = false → (!(bif (decide (((WEdit.at_ y_1) : Int) ≤ x5)) then true else (decide ((65534 : Int) < (WEdit.at_ y_1))))) = true)) ∧ (Tr ((!(bif (bif (decide (((WEdit.at_ y_1) : Int) ≤ x5)) then true else (decide ((65534 : Int) < (WEdit.at_ y_1)))) then true else (((WEdit.mask y_1) : Int) == 0))) = true)) ∧ (Tr ((!(bif (bif (decide (((WEdit.at_ y_1) : Int) ≤ x5)) then true else (decide ((65534 : Int) < (WEdit.at_ y_1)))) then true else (((WEdit.mask y_1) : Int) == 0))) = true)) ∧ (Tr ((!(bif (bif (decide (((WEdit.at_ y_1) : Int) ≤ x5)) then true else (decide ((65534 : Int) < (WEdit.at_ y_1)))) then true else (((WEdit.mask y_1) : Int) == 0))) = true)) ∧ (Tr ((!(bif (bif (decide (((WEdit.at_ y_1) : Int) ≤ x5)) then true else (decide ((65534 : Int) < (WEdit.at_ y_1)))) then true else (((WEdit.mask y_1) : Int) == 0))) = true)) ∧ ((!(bif (bif (decide (((WEdit.at_ y_1) : Int) ≤ x5)) then true else (decide ((65534 : Int) < (WEdit.at_ y_1)))) then true else (((WEdit.mask y_1) : Int) == 0))) = true → pre63 ((WEdit.old y_1), (WEdit.mask y_1), ())) ∧ (Tr ((!(bif (bif (decide (((WEdit.at_ y_1) : Int) ≤ x5)) then true else (decide ((65534 : Int) < (WEdit.at_ y_1)))) then true else (((WEdit.mask y_1) : Int) == 0))) = true)) ∧ (((bif (bif (decide (((WEdit.at_ y_1) : Int) ≤ x5)) then true else (decide ((65534 : Int) < (WEdit.at_ y_1)))) then true else (((WEdit.mask y_1) : Int) == 0)) = false → (!(bif (bif (decide (((WEdit.at_ y_1) : Int) ≤ x5)) then true else (decide ((65534 : Int) < (WEdit.at_ y_1)))) then true else (((WEdit.mask y_1) : Int) == 0))) = true)) ∧ (Tr ((!(bif (bif (bif (decide (((WEdit.at_ y_1) : Int) ≤ x5)) then true else (decide ((65534 : Int) < (WEdit.at_ y_1)))) then true else (((WEdit.mask y_1) : Int) == 0)) then true else (!(withinW (WEdit.old y_1) (WEdit.mask y_1))))) = true)) ∧ (Tr ((!(bif (bif (bif (decide (((WEdit.at_ y_1) : Int) ≤ x5)) then true else (decide ((65534 : Int) < (WEdit.at_ y_1)))) then true else (((WEdit.mask y_1) : Int) == 0)) then true else (!(withinW (WEdit.old y_1) (WEdit.mask y_1))))) = true)) ∧ (Tr ((!(bif (bif (bif (decide (((WEdit.at_ y_1) : Int) ≤ x5)) then true else (decide ((65534 : Int) < (WEdit.at_ y_1)))) then true else (((WEdit.mask y_1) : Int) == 0)) then true else (!(withinW (WEdit.old y_1) (WEdit.mask y_1))))) = true)) ∧ (Tr ((!(bif (bif (bif (decide (((WEdit.at_ y_1) : Int) ≤ x5)) then true else (decide ((65534 : Int) < (WEdit.at_ y_1)))) then true else (((WEdit.mask y_1) : Int) == 0)) then true else (!(withinW (WEdit.old y_1) (WEdit.mask y_1))))) = true)) ∧ ((!(bif (bif (bif (decide (((WEdit.at_ y_1) : Int) ≤ x5)) then true else (decide ((65534 : Int) < (WEdit.at_ y_1)))) then true else (((WEdit.mask y_1) : Int) == 0)) then true else (!(withinW (WEdit.old y_1) (WEdit.mask y_1))))) = true → pre63 ((WEdit.new y_1), (WEdit.mask y_1), ())) ∧ (Tr ((!(bif (bif (bif (decide (((WEdit.at_ y_1) : Int) ≤ x5)) then true else (decide ((65534 : Int) < (WEdit.at_ y_1)))) then true else (((WEdit.mask y_1) : Int) == 0)) then true else (!(withinW (WEdit.old y_1) (WEdit.mask y_1))))) = true)) ∧ (((bif (bif (bif (decide (((WEdit.at_ y_1) : Int) ≤ x5)) then true else (decide ((65534 : Int) < (WEdit.at_ y_1)))) then true else (((WEdit.mask y_1) : Int) == 0)) then true else (!(withinW (WEdit.old y_1) (WEdit.mask y_1)))) = false → (!(bif (bif (bif (decide (((WEdit.at_ y_1) : Int) ≤ x5)) then true else (decide ((65534 : Int) < (WEdit.at_ y_1)))) then true else (((WEdit.mask y_1) : Int) == 0)) then true else (!(withinW (WEdit.old y_1) (WEdit.mask y_1))))) = true)) ∧ (((bif (bif (bif (bif (decide (((WEdit.at_ y_1) : Int) ≤ x5)) then true else (decide ((65534 : Int) < (WEdit.at_ y_1)))) then true else (((WEdit.mask y_1) : Int) == 0)) then true else (!(withinW (WEdit.old y_1) (WEdit.mask y_1)))) then true else (!(withinW (WEdit.new y_1) (WEdit.mask y_1)))) = true → (Q .ret (⟨[(4, .c (.bool false))], [], []⟩ : LSt U))) ∧ ((bif (bif (bif (bif (decide (((WEdit.at_ y_1) : Int) ≤ x5)) then true else (decide ((65534 : Int) < (WEdit.at_ y_1)))) then true else (((WEdit.mask y_1) : Int) == 0)) then true else (!(withinW (WEdit.old y_1) (WEdit.mask y_1)))) then true else (!(withinW (WEdit.new y_1) (WEdit.mask y_1)))) = false → ((InR ((x6 : Int) + 1)) ∧ (N0 (head23_0 e d (WEdit.at_ y_1) ((x6 : Int) + 1)))))))) ∧ ((decide ((x6 : Int) < ((Edit.words e).length : Int))) = false → ((LoopWp (A23 N [1, 1, 1, 1, 1, 1, 1, 0, 1, 0, 0]) (head23_1 e d (-1) 0) (AExit.inBlock 2 (S23 N [1, 1, 1, 1, 1, 1, 1, 1] Q))))))) :
    A23 N [1, 1, 1, 1, 1, 0, 1, 0, 0] (head23_0 e d x5 x6) (AExit.then N0 (AExit.inBlock 0 (S23 N [1, 1, 1, 1, 1, 1] Q))) :=
  Eq.mpr (by kernel_rfl) (h _ rfl)
theorem vc23_l1 (N : Nat) (e : Edit) (d : Int) (x5_a : Int) (x8_a : Int) (N1 : LSt U → Prop) (Q : AExit → LSt U → Prop) (h : ∀ y_1, y_1 = (List.getD (Edit.kids e) (Int.toNat x8_a) (KidOf.mk 0 Edit.nil)) → ∀ y_2, y_2 = ((KidOf.e y_1)) → (((decide ((x8_a : Int) < ((Edit.kids e).length : Int))) = true → ((0 : Int) ≤ x8_a ∧ x8_a < ((Edit.kids e).length : Int)) ∧ ((Tr ((!(decide (((KidOf.at_ y_1) : Int) ≤ x5_a))) = true)) ∧ (Tr ((!(decide (((KidOf.at_ y_1) : Int) ≤ x5_a))) = true)) ∧ (((decide (((KidOf.at_ y_1) : Int) ≤ x5_a)) = false → (!(decide (((KidOf.at_ y_1) : Int) ≤ x5_a))) = true)) ∧ (Tr ((!(bif (decide (((KidOf.at_ y_1) : Int) ≤ x5_a)) then true else (decide ((65534 : Int) < (KidOf.at_ y_1))))) = true)) ∧ (Tr ((!(bif (decide (((KidOf.at_ y_1) : Int) ≤ x5_a)) then true else (decide ((65534 : Int) < (KidOf.at_ y_1))))) = true)) ∧ (Tr ((!(bif (decide (((KidOf.at_ y_1) : Int) ≤ x5_a)) then true else (decide ((65534 : Int) < (KidOf.at_ y_1))))) = true)) ∧ (((bif (decide (((KidOf.at_ y_1) : Int) ≤ x5_a)) then true else (decide ((65534 : Int) < (KidOf.at_ y_1)))) = false → (!(bif (decide (((KidOf.at_ y_1) : Int) ≤ x5_a)) then true else (decide ((65534 : Int) < (KidOf.at_ y_1))))) = true)) ∧ (Tr ((!(bif (bif (decide (((KidOf.at_ y_1) : Int) ≤ x5_a)) then true else (decide ((65534 : Int) < (KidOf.at_ y_1)))) then true else (((Edit.kind (KidOf.e y_1)) : Int) == 0))) = true)) ∧ (Tr ((!(bif (bif (decide (((KidOf.at_ y_1) : Int) ≤ x5_a)) then true else (decide ((65534 : Int) < (KidOf.at_ y_1)))) then true else (((Edit.kind (KidOf.e y_1)) : Int) == 0))) = true)) ∧ ((!(bif (bif (decide (((KidOf.at_ y_1) : Int) ≤ x5_a)) then true else (decide ((65534 : Int) < (KidOf.at_ y_1)))) then true else (((Edit.kind (KidOf.e y_1)) : Int) == 0))) = true → InR ((d : Int) - 1)) ∧ (Tr ((!(bif (bif (decide (((KidOf.at_ y_1) : Int) ≤ x5_a)) then true else (decide ((65534 : Int) < (KidOf.at_ y_1)))) then true else (((Edit.kind (KidOf.e y_1)) : Int) == 0))) = true)) ∧ (Tr ((!(bif (bif (decide (((KidOf.at_ y_1) : Int) ≤ x5_a)) then true else (decide ((65534 : Int) < (KidOf.at_ y_1)))) then true else (((Edit.kind (KidOf.e y_1)) : Int) == 0))) = true)) ∧ ((!(bif (bif (decide (((KidOf.at_ y_1) : Int) ≤ x5_a)) then true else (decide ((65534 : Int) < (KidOf.at_ y_1)))) then true else (((Edit.kind (KidOf.e y_1)) : Int) == 0))) = true → pre23 (y_2, ((d : Int) - 1), ())) ∧ ((!(bif (bif (decide (((KidOf.at_ y_1) : Int) ≤ x5_a)) then true else (decide ((65534 : Int) < (KidOf.at_ y_1)))) then true else (((Edit.kind (KidOf.e y_1)) : Int) == 0))) = true → mu23 (y_2, ((d : Int) - 1), ()) < N) ∧ (Tr ((!(bif (bif (decide (((KidOf.at_ y_1) : Int) ≤ x5_a)) then true else (decide ((65534 : Int) < (KidOf.at_ y_1)))) then true else (((Edit.kind (KidOf.e y_1)) : Int) == 0))) = true)) ∧ (((bif (bif (decide (((KidOf.at_ y_1) : Int) ≤ x5_a)) then true else (decide ((65534 : Int) < (KidOf.at_ y_1)))) then true else (((Edit.kind (KidOf.e y_1)) : Int) == 0)) = false → (!(bif (bif (decide (((KidOf.at_ y_1) : Int) ≤ x5_a)) then true else (decide ((65534 : Int) < (KidOf.at_ y_1)))) then true else (((Edit.kind (KidOf.e y_1)) : Int) == 0))) = true)) ∧ (((bif (bif (bif (decide (((KidOf.at_ y_1) : Int) ≤ x5_a)) then true else (decide ((65534 : Int) < (KidOf.at_ y_1)))) then true else (((Edit.kind (KidOf.e y_1)) : Int) == 0)) then true else (!(rightE y_2 ((d : Int) - 1)))) = true → (Q .ret (⟨[(4, .c (.bool false))], [], []⟩ : LSt U))) ∧ ((bif (bif (bif (decide (((KidOf.at_ y_1) : Int) ≤ x5_a)) then true else (decide ((65534 : Int) < (KidOf.at_ y_1)))) then true else (((Edit.kind (KidOf.e y_1)) : Int) == 0)) then true else (!(rightE y_2 ((d : Int) - 1)))) = false → ((InR ((x8_a : Int) + 1)) ∧ (N1 (head23_1 e d (KidOf.at_ y_1) ((x8_a : Int) + 1)))))))) ∧ ((decide ((x8_a : Int) < ((Edit.kids e).length : Int))) = false → (Tr ((((Edit.kind e) : Int) == 3) = true)) ∧ (Tr ((((Edit.kind e) : Int) == 3) = true)) ∧ (Tr ((((Edit.kind e) : Int) == 3) = true)) ∧ (Tr (((((Edit.kind e) : Int) == 3) && (!(decide (((Edit.list e) : Int) < 2)))) = true)) ∧ (Tr (((((Edit.kind e) : Int) == 3) && (!(decide (((Edit.list e) : Int) < 2)))) = true)) ∧ ((((Edit.kind e) : Int) == 3) = true → (True → (((Edit.kind e) : Int) == 3) = true)) ∧ ((((Edit.kind e) : Int) == 3) = true → ((decide (((Edit.list e) : Int) < 2)) = false → ((((Edit.kind e) : Int) == 3) && (!(decide (((Edit.list e) : Int) < 2)))) = true)) ∧ ((Tr ((((Edit.kind e) : Int) == 3) = true))) ∧ (((bif (((Edit.kind e) : Int) == 3) then (bif (decide (((Edit.list e) : Int) < 2)) then true else (decide ((9 : Int) < (Edit.list e)))) else false) = true → (Q .ret (⟨[(4, .c (.bool false))], [], []⟩ : LSt U))) ∧ ((bif (((Edit.kind e) : Int) == 3) then (bif (decide (((Edit.list e) : Int) < 2)) then true else (decide ((9 : Int) < (Edit.list e)))) else false) = false → (LoopWp (A23 N [1, 1, 1, 1, 1, 1, 1, 1, 1, 0, 1, 0, 0]) (head23_2 e d 0) (AExit.inBlock 4 (S23 N [1, 1, 1, 1, 1, 1, 1, 1, 1, 1] Q)))))))) :
    A23 N [1, 1, 1, 1, 1, 1, 1, 0, 1, 0, 0] (head23_1 e d x5_a x8_a) (AExit.then N1 (AExit.inBlock 2 (S23 N [1, 1, 1, 1, 1, 1, 1, 1] Q))) :=
  Eq.mpr (by kernel_rfl) (h _ rfl _ (reEdit_eq _))
theorem vc23_l2 (N : Nat) (e : Edit) (d : Int) (x10_b : Int) (N2 : LSt U → Prop) (Q : AExit → LSt U → Prop) (h : ∀ y_1, y_1 = (e) → ∀ y_2, y_2 = (List.getD (Edit.ops e) (Int.toNat x10_b) Op.nil) → ∀ y_3, y_3 = (y_2) → (((decide ((x10_b : Int) < ((Edit.ops e).length : Int))) = true → ((0 : Int) ≤ x10_b ∧ x10_b < ((Edit.ops e).length : Int)) ∧ (InR ((d : Int) - 1)) ∧ (pre64 ((Edit.list e), y_3, ((d : Int) - 1), ())) ∧ (mu64 ((Edit.list e), y_3, ((d : Int) - 1), ()) < N) ∧ (((!(rightOp (Edit.list e) y_3 ((d : Int) - 1))) = true → (Q .ret (⟨[(4, .c (.bool false))], [], []⟩ : LSt U))) ∧ ((!(rightOp (Edit.list e) y_3 ((d : Int) - 1))) = false → (InR ((x10_b : Int) + 1)) ∧ (N2 (head23_2 e d ((x10_b : Int) + 1)))))) ∧ ((decide ((x10_b : Int) < ((Edit.ops e).length : Int))) = false → (pre65 (y_1, ())) ∧ ((Tr ((decide (((lenA (Edit.ops y_1) 0) : Int) < 1048576)) = true)) ∧ ((Tr ((decide (((lenA (Edit.ops y_1) 0) : Int) < 1048576)) = true))) ∧ (Q .ret (⟨[(4, .c (.bool (bif (decide (((lenA (Edit.ops y_1) 0) : Int) < 1048576)) then (decide (((lenB (Edit.ops y_1) 0) : Int) < 1048576)) else false)))], [], []⟩ : LSt U)))))) :
    A23 N [1, 1, 1, 1, 1, 1, 1, 1, 1, 0, 1, 0, 0] (head23_2 e d x10_b) (AExit.then N2 (AExit.inBlock 4 (S23 N [1, 1, 1, 1, 1, 1, 1, 1, 1, 1] Q))) :=
  Eq.mpr (by kernel_rfl) (h _ (reEdit_eq _) _ rfl _ (reOp_eq _))
def Body23 (N : Nat) (e : Edit) (d : Int)  : Prop := awp cfg (know (know23 N)) (drawOk cfg (know (know23 N))) Try.f23.ntmps lv23 (cd Try.f23 []) (entry (args23.can (e, d, ())) []) (EndsQ cfg Try.f23.ntmps Try.f23.results.toList (res23 (e, d, ())) [])
abbrev HB23 : Prop := ∀ (N : Nat) (e : Edit) (d : Int) (_ : Unit), pre23 (e, d, ()) → mu23 (e, d, ()) < N + 1 → Body23 N e d
noncomputable def know64 (N : Nat) : List (FuncId × Fs U) := (23, fs args23 (fun a => [pre23 a, mu23 a < N]) res23) :: (64, fs args64 (fun a => [pre64 a, mu64 a < N]) res64) :: [(62, spec62), (63, spec63), (104, spec104), (37, spec37), (65, spec65)]
def lv64 : Lives U := fun i => match i with
  | 0 => ([(0, []), (2, []), (4, [])], [((.loc 4), [])])
  | 1 => ([(0, []), (2, []), (4, []), (10, [])], [((.loc 4), [])])
  | 2 => ([(6, [])], [])
  | 3 => ([(0, []), (2, []), (4, []), (42, [])], [((.loc 4), [])])
  | 4 => ([(6, [])], [])
  | 5 => ([(0, []), (2, []), (4, []), (45, [])], [((.loc 4), [])])
  | 6 => ([(0, []), (4, []), (7, [])], [((.loc 4), [])])
  | 7 => ([(0, []), (4, []), (7, []), (50, [])], [((.loc 4), [])])
  | 8 => ([(0, []), (4, []), (7, [])], [((.loc 4), [])])
  | 9 => ([(0, []), (4, []), (7, []), (62, [])], [((.loc 4), [])])
  | 10 => ([(6, [])], [])
  | 11 => ([(6, [])], [])
  | 12 => ([(0, []), (4, []), (92, [])], [((.loc 4), [])])
  | 13 => ([(6, [])], [])
  | 14 => ([(6, [])], [])
  | _ => ([], [])
noncomputable def head64_0 (list : Int) (o : Op) (d : Int) (x7 : Int) : LSt U := (⟨[(0, .c (.int .i64 list)), (4, .ptr (.loc 4) 0), (7, .c (.int .i64 x7))], [((.loc 4), [.int .i64 (OpOf.kind o), .int .i64 (OpOf.n o), .slice (U := U) .tree (OpOf.l o) .unk, .int .i64 (Edit.kind (OpOf.e o)), .int .i64 (Tree.kind (Edit.old (OpOf.e o))), .slice (U := U) .u64 (Tree.words (Edit.old (OpOf.e o))) .unk, .slice (U := U) .tree (Tree.kids (Edit.old (OpOf.e o))) .unk, .int .i64 (Tree.kind (Edit.new (OpOf.e o))), .slice (U := U) .u64 (Tree.words (Edit.new (OpOf.e o))) .unk, .slice (U := U) .tree (Tree.kids (Edit.new (OpOf.e o))) .unk, .slice (U := U) .wedit (Edit.words (OpOf.e o)) .unk, .slice (U := U) .kid (Edit.kids (OpOf.e o)) .unk, .int .i64 (Edit.list (OpOf.e o)), .slice (U := U) .op (Edit.ops (OpOf.e o)) .unk])], []⟩ : LSt U)
noncomputable abbrev A64 (N : Nat) (p : List Nat) := awp cfg (know (know64 N)) (drawOk cfg (know (know64 N))) Try.f64.ntmps lv64 (cd Try.f64 p)
noncomputable abbrev S64 (N : Nat) (p : List Nat) := seqK cfg (know (know64 N)) (drawOk cfg (know (know64 N))) Try.f64.ntmps lv64 (cd Try.f64 p)
theorem vc64 (N : Nat) (list : Int) (o : Op) (d : Int) (Q : AExit → LSt U → Prop) (h : ∀ y_1, y_1 = ((OpOf.e o)) → ((((((OpOf.kind o) : Int) == 0) = true → (Tr ((decide ((1 : Int) ≤ (OpOf.n o))) = true)) ∧ (Tr ((decide ((1 : Int) ≤ (OpOf.n o))) = true)) ∧ ((Tr ((decide ((1 : Int) ≤ (OpOf.n o))) = true))) ∧ (Tr ((bif (decide ((1 : Int) ≤ (OpOf.n o))) then (decide (((OpOf.n o) : Int) ≤ 1048576)) else false) = true)) ∧ (Tr ((bif (decide ((1 : Int) ≤ (OpOf.n o))) then (decide (((OpOf.n o) : Int) ≤ 1048576)) else false) = true)) ∧ (Tr ((bif (decide ((1 : Int) ≤ (OpOf.n o))) then (decide (((OpOf.n o) : Int) ≤ 1048576)) else false) = true)) ∧ ((Tr ((bif (decide ((1 : Int) ≤ (OpOf.n o))) then (decide (((OpOf.n o) : Int) ≤ 1048576)) else false) = true))) ∧ (Tr ((bif (bif (decide ((1 : Int) ≤ (OpOf.n o))) then (decide (((OpOf.n o) : Int) ≤ 1048576)) else false) then ((((OpOf.l o).length : Int) : Int) == 0) else false) = true)) ∧ (Tr ((bif (bif (decide ((1 : Int) ≤ (OpOf.n o))) then (decide (((OpOf.n o) : Int) ≤ 1048576)) else false) then ((((OpOf.l o).length : Int) : Int) == 0) else false) = true)) ∧ ((bif (bif (decide ((1 : Int) ≤ (OpOf.n o))) then (decide (((OpOf.n o) : Int) ≤ 1048576)) else false) then ((((OpOf.l o).length : Int) : Int) == 0) else false) = true → pre104 (y_1, ())) ∧ ((Tr ((bif (bif (decide ((1 : Int) ≤ (OpOf.n o))) then (decide (((OpOf.n o) : Int) ≤ 1048576)) else false) then ((((OpOf.l o).length : Int) : Int) == 0) else false) = true))) ∧ (Q .ret (⟨[(6, .c (.bool (bif (bif (bif (decide ((1 : Int) ≤ (OpOf.n o))) then (decide (((OpOf.n o) : Int) ≤ 1048576)) else false) then ((((OpOf.l o).length : Int) : Int) == 0) else false) then (sameE y_1) else false)))], [], []⟩ : LSt U))) ∧ ((((OpOf.kind o) : Int) == 0) = false → (Tr ((!(((OpOf.n o) : Int) != 0)) = true)) ∧ (Tr ((!(((OpOf.n o) : Int) != 0)) = true)) ∧ (((((OpOf.n o) : Int) != 0) = false → (!(((OpOf.n o) : Int) != 0)) = true)) ∧ (Tr ((!(bif (((OpOf.n o) : Int) != 0) then true else (decide (((OpOf.kind o) : Int) < 0)))) = true)) ∧ (Tr ((!(bif (((OpOf.n o) : Int) != 0) then true else (decide (((OpOf.kind o) : Int) < 0)))) = true)) ∧ (((bif (((OpOf.n o) : Int) != 0) then true else (decide (((OpOf.kind o) : Int) < 0))) = false → (!(bif (((OpOf.n o) : Int) != 0) then true else (decide (((OpOf.kind o) : Int) < 0)))) = true)) ∧ (((bif (bif (((OpOf.n o) : Int) != 0) then true else (decide (((OpOf.kind o) : Int) < 0))) then true else (decide ((3 : Int) < (OpOf.kind o)))) = true → (Q .ret (⟨[(6, .c (.bool false))], [], []⟩ : LSt U))) ∧ ((bif (bif (((OpOf.n o) : Int) != 0) then true else (decide (((OpOf.kind o) : Int) < 0))) then true else (decide ((3 : Int) < (OpOf.kind o)))) = false → (((decide (((OpOf.kind o) : Int) < 3)) = true → (LoopWp (A64 N [1, 1, 1, 0, 1, 0, 0, 1, 0, 0]) (head64_0 list o d 0) (AExit.inBlock 0 (S64 N [1, 1, 1, 0, 1, 0, 1] (S64 N [1, 1, 1, 1] Q))))) ∧ ((decide (((OpOf.kind o) : Int) < 3)) = false → (Tr ((!(decide ((0 : Int) < ((OpOf.l o).length : Int)))) = true)) ∧ (Tr ((!(decide ((0 : Int) < ((OpOf.l o).length : Int)))) = true)) ∧ (Tr ((!(decide ((0 : Int) < ((OpOf.l o).length : Int)))) = true)) ∧ (((decide ((0 : Int) < ((OpOf.l o).length : Int))) = false → (!(decide ((0 : Int) < ((OpOf.l o).length : Int)))) = true)) ∧ (Tr ((!(bif (decide ((0 : Int) < ((OpOf.l o).length : Int))) then true else (((Edit.kind (OpOf.e o)) : Int) == 0))) = true)) ∧ (((bif (decide ((0 : Int) < ((OpOf.l o).length : Int))) then true else (((Edit.kind (OpOf.e o)) : Int) == 0)) = false → (!(bif (decide ((0 : Int) < ((OpOf.l o).length : Int))) then true else (((Edit.kind (OpOf.e o)) : Int) == 0))) = true)) ∧ (Tr ((!(bif (bif (decide ((0 : Int) < ((OpOf.l o).length : Int))) then true else (((Edit.kind (OpOf.e o)) : Int) == 0)) then true else (decide ((list : Int) ≤ 7)))) = true)) ∧ (Tr ((!(bif (bif (decide ((0 : Int) < ((OpOf.l o).length : Int))) then true else (((Edit.kind (OpOf.e o)) : Int) == 0)) then true else (decide ((list : Int) ≤ 7)))) = true)) ∧ (Tr ((!(bif (bif (decide ((0 : Int) < ((OpOf.l o).length : Int))) then true else (((Edit.kind (OpOf.e o)) : Int) == 0)) then true else (decide ((list : Int) ≤ 7)))) = true)) ∧ ((!(bif (bif (decide ((0 : Int) < ((OpOf.l o).length : Int))) then true else (((Edit.kind (OpOf.e o)) : Int) == 0)) then true else (decide ((list : Int) ≤ 7)))) = true → pre23 (y_1, d, ())) ∧ ((!(bif (bif (decide ((0 : Int) < ((OpOf.l o).length : Int))) then true else (((Edit.kind (OpOf.e o)) : Int) == 0)) then true else (decide ((list : Int) ≤ 7)))) = true → mu23 (y_1, d, ()) < N) ∧ (Tr ((!(bif (bif (decide ((0 : Int) < ((OpOf.l o).length : Int))) then true else (((Edit.kind (OpOf.e o)) : Int) == 0)) then true else (decide ((list : Int) ≤ 7)))) = true)) ∧ (((bif (bif (decide ((0 : Int) < ((OpOf.l o).length : Int))) then true else (((Edit.kind (OpOf.e o)) : Int) == 0)) then true else (decide ((list : Int) ≤ 7))) = false → (!(bif (bif (decide ((0 : Int) < ((OpOf.l o).length : Int))) then true else (((Edit.kind (OpOf.e o)) : Int) == 0)) then true else (decide ((list : Int) ≤ 7)))) = true)) ∧ (((bif (bif (bif (decide ((0 : Int) < ((OpOf.l o).length : Int))) then true else (((Edit.kind (OpOf.e o)) : Int) == 0)) then true else (decide ((list : Int) ≤ 7))) then true else (!(rightE y_1 d))) = true → (Q .ret (⟨[(6, .c (.bool false))], [], []⟩ : LSt U))) ∧ ((bif (bif (bif (decide ((0 : Int) < ((OpOf.l o).length : Int))) then true else (((Edit.kind (OpOf.e o)) : Int) == 0)) then true else (decide ((list : Int) ≤ 7))) then true else (!(rightE y_1 d))) = false → (Tr ((!((list : Int) == 8)) = true)) ∧ (Tr ((!((list : Int) == 8)) = true)) ∧ (Tr ((!((list : Int) == 8)) = true)) ∧ ((((list : Int) == 8) = false → (!((list : Int) == 8)) = true)) ∧ (Tr ((!(bif ((list : Int) == 8) then true else (((Edit.kind (OpOf.e o)) : Int) == 2))) = true)) ∧ (Tr ((!(bif ((list : Int) == 8) then true else (((Edit.kind (OpOf.e o)) : Int) == 2))) = true)) ∧ (Tr ((!(bif ((list : Int) == 8) then true else (((Edit.kind (OpOf.e o)) : Int) == 2))) = true)) ∧ (Tr ((!(bif ((list : Int) == 8) then true else (((Edit.kind (OpOf.e o)) : Int) == 2))) = true)) ∧ (Tr (((!(bif ((list : Int) == 8) then true else (((Edit.kind (OpOf.e o)) : Int) == 2))) && (((Edit.kind (OpOf.e o)) : Int) == 1)) = true)) ∧ (Tr (((!(bif ((list : Int) == 8) then true else (((Edit.kind (OpOf.e o)) : Int) == 2))) && (((Edit.kind (OpOf.e o)) : Int) == 1)) = true)) ∧ (Tr (((!(bif ((list : Int) == 8) then true else (((Edit.kind (OpOf.e o)) : Int) == 2))) && (((Edit.kind (OpOf.e o)) : Int) == 1)) = true)) ∧ (Tr (((!(bif ((list : Int) == 8) then true else (((Edit.kind (OpOf.e o)) : Int) == 2))) && (((Edit.kind (OpOf.e o)) : Int) == 1)) = true)) ∧ ((!(bif ((list : Int) == 8) then true else (((Edit.kind (OpOf.e o)) : Int) == 2))) = true → (True → (!(bif ((list : Int) == 8) then true else (((Edit.kind (OpOf.e o)) : Int) == 2))) = true)) ∧ ((!(bif ((list : Int) == 8) then true else (((Edit.kind (OpOf.e o)) : Int) == 2))) = true → ((((Edit.kind (OpOf.e o)) : Int) == 1) = true → ((!(bif ((list : Int) == 8) then true else (((Edit.kind (OpOf.e o)) : Int) == 2))) && (((Edit.kind (OpOf.e o)) : Int) == 1)) = true)) ∧ (Tr ((!(bif ((list : Int) == 8) then true else (((Edit.kind (OpOf.e o)) : Int) == 2))) = true)) ∧ (Tr (((!(bif ((list : Int) == 8) then true else (((Edit.kind (OpOf.e o)) : Int) == 2))) && (bif (((Edit.kind (OpOf.e o)) : Int) == 1) then (((Tree.kind (Edit.old (OpOf.e o))) : Int) == 1) else false)) = true)) ∧ (Tr (((!(bif ((list : Int) == 8) then true else (((Edit.kind (OpOf.e o)) : Int) == 2))) && (bif (((Edit.kind (OpOf.e o)) : Int) == 1) then (((Tree.kind (Edit.old (OpOf.e o))) : Int) == 1) else false)) = true)) ∧ (Tr (((!(bif ((list : Int) == 8) then true else (((Edit.kind (OpOf.e o)) : Int) == 2))) && (bif (((Edit.kind (OpOf.e o)) : Int) == 1) then (((Tree.kind (Edit.old (OpOf.e o))) : Int) == 1) else false)) = true)) ∧ (Tr (((!(bif ((list : Int) == 8) then true else (((Edit.kind (OpOf.e o)) : Int) == 2))) && (bif (((Edit.kind (OpOf.e o)) : Int) == 1) then (((Tree.kind (Edit.old (OpOf.e o))) : Int) == 1) else false)) = true)) ∧ ((!(bif ((list : Int) == 8) then true else (((Edit.kind (OpOf.e o)) : Int) == 2))) = true → (True → (!(bif ((list : Int) == 8) then true else (((Edit.kind (OpOf.e o)) : Int) == 2))) = true)) ∧ ((!(bif ((list : Int) == 8) then true else (((Edit.kind (OpOf.e o)) : Int) == 2))) = true → ((bif (((Edit.kind (OpOf.e o)) : Int) == 1) then (((Tree.kind (Edit.old (OpOf.e o))) : Int) == 1) else false) = true → ((!(bif ((list : Int) == 8) then true else (((Edit.kind (OpOf.e o)) : Int) == 2))) && (bif (((Edit.kind (OpOf.e o)) : Int) == 1) then (((Tree.kind (Edit.old (OpOf.e o))) : Int) == 1) else false)) = true)) ∧ (((bif ((list : Int) == 8) then true else (((Edit.kind (OpOf.e o)) : Int) == 2)) = false → (!(bif ((list : Int) == 8) then true else (((Edit.kind (OpOf.e o)) : Int) == 2))) = true)) ∧ (Q .ret (⟨[(6, .c (.bool (bif (bif ((list : Int) == 8) then true else (((Edit.kind (OpOf.e o)) : Int) == 2)) then true else (bif (bif (((Edit.kind (OpOf.e o)) : Int) == 1) then (((Tree.kind (Edit.old (OpOf.e o))) : Int) == 1) else false) then (((Tree.kind (Edit.new (OpOf.e o))) : Int) == 1) else false))))], [], []⟩ : LSt U)))))))))))) :
    A64 N [] (⟨[(0, .c (.int .i64 list)), (1, .agg [.int .i64 (OpOf.kind o), .int .i64 (OpOf.n o), .slice (U := U) .tree (OpOf.l o) .unk, .int .i64 (Edit.kind (OpOf.e o)), .int .i64 (Tree.kind (Edit.old (OpOf.e o))), .slice (U := U) .u64 (Tree.words (Edit.old (OpOf.e o))) .unk, .slice (U := U) .tree (Tree.kids (Edit.old (OpOf.e o))) .unk, .int .i64 (Tree.kind (Edit.new (OpOf.e o))), .slice (U := U) .u64 (Tree.words (Edit.new (OpOf.e o))) .unk, .slice (U := U) .tree (Tree.kids (Edit.new (OpOf.e o))) .unk, .slice (U := U) .wedit (Edit.words (OpOf.e o)) .unk, .slice (U := U) .kid (Edit.kids (OpOf.e o)) .unk, .int .i64 (Edit.list (OpOf.e o)), .slice (U := U) .op (Edit.ops (OpOf.e o)) .unk]), (2, .c (.int .i64 d))], [], []⟩ : LSt U) Q :=
  Eq.mpr (by kernel_rfl) (h _ (reEdit_eq _))
theorem vc64_l0 (N : Nat) (list : Int) (o : Op) (d : Int) (x7 : Int) (N0 : LSt U → Prop) (Q : AExit → LSt U → Prop) (h : (((decide ((x7 : Int) < ((OpOf.l o).length : Int))) = true → (InR ((x7 : Int) + 1)) ∧ ((0 : Int) ≤ x7 ∧ x7 ≤ ((x7 : Int) + 1) ∧ ((x7 : Int) + 1) ≤ ((OpOf.l o).length : Int)) ∧ (pre37 ((Tree.mk list ([]) (List.drop (Int.toNat x7) (List.take (Int.toNat ((x7 : Int) + 1)) (OpOf.l o)))), 64, ())) ∧ (((!(rightT (Tree.mk list ([]) (List.drop (Int.toNat x7) (List.take (Int.toNat ((x7 : Int) + 1)) (OpOf.l o)))) 64)) = true → (Q .ret (⟨[(6, .c (.bool false))], [], []⟩ : LSt U))) ∧ ((!(rightT (Tree.mk list ([]) (List.drop (Int.toNat x7) (List.take (Int.toNat ((x7 : Int) + 1)) (OpOf.l o)))) 64)) = false → (InR ((x7 : Int) + 1)) ∧ (N0 (head64_0 list o d ((x7 : Int) + 1)))))) ∧ ((decide ((x7 : Int) < ((OpOf.l o).length : Int))) = false → (Tr ((decide ((0 : Int) < ((OpOf.l o).length : Int))) = true)) ∧ (Tr ((decide ((0 : Int) < ((OpOf.l o).length : Int))) = true)) ∧ ((decide ((0 : Int) < ((OpOf.l o).length : Int))) = true → pre104 ((Edit.mk (Edit.kind (OpOf.e o)) (Tree.mk (Tree.kind (Edit.old (OpOf.e o))) (Tree.words (Edit.old (OpOf.e o))) (Tree.kids (Edit.old (OpOf.e o)))) (Tree.mk (Tree.kind (Edit.new (OpOf.e o))) (Tree.words (Edit.new (OpOf.e o))) (Tree.kids (Edit.new (OpOf.e o)))) (Edit.words (OpOf.e o)) (Edit.kids (OpOf.e o)) (Edit.list (OpOf.e o)) (Edit.ops (OpOf.e o))), ())) ∧ ((Tr ((decide ((0 : Int) < ((OpOf.l o).length : Int))) = true))) ∧ (Q .ret (⟨[(6, .c (.bool (bif (decide ((0 : Int) < ((OpOf.l o).length : Int))) then (sameE (Edit.mk (Edit.kind (OpOf.e o)) (Tree.mk (Tree.kind (Edit.old (OpOf.e o))) (Tree.words (Edit.old (OpOf.e o))) (Tree.kids (Edit.old (OpOf.e o)))) (Tree.mk (Tree.kind (Edit.new (OpOf.e o))) (Tree.words (Edit.new (OpOf.e o))) (Tree.kids (Edit.new (OpOf.e o)))) (Edit.words (OpOf.e o)) (Edit.kids (OpOf.e o)) (Edit.list (OpOf.e o)) (Edit.ops (OpOf.e o)))) else false)))], [], []⟩ : LSt U))))) :
    A64 N [1, 1, 1, 0, 1, 0, 0, 1, 0, 0] (head64_0 list o d x7) (AExit.then N0 (AExit.inBlock 0 (S64 N [1, 1, 1, 0, 1, 0, 1] (S64 N [1, 1, 1, 1] Q)))) :=
  Eq.mpr (by kernel_rfl) h
def Body64 (N : Nat) (list : Int) (o : Op) (d : Int)  : Prop := awp cfg (know (know64 N)) (drawOk cfg (know (know64 N))) Try.f64.ntmps lv64 (cd Try.f64 []) (entry (args64.can (list, o, d, ())) []) (EndsQ cfg Try.f64.ntmps Try.f64.results.toList (res64 (list, o, d, ())) [])
abbrev HB64 : Prop := ∀ (N : Nat) (list : Int) (o : Op) (d : Int) (_ : Unit), pre64 (list, o, d, ()) → mu64 (list, o, d, ()) < N + 1 → Body64 N list o d
theorem make23_64 (c62 : Contract Try.prog cfg 62 spec62) (c63 : Contract Try.prog cfg 63 spec63) (c104 : Contract Try.prog cfg 104 spec104) (c37 : Contract Try.prog cfg 37 spec37) (c65 : Contract Try.prog cfg 65 spec65) (ha : HB23) (hb : HB64) : Contract Try.prog cfg 23 spec23 ∧ Contract Try.prog cfg 64 spec64 :=
  contract_mut2 (μA := mu23) (μB := mu64) (l := [(62, spec62), (63, spec63), (104, spec104), (37, spec37), (65, spec65)]) cfgOk rfl (⟨c62, c63, c104, c37, c65, trivial⟩) lv23 lv64 Try.func23 Try.func64 rfl rfl rfl rfl 2 3 (fun _ => rfl) (fun _ => rfl) (by decide) (by decide) (fun N ⟨e, d, _⟩ => ha N e d ()) (fun N ⟨list, o, d, _⟩ => hb N list o d ())
end Go.AM.Ytpjenobkibfpcaa

namespace Go.AM.Ytpjenobkibfpcaa
open Go.AM Go.Proofs
theorem wrap_u64 {n : Int} (h0 : 0 ≤ n) (h1 : n < 18446744073709551616) : IntKind.wrap .u64 n = n := by
  simp [IntKind.wrap, IntKind.signed, IntKind.bits]; omega
theorem wrap_u8 {n : Int} (h0 : 0 ≤ n) (h1 : n < 256) : IntKind.wrap .u8 n = n := by
  simp [IntKind.wrap, IntKind.signed, IntKind.bits]; omega
theorem aSet_if {i : Int} {j : Nat} {v : Int} {F G : Nat → Int} (hi : 0 ≤ i) (hv : v = F i.toNat) : aSet i j v (if (j : Int) < i then F j else G j) = if (j : Int) < i + 1 then F j else G j := by
  unfold aSet
  by_cases h : i = j
  · subst h
    rw [if_pos rfl, if_pos (by omega), hv]
    simp
  · rw [if_neg h]
    by_cases h2 : (j : Int) < i
    · rw [if_pos h2, if_pos (by omega)]
    · rw [if_neg h2, if_neg (by omega)]
theorem if_step {i : Int} {j : Nat} {F G : Nat → Int} (h : F i.toNat = G i.toNat) (hi : 0 ≤ i) : (if (j : Int) < i then F j else G j) = if (j : Int) < i + 1 then F j else G j := by
  by_cases h2 : (j : Int) < i
  · rw [if_pos h2, if_pos (by omega)]
  · by_cases h3 : (j : Int) = i
    · subst h3
      rw [if_neg h2, if_pos (by omega)]
      simpa using h.symm
    · rw [if_neg h2, if_neg (by omega)]
theorem byteAt_range (w : Int) (i : Nat) : 0 ≤ byteAt w i ∧ byteAt w i < 256 := by
  unfold byteAt
  omega
theorem div_pow_nonneg {w : Int} (h : 0 ≤ w) (i : Nat) : 0 ≤ w / 256 ^ i := Int.ediv_nonneg h (Int.le_of_lt (Int.pow_pos (by omega)))
theorem div_pow_le {w : Int} (h : 0 ≤ w) (i : Nat) : w / 256 ^ i ≤ w := Int.ediv_le_self _ h
theorem div_pow_succ (w : Int) (i : Nat) : w / 256 ^ i / 256 = w / 256 ^ (i + 1) := by
  rw [Int.ediv_ediv_of_nonneg (Int.le_of_lt (Int.pow_pos (by omega))), Int.pow_succ]
theorem c67 : Contract Try.prog cfg 67 spec67 := by
  refine make67 ?_
  intro w _ hp
  simp only [pre67] at hp
  refine vc67 _ _ ?_; (try simp only [vcT, forall_eq])
  refine loop_rule (ι := Int) (fun i => head67_0 w (w / 256 ^ i.toNat) i (if ((0 : Nat) : Int) < i then byteAt w 0 else 0) (if ((1 : Nat) : Int) < i then byteAt w 1 else 0) (if ((2 : Nat) : Int) < i then byteAt w 2 else 0) (if ((3 : Nat) : Int) < i then byteAt w 3 else 0)
    (if ((4 : Nat) : Int) < i then byteAt w 4 else 0) (if ((5 : Nat) : Int) < i then byteAt w 5 else 0) (if ((6 : Nat) : Int) < i then byteAt w 6 else 0) (if ((7 : Nat) : Int) < i then byteAt w 7 else 0)) (fun i => 0 ≤ i ∧ i ≤ 8) (fun i => (8 - i).toNat) 0 ?_ ⟨by omega, by omega⟩ ?_
  · simp [head67_0]
  · rintro i ⟨h1, h2⟩
    refine vc67_l0 _ _ _ _ _ _ _ _ _ _ _ _ _ ?_; (try simp only [vcT, forall_eq])
    (simp only [vcS]); (try simp only [vcT])
    refine ⟨fun hc => ⟨by omega, ⟨h1, by omega⟩, by omega, by unfold InR; omega, i + 1, ?_, ⟨by omega, by omega⟩, by omega⟩, fun hc => ?_⟩
    · have hd := div_pow_nonneg hp.1 i.toNat
      have hl := div_pow_le hp.1 i.toNat
      have e1 : IntKind.wrap .u64 (Int.tdiv (w / 256 ^ i.toNat) 256) = w / 256 ^ (i + 1).toNat := by
        rw [Int.tdiv_eq_ediv_of_nonneg hd, div_pow_succ, show i.toNat + 1 = (i + 1).toNat by omega]
        exact wrap_u64 (div_pow_nonneg hp.1 _) (Int.lt_of_le_of_lt (div_pow_le hp.1 _) hp.2)
      have e2 : IntKind.wrap .u8 (Int.tmod (w / 256 ^ i.toNat) 256) = byteAt w i.toNat := by
        rw [Int.tmod_eq_emod_of_nonneg hd]
        exact wrap_u8 (byteAt_range w _).1 (byteAt_range w _).2
      rw [e1]
      have st : ∀ j : Nat, aSet i j (IntKind.wrap .u8 (Int.tmod (w / 256 ^ i.toNat) 256)) (if (j : Int) < i then byteAt w j else 0) = if (j : Int) < i + 1 then byteAt w j else 0 := fun j => aSet_if (F := byteAt w) (G := fun _ => 0) h1 e2
      rw [st 0, st 1, st 2, st 3, st 4, st 5, st 6, st 7]
    · have : i = 8 := by omega
      subst this
      simp only [res67]
      exact ⟨⟨rfl, ⟨⟨rfl, rfl⟩, ⟨rfl, rfl⟩, ⟨rfl, rfl⟩, ⟨rfl, rfl⟩, ⟨rfl, rfl⟩, ⟨rfl, rfl⟩, ⟨rfl, rfl⟩, ⟨rfl, rfl⟩, trivial⟩, trivial⟩, trivial⟩
theorem c68 : Contract Try.prog cfg 68 spec68 := by
  refine make68 ?_
  intro m i _ hp
  simp only [pre68] at hp
  refine vc68 _ _ _ ?_; (try simp only [vcT, forall_eq])
  refine loop_rule (ι := Int) (fun k => head68_0 m i (m / 2 ^ k.toNat) k) (fun k => 0 ≤ k ∧ k ≤ i) (fun k => (i - k).toNat) 0 ?_ ⟨by omega, by omega⟩ ?_
  · simp
  · rintro k ⟨h1, h2⟩
    refine vc68_l0 _ _ _ _ _ _ ?_; (try simp only [vcT, forall_eq])
    have hd : 0 ≤ m / 2 ^ k.toNat := Int.ediv_nonneg hp.1.1 (Int.le_of_lt (Int.pow_pos (by omega)))
    have hl : m / 2 ^ k.toNat ≤ m := Int.ediv_le_self _ hp.1.1
    (simp only [vcS])
    refine ⟨fun hc => ⟨by omega, by unfold InR; omega, k + 1, ?_, ⟨by omega, by omega⟩, by omega⟩, fun hc => ⟨by omega, ends_bool rfl ?_⟩⟩
    · have e : IntKind.wrap .u8 (Int.tdiv (m / 2 ^ k.toNat) 2) = m / 2 ^ (k + 1).toNat := by
        rw [Int.tdiv_eq_ediv_of_nonneg hd, Int.ediv_ediv_of_nonneg (Int.le_of_lt (Int.pow_pos (by omega))), show (2 : Int) ^ k.toNat * 2 = 2 ^ (k + 1).toNat by rw [← Int.pow_succ]; congr 1; omega]
        refine wrap_u8 (Int.ediv_nonneg hp.1.1 (Int.le_of_lt (Int.pow_pos (by omega)))) (Int.lt_of_le_of_lt (Int.ediv_le_self _ hp.1.1) hp.1.2)
      rw [e]
    · have : k = i := by omega
      subst this
      rw [Int.tmod_eq_emod_of_nonneg hd]
      rfl
def topN (f : Nat → Int) : Nat → Int
  | 0 => 0
  | k + 1 => f (7 - k) + 256 * topN f k
theorem topN_range {f : Nat → Int} (h : ∀ i, 0 ≤ f i ∧ f i < 256) : ∀ k, 0 ≤ topN f k ∧ topN f k < 256 ^ k
  | 0 => by simp [topN]
  | k + 1 => by
    have := topN_range h k
    have h2 := h (7 - k)
    simp only [topN, Int.pow_succ]
    omega
theorem topN_8 (f : Nat → Int) : topN f 8 = of8 f := by simp [topN, of8]
theorem c69 : Contract Try.prog cfg 69 spec69 := by
  refine make69 ?_
  intro b z _ hp
  obtain ⟨rfl, hl, hb⟩ := hp
  dsimp only at hl hb
  refine vc69 _ _ _ ?_; (try simp only [vcT, forall_eq])
  have hf : ∀ i, 0 ≤ b.getD i 0 ∧ b.getD i 0 < 256 := by
    intro i
    by_cases hi : i < b.length
    · have : b.getD i 0 ∈ b := by
        simp only [List.getD, List.getElem?_eq_getElem hi, Option.getD_some]
        exact List.getElem_mem hi
      exact hb _ this
    · rw [List.getD, List.getElem?_eq_none (by omega)]; simp
  refine loop_rule (ι := Int) (fun i => head69_0 b 0 (topN (fun i => b.getD i 0) (7 - i).toNat) i) (fun i => -1 ≤ i ∧ i ≤ 7) (fun i => (i + 1).toNat) 7 rfl ⟨by omega, by omega⟩ ?_
  rintro i ⟨h1, h2⟩
  refine vc69_l0 _ _ _ _ _ _ ?_; (try simp only [vcT, forall_eq])
  (simp only [vcS]); (try simp only [vcT])
  have hr := topN_range (f := fun i => b.getD i 0) hf (7 - i).toNat
  refine ⟨fun hc => ⟨by unfold InR; omega, by omega, by unfold InR; omega, i - 1, ?_, ⟨by omega, by omega⟩, by omega⟩, fun hc => ends_int rfl ?_⟩
  · have hp7 : (256 : Int) ^ (7 - i).toNat ≤ 256 ^ 7 := by
      have : (256 : Int) ^ (7 - i).toNat = ((256 ^ (7 - i).toNat : Nat) : Int) := by simp
      rw [this]
      have h7 : (256 : Nat) ^ (7 - i).toNat ≤ 256 ^ 7 := Nat.pow_le_pow_right (by omega) (by omega)
      have : ((256 : Nat) ^ 7 : Nat) = 72057594037927936 := by decide
      omega
    have e7 : (256 : Int) ^ 7 = 72057594037927936 := by decide
    have hfi := hf i.toNat
    have e : topN (fun i => b.getD i 0) (7 - (i - 1)).toNat = b.getD i.toNat 0 + 256 * topN (fun i => b.getD i 0) (7 - i).toNat := by
      rw [show (7 - (i - 1)).toNat = (7 - i).toNat + 1 by omega]
      simp only [topN]
      rw [show 7 - (7 - i).toNat = i.toNat by omega]
    rw [e, show (0 + i).toNat = i.toNat by omega, wrap_u64 (n := topN (fun i => b.getD i 0) (7 - i).toNat * 256) (by omega) (by omega), wrap_u64 (n := b.getD i.toNat 0) (by omega) (by omega), wrap_u64 (by omega) (by omega)]
    congr 1
    omega
  · have : i = -1 := by omega
    subst this
    exact topN_8 _
theorem getD8 (f : Nat → Int) {i : Nat} (h : i < 8) : List.getD [f 0, f 1, f 2, f 3, f 4, f 5, f 6, f 7] i 0 = f i := by
  match i, h with
  | 0, _ => rfl
  | 1, _ => rfl
  | 2, _ => rfl
  | 3, _ => rfl
  | 4, _ => rfl
  | 5, _ => rfl
  | 6, _ => rfl
  | 7, _ => rfl
theorem mixAt_range (a b m : Int) (i : Nat) : 0 ≤ mixAt a b m i ∧ mixAt a b m i < 256 := by
  unfold mixAt
  split
  · exact byteAt_range _ _
  · exact byteAt_range _ _
theorem c103 : Contract Try.prog cfg 103 spec103 := by
  refine make103 c67 c68 c69 ?_
  intro a b m _ hp
  simp only [pre103] at hp
  refine vc103 _ _ _ _ ?_; (try simp only [vcT, forall_eq])
  refine ⟨hp.1, hp.2.1, ?_⟩
  refine loop_rule (ι := Int) (fun i => head103_0 a b m i (if ((0 : Nat) : Int) < i then mixAt a b m 0 else byteAt a 0) (if ((1 : Nat) : Int) < i then mixAt a b m 1 else byteAt a 1) (if ((2 : Nat) : Int) < i then mixAt a b m 2 else byteAt a 2) (if ((3 : Nat) : Int) < i then mixAt a b m 3 else byteAt a 3)
    (if ((4 : Nat) : Int) < i then mixAt a b m 4 else byteAt a 4) (if ((5 : Nat) : Int) < i then mixAt a b m 5 else byteAt a 5) (if ((6 : Nat) : Int) < i then mixAt a b m 6 else byteAt a 6) (if ((7 : Nat) : Int) < i then mixAt a b m 7 else byteAt a 7)) (fun i => 0 ≤ i ∧ i ≤ 8) (fun i => (8 - i).toNat) 0 ?_ ⟨by omega, by omega⟩ ?_
  · simp [head103_0]
  · rintro i ⟨h1, h2⟩
    refine vc103_l0 _ _ _ _ _ _ _ _ _ _ _ _ _ _ ?_; (try simp only [vcT, forall_eq])
    (simp only [vcS]); (try simp only [vcT])
    refine ⟨fun hc => ⟨⟨hp.2.2, h1, by dsimp only; omega⟩, fun hn => ⟨⟨h1, by omega⟩, ⟨h1, by omega⟩, by unfold InR; omega, i + 1, ?_, ⟨by omega, by omega⟩, by omega⟩, fun hn => ⟨by unfold InR; omega, i + 1, ?_, ⟨by omega, by omega⟩, by omega⟩⟩, fun hc => ?_⟩
    · rw [getD8 (byteAt b) (by omega)]
      have hv : byteAt b i.toNat = mixAt a b m i.toNat := by
        unfold mixAt
        rw [show ((i.toNat : Nat) : Int) = i by omega, hn]
        rfl
      have st : ∀ j : Nat, aSet i j (byteAt b i.toNat) (if (j : Int) < i then mixAt a b m j else byteAt a j) = if (j : Int) < i + 1 then mixAt a b m j else byteAt a j := fun j => aSet_if (F := mixAt a b m) (G := byteAt a) h1 hv
      rw [st 0, st 1, st 2, st 3, st 4, st 5, st 6, st 7]
    · have hv : mixAt a b m i.toNat = byteAt a i.toNat := by
        unfold mixAt
        rw [show ((i.toNat : Nat) : Int) = i by omega, hn]
        rfl
      have st : ∀ j : Nat, (if (j : Int) < i then mixAt a b m j else byteAt a j) = if (j : Int) < i + 1 then mixAt a b m j else byteAt a j := fun j => if_step (F := mixAt a b m) (G := byteAt a) hv h1
      rw [st 0, st 1, st 2, st 3, st 4, st 5, st 6, st 7]
    · have : i = 8 := by omega
      subst this
      refine ⟨⟨rfl, rfl, ?_⟩, ends_int rfl ?_⟩
      · intro x hx
        simp at hx
        rcases hx with rfl | rfl | rfl | rfl | rfl | rfl | rfl | rfl <;> exact mixAt_range _ _ _ _
      · rfl
end Go.AM.Ytpjenobkibfpcaa

namespace Go.AM.Ytpjenobkibfpcaa
open Go.AM Go.Proofs
theorem drop_getD {α : Type} {l : List α} {i : Nat} (h : i < l.length) (d : α) : l.drop i = l.getD i d :: l.drop (i + 1) := by
  rw [List.drop_eq_getElem_cons h]
  simp [List.getD, h]
theorem dropI {α : Type} {l : List α} {i : Int} (h0 : 0 ≤ i) (h : i < l.length) (d : α) : l.drop i.toNat = l.getD i.toNat d :: l.drop (i + 1).toNat := by
  rw [drop_getD (by omega) d, show i.toNat + 1 = (i + 1).toNat by omega]
theorem mem_getD {α : Type} {l : List α} {i : Nat} (h : i < l.length) (d : α) : l.getD i d ∈ l := by
  simp only [List.getD, List.getElem?_eq_getElem h, Option.getD_some]
  exact List.getElem_mem h
theorem mass_pos (t : Tree) : 1 ≤ mass t := by cases t; simp only [mass]; omega
theorem massE_pos (e : Edit) : 1 ≤ massE e := by cases e; simp only [massE]; omega
theorem massKid_e (k : Kid) : massKid k = massE k.e := by cases k; rfl
theorem massOp_e (o : Op) : massOp o = massK o.l + massE o.e := by cases o; rfl
theorem massK_mem : ∀ {ks : List Tree} {t : Tree}, t ∈ ks → mass t ≤ massK ks
  | x :: r, t, h => by
    simp only [massK]
    rcases List.mem_cons.1 h with rfl | h
    · omega
    · have := massK_mem h; omega
theorem massKs_mem : ∀ {ks : List Kid} {k : Kid}, k ∈ ks → massE k.e ≤ massKs ks
  | x :: r, k, h => by
    simp only [massKs, massKid_e]
    rcases List.mem_cons.1 h with rfl | h
    · omega
    · have := massKs_mem h; omega
theorem massOs_mem : ∀ {os : List Op} {o : Op}, o ∈ os → massOp o ≤ massOs os
  | x :: r, o, h => by
    simp only [massOs]
    rcases List.mem_cons.1 h with rfl | h
    · omega
    · have := massOs_mem h; omega
theorem massKs_len : ∀ (ks : List Kid), ks.length ≤ massKs ks
  | [] => by simp [massKs]
  | k :: r => by
    have := massKs_len r
    have := massE_pos k.e
    simp only [massKs, massKid_e, List.length_cons]
    omega
theorem massOs_len : ∀ (os : List Op), os.length ≤ massOs os
  | [] => by simp [massOs]
  | o :: r => by
    have := massOs_len r
    have := massE_pos o.e
    simp only [massOs, massOp_e, List.length_cons]
    omega
theorem rngK_mem : ∀ {ks : List Tree} {t : Tree}, rngK ks → t ∈ ks → rng t
  | x :: r, t, hs, h => by
    simp only [rngK] at hs
    rcases List.mem_cons.1 h with rfl | h
    · exact hs.1
    · exact rngK_mem hs.2 h
theorem rngKs_mem : ∀ {ks : List Kid} {k : Kid}, rngKs ks → k ∈ ks → isI k.at_ ∧ rngE k.e
  | x :: r, k, hs, h => by
    simp only [rngKs] at hs
    rcases List.mem_cons.1 h with rfl | h
    · have := hs.1; obtain ⟨a, e⟩ := k; exact this
    · exact rngKs_mem hs.2 h
theorem rngOs_mem : ∀ {os : List Op} {o : Op}, rngOs os → o ∈ os → rngOp o
  | x :: r, o, hs, h => by
    simp only [rngOs] at hs
    rcases List.mem_cons.1 h with rfl | h
    · exact hs.1
    · exact rngOs_mem hs.2 h
theorem rngOp_e {o : Op} (h : rngOp o) : isI o.kind ∧ isI o.n ∧ rngK o.l ∧ rngE o.e := by obtain ⟨a, b, c, e⟩ := o; exact h
end Go.AM.Ytpjenobkibfpcaa

namespace Go.AM.Ytpjenobkibfpcaa
open Go.AM Go.Proofs
theorem len_mass (t : Tree) : t.words.length + t.kids.length < mass t := by
  obtain ⟨k, w, ks⟩ := t
  have := massK_len ks
  simp only [mass, Tree.words_mk, Tree.kids_mk]
  omega
theorem len_massE (e : Edit) : mass e.old + mass e.new + e.words.length + e.ops.length + massKs e.kids + massOs e.ops < massE e := by
  obtain ⟨k, o, n, w, ks, l, os⟩ := e
  simp only [massE, Edit.old_mk, Edit.new_mk, Edit.words_mk, Edit.ops_mk, Edit.kids_mk]
  omega
theorem c62 : Contract Try.prog cfg 62 spec62 := by
  refine make62 ?_
  intro t _ hp
  simp only [pre62] at hp
  have := len_mass t
  refine vc62 t _ ?_; (try simp only [vcT, forall_eq])
  refine ⟨fun _ => by unfold InR; omega, ends_bool rfl ?_⟩
  rw [Bool.eq_iff_iff]
  simp only [noneT]
  (simp only [vcS])
  omega
theorem c63 : Contract Try.prog cfg 63 spec63 := by
  refine make63 c103 ?_
  intro w m _ hp
  refine vc63 _ _ _ ?_; (try simp only [vcT, forall_eq])
  refine ⟨⟨hp.1, by dsimp only; omega, hp.2⟩, ends_bool rfl ?_⟩
  rfl
theorem c104 : Contract Try.prog cfg 104 spec104 := by
  refine make104 c62 ?_
  intro e _ hp
  simp only [pre104] at hp
  have h1 := len_massE e
  have h2 := massKs_len e.kids
  refine vc104 e _ ?_; (try simp only [vcT, forall_eq])
  try (simp only [Tree.eta, Edit.eta, Tree.kind_mk, Tree.words_mk, Tree.kids_mk])
  refine ⟨fun _ => by simp only [pre62]; omega, fun _ => by simp only [pre62]; omega, fun _ => by unfold InR; omega, fun _ => by unfold InR; omega, ends_bool rfl ?_⟩
  rw [Bool.eq_iff_iff]
  simp only [sameE]
  (simp only [vcS])
  constructor
  · rintro ⟨⟨⟨⟨h3, h4⟩, h5⟩, h6⟩, h7⟩; exact ⟨⟨⟨h3, h4⟩, h5⟩, by omega⟩
  · rintro ⟨⟨⟨h3, h4⟩, h5⟩, h6⟩; exact ⟨⟨⟨⟨h3, h4⟩, h5⟩, by omega⟩, by omega⟩
theorem loop57 (e : Edit) (x4 x5 i : Int) (N0 : LSt U → Prop) (Q : AExit → LSt U → Prop) (h1 : 0 ≤ x4 ∧ x4 ≤ 1048576) (h2 : 0 ≤ x5 ∧ x5 ≤ 1048576) (hi : 0 ≤ i) (hlen : e.ops.length ≤ 20000000000)
    (ho : ∀ o ∈ e.ops, (0 ≤ o.n ∧ o.n ≤ 1048576) ∧ o.l.length ≤ 20000000000)
    (h : i < e.ops.length → N0 (head65_0 e (min (if (e.ops.getD i.toNat Op.nil).kind = 2 then x4 else x4 + opLen (e.ops.getD i.toNat Op.nil)) 1048576) (min (if (e.ops.getD i.toNat Op.nil).kind = 1 then x5 else x5 + opLen (e.ops.getD i.toNat Op.nil)) 1048576) (i + 1)))
    (h' : ¬i < e.ops.length → Q .ret (⟨[(2, .c (.int .i64 x4)), (3, .c (.int .i64 x5))], [], []⟩ : LSt U)) : W65_l0 e x4 x5 i N0 Q := by
  refine vc65_l0 _ _ _ _ _ _ ?_; (try simp only [vcT, forall_eq])
  (simp only [vcS]); (try simp only [vcT])
  refine ⟨fun hc => ?_, h'⟩
  have hn := h hc
  have hm := ho _ (mem_getD (l := e.ops) (i := i.toNat) (by omega) Op.nil)
  have k1 : ∀ k, k = opLen (e.ops.getD i.toNat Op.nil) → W65_c1 e x4 x5 i k N0 Q := by
    intro k hk
    have hkr : 0 ≤ k ∧ k ≤ 60000000000 := by
      rw [hk]; unfold opLen; split <;> omega
    have k2 : ∀ y, y = (if (e.ops.getD i.toNat Op.nil).kind = 2 then x4 else x4 + k) → W65_c2 e x5 i k y N0 Q := by
      intro y hy
      have hyr : 0 ≤ y ∧ y ≤ 100000000000 := by rw [hy]; split <;> omega
      have k3 : ∀ z, z = (if (e.ops.getD i.toNat Op.nil).kind = 1 then x5 else x5 + k) → W65_c3 e i k y z N0 Q := by
        intro z hz
        have hzr : 0 ≤ z ∧ z ≤ 100000000000 := by rw [hz]; split <;> omega
        have k4 : ∀ u, u = min y 1048576 → W65_c4 e i y z u N0 Q := by
          intro u hu
          refine vc65_c4 _ _ _ _ _ _ _ ?_; (try simp only [vcT, forall_eq])
          (simp only [vcS]); (try simp only [vcT])
          rw [← hk, ← hy, ← hz, ← hu] at hn
          refine ⟨fun hq => ⟨by unfold InR; omega, ?_⟩, fun hq => ⟨by unfold InR; omega, ?_⟩⟩
          · rw [show min z 1048576 = 1048576 by omega] at hn; exact hn
          · rw [show min z 1048576 = z by omega] at hn; exact hn
        refine vc65_c3 _ _ _ _ _ _ _ ?_; (try simp only [vcT, forall_eq])
        (simp only [vcS]); (try simp only [vcT])
        exact ⟨fun hq => k4 _ (by omega), fun hq => k4 _ (by omega)⟩
      refine vc65_c2 _ _ _ _ _ _ _ ?_; (try simp only [vcT, forall_eq])
      (simp only [vcS]); (try simp only [vcT])
      exact ⟨fun hq => ⟨by unfold InR; omega, k3 _ (by rw [if_neg hq])⟩, fun hq => k3 _ (by rw [if_pos hq])⟩
    refine vc65_c1 _ _ _ _ _ _ _ ?_; (try simp only [vcT, forall_eq])
    (simp only [vcS]); (try simp only [vcT])
    exact ⟨fun hq => ⟨by unfold InR; omega, k2 _ (by rw [if_neg hq])⟩, fun hq => k2 _ (by rw [if_pos hq])⟩
  exact ⟨⟨hi, hc⟩, by unfold InR; omega, fun hq => k1 _ (by unfold opLen; rw [if_pos hq]), fun hq => k1 _ (by unfold opLen; rw [if_neg hq])⟩
theorem c65 : Contract Try.prog cfg 65 spec65 := by
  refine make65 ?_
  intro e _ hp
  simp only [pre65] at hp
  have h1 := len_massE e
  refine vc65 e _ ?_; (try simp only [vcT, forall_eq])
  refine loop_rule (ι := Int × Int × Int) (fun p => head65_0 e p.1 p.2.1 p.2.2) (fun p => 0 ≤ p.2.2 ∧ p.2.2 ≤ e.ops.length ∧ (0 ≤ p.1 ∧ p.1 ≤ 1048576) ∧ (0 ≤ p.2.1 ∧ p.2.1 ≤ 1048576) ∧ lenA (e.ops.drop p.2.2.toNat) p.1 = lenA e.ops 0 ∧ lenB (e.ops.drop p.2.2.toNat) p.2.1 = lenB e.ops 0) (fun p => ((e.ops.length : Int) - p.2.2).toNat) (0, 0, 0) rfl ⟨by dsimp only; omega, by dsimp only; omega, by dsimp only; omega, by dsimp only; omega, by simp, by simp⟩ ?_
  rintro ⟨x4, x5, i⟩ ⟨h2, h3, h4, h5, h6, h7⟩
  dsimp only at *
  have ho : ∀ o ∈ e.ops, (0 ≤ o.n ∧ o.n ≤ 1048576) ∧ o.l.length ≤ 20000000000 := by
    intro o hm
    refine ⟨hp.2 o hm, ?_⟩
    have a1 := massOs_mem hm
    have a2 := massK_len o.l
    rw [massOp_e] at a1
    omega
  refine loop57 e x4 x5 i _ _ h4 h5 h2 (by omega) ho (fun hc => ⟨(_, _, i + 1), rfl, ⟨by dsimp only; omega, by dsimp only; omega, ?_, ?_, ?_, ?_⟩, by dsimp only; omega⟩) (fun hc => ?_)
  · have hm := ho _ (mem_getD (l := e.ops) (i := i.toNat) (by omega) Op.nil)
    dsimp only
    unfold opLen
    split <;> (try split) <;> omega
  · have hm := ho _ (mem_getD (l := e.ops) (i := i.toNat) (by omega) Op.nil)
    dsimp only
    unfold opLen
    split <;> (try split) <;> omega
  · rw [dropI h2 hc Op.nil] at h6
    exact h6
  · rw [dropI h2 hc Op.nil] at h7
    exact h7
  · rw [List.drop_of_length_le (by omega)] at h6 h7
    simp only [lenA, lenB] at h6 h7
    simp only [res65, ← h6, ← h7]
    exact ⟨⟨rfl, ⟨⟨rfl, rfl⟩, trivial⟩, rfl, ⟨⟨rfl, rfl⟩, trivial⟩, trivial⟩, trivial⟩
end Go.AM.Ytpjenobkibfpcaa
