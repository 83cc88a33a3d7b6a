import Derived.Test.YthokdjgpdonhgaaQBi
import Derived.Test.YthokdjgpdonhgaaQD8
set_option linter.unusedSimpArgs false
set_option linter.unusedVariables false
namespace Go.AM.Ythokdjgpdonhgaa
open Go.AM Go.Proofs

def args119 : ArgL (Tree × Unit) := (.cons (aEl .tree) .nil)
def pre119 (a : Tree × Unit) : Prop := mass a.1 ≤ 1000000
noncomputable def res119 (a : Tree × Unit) : V U := .tup [(false, [.int .i64 (frW (Tree.kids a.1) : Int)]), (false, [.int .i64 (frK (Tree.kids a.1) : Int)])]
noncomputable def spec119 : Fs U := fs args119 (fun a => [pre119 a]) res119

def args123 : ArgL (Int × Unit) := (.cons (aInt .i64) .nil)
def pre123 (a : Int × Unit) : Prop := True
noncomputable def res123 (a : Int × Unit) : V U := .c (.bool (decide (-536870912 ≤ a.1 ∧ a.1 < 536870912)))
noncomputable def spec123 : Fs U := fs args123 (fun a => [pre123 a]) res123

def args125 : ArgL (Int × Int × Unit) := (.cons (aInt .i64) (.cons (aInt .i64) .nil))
def pre125 (a : Int × Int × Unit) : Prop := 0 ≤ a.2.1 ∧ a.2.1 < 4
noncomputable def res125 (a : Int × Int × Unit) : V U := .c (.int .u64 (4 * (a.1 % 1073741824) + a.2.1))
noncomputable def spec125 : Fs U := fs args125 (fun a => [pre125 a]) res125

def args120 : ArgL (Ptr × Unit) := (.cons (aEl .ptr) .nil)
def pre120 (a : Ptr × Unit) : Prop := Ptr.kind a.1 = 1 ∨ Ptr.kind a.1 = 2
noncomputable def res120 (a : Ptr × Unit) : V U := .tup [(false, [.int .u64 (encW a.1)]), (false, [.bool (eqP (decP (encW a.1)) a.1 && !decide (Ptr.kind a.1 = 4))])]
noncomputable def spec120 : Fs U := fs args120 (fun a => [pre120 a]) res120

noncomputable def know119 : List (FuncId × Fs U) := []
def lv119 : Lives U := fun i => match i with
  | 0 => ([(1, [])], [((.loc 1), [])])
  | 1 => ([(1, []), (4, []), (5, [])], [((.loc 1), [])])
  | 2 => ([(4, []), (5, []), (9, []), (10, []), (11, [])], [])
  | 3 => ([(4, []), (5, []), (9, []), (10, []), (11, []), (12, [])], [])
  | 4 => ([(4, []), (5, []), (7, []), (9, []), (10, []), (11, [])], [((.loc 7), [])])
  | 5 => ([(4, []), (5, []), (9, []), (10, []), (11, [])], [])
  | 6 => ([(4, []), (5, []), (9, []), (10, []), (11, [])], [])
  | 7 => ([(2, []), (3, [])], [])
  | _ => ([], [])
noncomputable def head119_0 (t : Tree) (x4 : Int) (x5 : Int) (x11 : Int) : LSt U := (⟨[(4, .c (.int .i64 x4)), (5, .c (.int .i64 x5)), (9, .c (.slice (U := U) .tree (Tree.kids t) .unk)), (10, .c (.int .i64 ((Tree.kids t).length : Int))), (11, .c (.int .i64 x11))], [], []⟩ : LSt U)
noncomputable abbrev A119 (p : List Nat) := awp cfg (know know119) (drawOk cfg (know know119)) Try.f119.ntmps lv119 (cd Try.f119 p)
noncomputable abbrev S119 (p : List Nat) := seqK cfg (know know119) (drawOk cfg (know know119)) Try.f119.ntmps lv119 (cd Try.f119 p)
theorem vc119 (t : Tree) (Q : AExit → LSt U → Prop) (h : (((LoopWp (A119 [1, 1, 0, 1, 0, 0]) (head119_0 t 0 0 0) (AExit.inBlock 0 (S119 [1, 1, 1] Q)))))) :
    A119 [] (⟨[(0, .agg [.int .i64 (Tree.kind t), .slice (U := U) .u64 (Tree.words t) .unk, .slice (U := U) .tree (Tree.kids t) .unk])], [], []⟩ : LSt U) Q :=
  (Eq.mpr (by kernel_rfl) h :)
theorem vc119_l0 (t : Tree) (x4 : Int) (x5 : Int) (x11 : Int) (N0 : LSt U → Prop) (Q : AExit → LSt U → Prop) (h : (((decide ((x11 : Int) < ((Tree.kids t).length : Int))) = true → ((0 : Int) ≤ x11 ∧ x11 < ((Tree.kids t).length : Int)) ∧ (((InR ((x11 : Int) + 1)) ∧ (N0 (head119_0 t (if (x4 : Int) < ((Tree.words (List.getD (Tree.kids t) (Int.toNat x11) Tree.nil)).length : Int) then ((Tree.words (List.getD (Tree.kids t) (Int.toNat x11) Tree.nil)).length : Int) else x4) (if (x5 : Int) < ((Tree.kids (List.getD (Tree.kids t) (Int.toNat x11) Tree.nil)).length : Int) then ((Tree.kids (List.getD (Tree.kids t) (Int.toNat x11) Tree.nil)).length : Int) else x5) ((x11 : Int) + 1)))))) ∧ ((decide ((x11 : Int) < ((Tree.kids t).length : Int))) = false → (Q .ret (⟨[(2, .c (.int .i64 x4)), (3, .c (.int .i64 x5))], [], []⟩ : LSt U))))) :
    A119 [1, 1, 0, 1, 0, 0] (head119_0 t x4 x5 x11) (AExit.then N0 (AExit.inBlock 0 (S119 [1, 1, 1] Q))) :=
  (Eq.mpr (by kernel_rfl) h :)
abbrev Body119 (t : Tree)  : Prop := awp cfg (know (know119)) (drawOk cfg (know (know119))) Try.f119.ntmps lv119 (cd Try.f119 []) (entry (args119.can (t, ())) []) (EndsQ cfg Try.f119.ntmps Try.f119.results.toList (res119 (t, ())) [])
theorem make119 (hb : ∀ (t : Tree) (_ : Unit), pre119 (t, ()) → Body119 t) : Contract Try.prog cfg 119 spec119 :=
  contract_flat (l := []) cfgOk rfl (trivial) lv119 Try.func119 rfl rfl 1 (fun _ => rfl) (by decide) (fun ⟨t, _⟩ => hb t ())

noncomputable def know123 : List (FuncId × Fs U) := []
def lv123 : Lives U := fun i => match i with
  | 0 => ([(0, [])], [])
  | 1 => ([(2, [])], [])
  | _ => ([], [])
noncomputable abbrev A123 (p : List Nat) := awp cfg (know know123) (drawOk cfg (know know123)) Try.f123.ntmps lv123 (cd Try.f123 p)
theorem vc123 (n : Int) (Q : AExit → LSt U → Prop) (h : ((Tr ((decide (((-536870912) : Int) ≤ n)) = true)) ∧ ((Tr ((decide (((-536870912) : Int) ≤ n)) = true))) ∧ (Q .ret (⟨[(2, .c (.bool (bif (decide (((-536870912) : Int) ≤ n)) then (decide ((n : Int) < 536870912)) else false)))], [], []⟩ : LSt U)))) :
    A123 [] (⟨[(0, .c (.int .i64 n))], [], []⟩ : LSt U) Q :=
  (Eq.mpr (by kernel_rfl) h :)
abbrev Body123 (n : Int)  : Prop := awp cfg (know (know123)) (drawOk cfg (know (know123))) Try.f123.ntmps lv123 (cd Try.f123 []) (entry (args123.can (n, ())) []) (EndsQ cfg Try.f123.ntmps Try.f123.results.toList (res123 (n, ())) [])
theorem make123 (hb : ∀ (n : Int) (_ : Unit), pre123 (n, ()) → Body123 n) : Contract Try.prog cfg 123 spec123 :=
  contract_flat (l := []) cfgOk rfl (trivial) lv123 Try.func123 rfl rfl 1 (fun _ => rfl) (by decide) (fun ⟨n, _⟩ => hb n ())

noncomputable def know125 : List (FuncId × Fs U) := []
def lv125 : Lives U := fun i => match i with
  | 0 => ([(0, []), (1, [])], [])
  | 1 => ([(4, [])], [])
  | _ => ([], [])
noncomputable abbrev A125 (p : List Nat) := awp cfg (know know125) (drawOk cfg (know know125)) Try.f125.ntmps lv125 (cd Try.f125 p)
theorem vc125 (off : Int) (k : Int) (Q : AExit → LSt U → Prop) (h : (((0 : Int) ≤ 2) ∧ (Q .ret (⟨[(4, .c (.int .u64 (IntKind.wrap .u64 (IntKind.wrap .u32 (BitVec.ofInt (IntKind.bits .u32) (IntKind.wrap .u32 (((IntKind.wrap .u32 off) : Int) * 2 ^ (min (Int.toNat 2) (IntKind.bits .u32)))) ||| BitVec.ofInt (IntKind.bits .u32) (IntKind.wrap .u32 k)).toNat))))], [], []⟩ : LSt U)))) :
    A125 [] (⟨[(0, .c (.int .i64 off)), (1, .c (.int .i64 k))], [], []⟩ : LSt U) Q :=
  (Eq.mpr (by kernel_rfl) h :)
abbrev Body125 (off : Int) (k : Int)  : Prop := awp cfg (know (know125)) (drawOk cfg (know (know125))) Try.f125.ntmps lv125 (cd Try.f125 []) (entry (args125.can (off, k, ())) []) (EndsQ cfg Try.f125.ntmps Try.f125.results.toList (res125 (off, k, ())) [])
theorem make125 (hb : ∀ (off : Int) (k : Int) (_ : Unit), pre125 (off, k, ()) → Body125 off k) : Contract Try.prog cfg 125 spec125 :=
  contract_flat (l := []) cfgOk rfl (trivial) lv125 Try.func125 rfl rfl 2 (fun _ => rfl) (by decide) (fun ⟨off, k, _⟩ => hb off k ())

noncomputable def know120 : List (FuncId × Fs U) := [(123, spec123), (124, spec124), (125, spec125), (86, spec86)]
def lv120 : Lives U := fun i => match i with
  | 0 => ([(1, [])], [((.loc 1), [])])
  | 1 => ([(1, []), (4, [])], [((.loc 1), [])])
  | 2 => ([(1, []), (4, []), (6, [])], [((.loc 1), [])])
  | 3 => ([(1, []), (4, []), (6, []), (7, [])], [((.loc 1), [])])
  | 4 => ([(1, []), (4, []), (21, []), (49, []), (63, []), (72, []), (84, [])], [((.loc 1), [])])
  | 5 => ([(1, []), (4, []), (21, []), (49, []), (63, []), (72, []), (84, [])], [((.loc 1), [])])
  | 6 => ([(1, []), (4, []), (6, []), (35, [])], [((.loc 1), [])])
  | 7 => ([(1, []), (4, []), (21, []), (49, []), (63, []), (72, []), (84, [])], [((.loc 1), [])])
  | 8 => ([(1, []), (4, []), (21, []), (49, []), (63, []), (72, []), (84, [])], [((.loc 1), [])])
  | 9 => ([(1, []), (4, []), (21, []), (49, []), (63, []), (72, []), (84, [])], [((.loc 1), [])])
  | 10 => ([(1, []), (4, []), (21, []), (49, []), (63, []), (72, []), (84, [])], [((.loc 1), [])])
  | 11 => ([(1, []), (4, [])], [((.loc 1), [])])
  | 12 => ([(1, []), (4, []), (21, []), (49, []), (63, []), (72, []), (84, [])], [((.loc 1), [])])
  | 13 => ([(1, []), (4, []), (21, []), (49, []), (63, []), (72, []), (84, [])], [((.loc 1), [])])
  | 14 => ([(2, []), (3, [])], [])
  | _ => ([], [])
noncomputable def head120_0 (p : Ptr) (x4 : Int) (v21 : V U) (v49 : V U) (v84 : V U) (v72 : V U) (v63 : V U) : LSt U := (⟨[(1, .ptr (.loc 1) 0), (4, .c (.int .u64 x4)), (21, v21), (49, v49), (63, v63), (72, v72), (84, v84)], [((.loc 1), [.int .i64 (Ptr.kind p), .int .i64 (Ptr.off p), .int .i64 (Ptr.data p), .int .i64 (Ptr.ptrs p), .int .i64 (Ptr.code p), .int .i64 (Ptr.count p), .int .i64 (Ptr.segment p), .bool (Ptr.double p)])], []⟩ : LSt U)
noncomputable abbrev A120 (p : List Nat) := awp cfg (know know120) (drawOk cfg (know know120)) Try.f120.ntmps lv120 (cd Try.f120 p)
theorem vc120 (p : Ptr) (Q : AExit → LSt U → Prop) (h : ((((((((Ptr.kind p) : Int) == 1) = true → (pre123 ((Ptr.off p), ())) ∧ (Tr ((decide (-536870912 ≤ (Ptr.off p) ∧ (Ptr.off p) < 536870912)) = true)) ∧ (Tr ((decide (-536870912 ≤ (Ptr.off p) ∧ (Ptr.off p) < 536870912)) = true)) ∧ ((decide (-536870912 ≤ (Ptr.off p) ∧ (Ptr.off p) < 536870912)) = true → pre124 ((Ptr.data p), 65535, ())) ∧ ((Tr ((decide (-536870912 ≤ (Ptr.off p) ∧ (Ptr.off p) < 536870912)) = true))) ∧ (Tr ((bif (decide (-536870912 ≤ (Ptr.off p) ∧ (Ptr.off p) < 536870912)) then (decide (0 ≤ (Ptr.data p) ∧ (Ptr.data p) ≤ 65535)) else false) = true)) ∧ (Tr ((bif (decide (-536870912 ≤ (Ptr.off p) ∧ (Ptr.off p) < 536870912)) then (decide (0 ≤ (Ptr.data p) ∧ (Ptr.data p) ≤ 65535)) else false) = true)) ∧ ((bif (decide (-536870912 ≤ (Ptr.off p) ∧ (Ptr.off p) < 536870912)) then (decide (0 ≤ (Ptr.data p) ∧ (Ptr.data p) ≤ 65535)) else false) = true → pre124 ((Ptr.ptrs p), 65535, ())) ∧ ((Tr ((bif (decide (-536870912 ≤ (Ptr.off p) ∧ (Ptr.off p) < 536870912)) then (decide (0 ≤ (Ptr.data p) ∧ (Ptr.data p) ≤ 65535)) else false) = true))) ∧ (((bif (bif (decide (-536870912 ≤ (Ptr.off p) ∧ (Ptr.off p) < 536870912)) then (decide (0 ≤ (Ptr.data p) ∧ (Ptr.data p) ≤ 65535)) else false) then (decide (0 ≤ (Ptr.ptrs p) ∧ (Ptr.ptrs p) ≤ 65535)) else false) = true → (pre125 ((Ptr.off p), 0, ())) ∧ ((0 : Int) ≤ 32) ∧ ((0 : Int) ≤ 48) ∧ (A120 [1, 1, 1] (head120_0 p (IntKind.wrap .u64 (BitVec.ofInt (IntKind.bits .u64) (IntKind.wrap .u64 (BitVec.ofInt (IntKind.bits .u64) (4 * ((Ptr.off p) % 1073741824) + 0) ||| BitVec.ofInt (IntKind.bits .u64) (IntKind.wrap .u64 (((IntKind.wrap .u64 (Ptr.data p)) : Int) * 2 ^ (min (Int.toNat 32) (IntKind.bits .u64))))).toNat) ||| BitVec.ofInt (IntKind.bits .u64) (IntKind.wrap .u64 (((IntKind.wrap .u64 (Ptr.ptrs p)) : Int) * 2 ^ (min (Int.toNat 48) (IntKind.bits .u64))))).toNat) (.c (.bool (bif (bif (decide (-536870912 ≤ (Ptr.off p) ∧ (Ptr.off p) < 536870912)) then (decide (0 ≤ (Ptr.data p) ∧ (Ptr.data p) ≤ 65535)) else false) then (decide (0 ≤ (Ptr.ptrs p) ∧ (Ptr.ptrs p) ≤ 65535)) else false))) .junk .junk .junk .junk) Q)) ∧ ((bif (bif (decide (-536870912 ≤ (Ptr.off p) ∧ (Ptr.off p) < 536870912)) then (decide (0 ≤ (Ptr.data p) ∧ (Ptr.data p) ≤ 65535)) else false) then (decide (0 ≤ (Ptr.ptrs p) ∧ (Ptr.ptrs p) ≤ 65535)) else false) = false → A120 [1, 1, 1] (head120_0 p 0 (.c (.bool (bif (bif (decide (-536870912 ≤ (Ptr.off p) ∧ (Ptr.off p) < 536870912)) then (decide (0 ≤ (Ptr.data p) ∧ (Ptr.data p) ≤ 65535)) else false) then (decide (0 ≤ (Ptr.ptrs p) ∧ (Ptr.ptrs p) ≤ 65535)) else false))) .junk .junk .junk .junk) Q))) ∧ ((((Ptr.kind p) : Int) == 1) = false → (((((Ptr.kind p) : Int) == 2) = true → (pre123 ((Ptr.off p), ())) ∧ (Tr ((decide (-536870912 ≤ (Ptr.off p) ∧ (Ptr.off p) < 536870912)) = true)) ∧ (Tr ((decide (-536870912 ≤ (Ptr.off p) ∧ (Ptr.off p) < 536870912)) = true)) ∧ ((decide (-536870912 ≤ (Ptr.off p) ∧ (Ptr.off p) < 536870912)) = true → pre124 ((Ptr.code p), 7, ())) ∧ ((Tr ((decide (-536870912 ≤ (Ptr.off p) ∧ (Ptr.off p) < 536870912)) = true))) ∧ (Tr ((bif (decide (-536870912 ≤ (Ptr.off p) ∧ (Ptr.off p) < 536870912)) then (decide (0 ≤ (Ptr.code p) ∧ (Ptr.code p) ≤ 7)) else false) = true)) ∧ (Tr ((bif (decide (-536870912 ≤ (Ptr.off p) ∧ (Ptr.off p) < 536870912)) then (decide (0 ≤ (Ptr.code p) ∧ (Ptr.code p) ≤ 7)) else false) = true)) ∧ ((bif (decide (-536870912 ≤ (Ptr.off p) ∧ (Ptr.off p) < 536870912)) then (decide (0 ≤ (Ptr.code p) ∧ (Ptr.code p) ≤ 7)) else false) = true → pre124 ((Ptr.count p), 536870911, ())) ∧ ((Tr ((bif (decide (-536870912 ≤ (Ptr.off p) ∧ (Ptr.off p) < 536870912)) then (decide (0 ≤ (Ptr.code p) ∧ (Ptr.code p) ≤ 7)) else false) = true))) ∧ (((bif (bif (decide (-536870912 ≤ (Ptr.off p) ∧ (Ptr.off p) < 536870912)) then (decide (0 ≤ (Ptr.code p) ∧ (Ptr.code p) ≤ 7)) else false) then (decide (0 ≤ (Ptr.count p) ∧ (Ptr.count p) ≤ 536870911)) else false) = true → (pre125 ((Ptr.off p), 1, ())) ∧ ((0 : Int) ≤ 32) ∧ ((0 : Int) ≤ 35) ∧ (A120 [1, 1, 1] (head120_0 p (IntKind.wrap .u64 (BitVec.ofInt (IntKind.bits .u64) (IntKind.wrap .u64 (BitVec.ofInt (IntKind.bits .u64) (4 * ((Ptr.off p) % 1073741824) + 1) ||| BitVec.ofInt (IntKind.bits .u64) (IntKind.wrap .u64 (((IntKind.wrap .u64 (Ptr.code p)) : Int) * 2 ^ (min (Int.toNat 32) (IntKind.bits .u64))))).toNat) ||| BitVec.ofInt (IntKind.bits .u64) (IntKind.wrap .u64 (((IntKind.wrap .u64 (Ptr.count p)) : Int) * 2 ^ (min (Int.toNat 35) (IntKind.bits .u64))))).toNat) .junk (.c (.bool (bif (bif (decide (-536870912 ≤ (Ptr.off p) ∧ (Ptr.off p) < 536870912)) then (decide (0 ≤ (Ptr.code p) ∧ (Ptr.code p) ≤ 7)) else false) then (decide (0 ≤ (Ptr.count p) ∧ (Ptr.count p) ≤ 536870911)) else false))) .junk .junk .junk) Q)) ∧ ((bif (bif (decide (-536870912 ≤ (Ptr.off p) ∧ (Ptr.off p) < 536870912)) then (decide (0 ≤ (Ptr.code p) ∧ (Ptr.code p) ≤ 7)) else false) then (decide (0 ≤ (Ptr.count p) ∧ (Ptr.count p) ≤ 536870911)) else false) = false → A120 [1, 1, 1] (head120_0 p 0 .junk (.c (.bool (bif (bif (decide (-536870912 ≤ (Ptr.off p) ∧ (Ptr.off p) < 536870912)) then (decide (0 ≤ (Ptr.code p) ∧ (Ptr.code p) ≤ 7)) else false) then (decide (0 ≤ (Ptr.count p) ∧ (Ptr.count p) ≤ 536870911)) else false))) .junk .junk .junk) Q))) ∧ ((((Ptr.kind p) : Int) == 2) = false → (((((Ptr.kind p) : Int) == 3) = true → (pre124 ((Ptr.off p), 536870911, ())) ∧ (Tr ((decide (0 ≤ (Ptr.off p) ∧ (Ptr.off p) ≤ 536870911)) = true)) ∧ (Tr ((decide (0 ≤ (Ptr.off p) ∧ (Ptr.off p) ≤ 536870911)) = true)) ∧ ((decide (0 ≤ (Ptr.off p) ∧ (Ptr.off p) ≤ 536870911)) = true → pre124 ((Ptr.segment p), 4294967295, ())) ∧ ((Tr ((decide (0 ≤ (Ptr.off p) ∧ (Ptr.off p) ≤ 536870911)) = true))) ∧ (((bif (decide (0 ≤ (Ptr.off p) ∧ (Ptr.off p) ≤ 536870911)) then (decide (0 ≤ (Ptr.segment p) ∧ (Ptr.segment p) ≤ 4294967295)) else false) = true → ((0 : Int) ≤ 3) ∧ ((0 : Int) ≤ 32) ∧ ((((Ptr.double p) = true → (A120 [1, 1, 1] (head120_0 p (IntKind.wrap .u64 (BitVec.ofInt (IntKind.bits .u64) (IntKind.wrap .u64 (BitVec.ofInt (IntKind.bits .u64) (IntKind.wrap .u64 (BitVec.ofInt (IntKind.bits .u64) (IntKind.wrap .u64 (((IntKind.wrap .u64 (Ptr.off p)) : Int) * 2 ^ (min (Int.toNat 3) (IntKind.bits .u64)))) ||| BitVec.ofInt (IntKind.bits .u64) 2).toNat) ||| BitVec.ofInt (IntKind.bits .u64) (IntKind.wrap .u64 (((IntKind.wrap .u64 (Ptr.segment p)) : Int) * 2 ^ (min (Int.toNat 32) (IntKind.bits .u64))))).toNat) ||| BitVec.ofInt (IntKind.bits .u64) 4).toNat) .junk .junk (.c (.bool (Ptr.double p))) .junk .junk) Q)) ∧ ((Ptr.double p) = false → A120 [1, 1, 1] (head120_0 p (IntKind.wrap .u64 (BitVec.ofInt (IntKind.bits .u64) (IntKind.wrap .u64 (BitVec.ofInt (IntKind.bits .u64) (IntKind.wrap .u64 (((IntKind.wrap .u64 (Ptr.off p)) : Int) * 2 ^ (min (Int.toNat 3) (IntKind.bits .u64)))) ||| BitVec.ofInt (IntKind.bits .u64) 2).toNat) ||| BitVec.ofInt (IntKind.bits .u64) (IntKind.wrap .u64 (((IntKind.wrap .u64 (Ptr.segment p)) : Int) * 2 ^ (min (Int.toNat 32) (IntKind.bits .u64))))).toNat) .junk .junk (.c (.bool (Ptr.double p))) .junk .junk) Q)))) ∧ ((bif (decide (0 ≤ (Ptr.off p) ∧ (Ptr.off p) ≤ 536870911)) then (decide (0 ≤ (Ptr.segment p) ∧ (Ptr.segment p) ≤ 4294967295)) else false) = false → A120 [1, 1, 1] (head120_0 p 0 .junk .junk .junk (.c (.bool (bif (decide (0 ≤ (Ptr.off p) ∧ (Ptr.off p) ≤ 536870911)) then (decide (0 ≤ (Ptr.segment p) ∧ (Ptr.segment p) ≤ 4294967295)) else false))) (.c (.bool (((Ptr.kind p) : Int) == 3)))) Q))) ∧ ((((Ptr.kind p) : Int) == 3) = false → A120 [1, 1, 1] (head120_0 p 0 .junk .junk .junk .junk (.c (.bool (((Ptr.kind p) : Int) == 3)))) Q)))))))))) :
    A120 [] (⟨[(0, .agg [.int .i64 (Ptr.kind p), .int .i64 (Ptr.off p), .int .i64 (Ptr.data p), .int .i64 (Ptr.ptrs p), .int .i64 (Ptr.code p), .int .i64 (Ptr.count p), .int .i64 (Ptr.segment p), .bool (Ptr.double p)])], [], []⟩ : LSt U) Q :=
  (Eq.mpr (by kernel_rfl) h :)
theorem vc120_c0 (p : Ptr) (x4 : Int) (v21 : V U) (v49 : V U) (v84 : V U) (v72 : V U) (v63 : V U) (Q : AExit → LSt U → Prop) (h : (pre86 (x4, ())) ∧ (Tr (((((Ptr.kind (decP x4)) : Int) == (Ptr.kind p)) && ((((Ptr.off (decP x4)) : Int) == (Ptr.off p)) && ((((Ptr.data (decP x4)) : Int) == (Ptr.data p)) && ((((Ptr.ptrs (decP x4)) : Int) == (Ptr.ptrs p)) && ((((Ptr.code (decP x4)) : Int) == (Ptr.code p)) && ((((Ptr.count (decP x4)) : Int) == (Ptr.count p)) && ((((Ptr.segment (decP x4)) : Int) == (Ptr.segment p)) && (((Ptr.double (decP x4)) == (Ptr.double p)) && true)))))))) = true)) ∧ (Tr (((((Ptr.kind (decP x4)) : Int) == (Ptr.kind p)) && ((((Ptr.off (decP x4)) : Int) == (Ptr.off p)) && ((((Ptr.data (decP x4)) : Int) == (Ptr.data p)) && ((((Ptr.ptrs (decP x4)) : Int) == (Ptr.ptrs p)) && ((((Ptr.code (decP x4)) : Int) == (Ptr.code p)) && ((((Ptr.count (decP x4)) : Int) == (Ptr.count p)) && ((((Ptr.segment (decP x4)) : Int) == (Ptr.segment p)) && (((Ptr.double (decP x4)) == (Ptr.double p)) && true)))))))) = true)) ∧ ((Tr (((((Ptr.kind (decP x4)) : Int) == (Ptr.kind p)) && ((((Ptr.off (decP x4)) : Int) == (Ptr.off p)) && ((((Ptr.data (decP x4)) : Int) == (Ptr.data p)) && ((((Ptr.ptrs (decP x4)) : Int) == (Ptr.ptrs p)) && ((((Ptr.code (decP x4)) : Int) == (Ptr.code p)) && ((((Ptr.count (decP x4)) : Int) == (Ptr.count p)) && ((((Ptr.segment (decP x4)) : Int) == (Ptr.segment p)) && (((Ptr.double (decP x4)) == (Ptr.double p)) && true)))))))) = true))) ∧ (Q .ret (⟨[(2, .c (.int .u64 x4)), (3, .c (.bool (bif ((((Ptr.kind (decP x4)) : Int) == (Ptr.kind p)) && ((((Ptr.off (decP x4)) : Int) == (Ptr.off p)) && ((((Ptr.data (decP x4)) : Int) == (Ptr.data p)) && ((((Ptr.ptrs (decP x4)) : Int) == (Ptr.ptrs p)) && ((((Ptr.code (decP x4)) : Int) == (Ptr.code p)) && ((((Ptr.count (decP x4)) : Int) == (Ptr.count p)) && ((((Ptr.segment (decP x4)) : Int) == (Ptr.segment p)) && (((Ptr.double (decP x4)) == (Ptr.double p)) && true)))))))) then (((Ptr.kind p) : Int) != 4) else false)))], [], []⟩ : LSt U))) :
    A120 [1, 1, 1] (head120_0 p x4 v21 v49 v84 v72 v63) Q :=
  (Eq.mpr (by kernel_rfl) h :)
abbrev Body120 (p : Ptr)  : Prop := awp cfg (know (know120)) (drawOk cfg (know (know120))) Try.f120.ntmps lv120 (cd Try.f120 []) (entry (args120.can (p, ())) []) (EndsQ cfg Try.f120.ntmps Try.f120.results.toList (res120 (p, ())) [])
theorem make120 (c123 : Contract Try.prog cfg 123 spec123) (c124 : Contract Try.prog cfg 124 spec124) (c125 : Contract Try.prog cfg 125 spec125) (c86 : Contract Try.prog cfg 86 spec86) (hb : ∀ (p : Ptr) (_ : Unit), pre120 (p, ()) → Body120 p) : Contract Try.prog cfg 120 spec120 :=
  contract_flat (l := [(123, spec123), (124, spec124), (125, spec125), (86, spec86)]) cfgOk rfl (⟨c123, c124, c125, c86, trivial⟩) lv120 Try.func120 rfl rfl 1 (fun _ => rfl) (by decide) (fun ⟨p, _⟩ => hb p ())

end Go.AM.Ythokdjgpdonhgaa

namespace Go.AM.Ythokdjgpdonhgaa
open Go.AM Go.Proofs

def mu54 (a : Tree × Unit) : Nat := mass a.1
def args95 : ArgL (Tree × Unit) := (.cons (aEl .tree) .nil)
def pre95 (a : Tree × Unit) : Prop := mass a.1 ≤ 1000000 ∧ (∃ d, rightT a.1 d = true)
def mu95 (a : Tree × Unit) : Nat := mass a.1
noncomputable def res95 (a : Tree × Unit) : V U := .c (.int .i64 (sizeN a.1 : Int))
noncomputable def spec95 : Fs U := fs args95 (fun a => [pre95 a]) res95

def args73 : ArgL (Tree × Unit) := (.cons (aEl .tree) .nil)
def pre73 (a : Tree × Unit) : Prop := (mass a.1 ≤ 1000000) ∧ (∃ d, rightT a.1 d = true)
noncomputable def res73 (a : Tree × Unit) : V U := .c (.int .i64 (sizeN (normT a.1) : Int))
noncomputable def spec73 : Fs U := fs args73 (fun a => [pre73 a]) res73

def args75 : ArgM ((List Int × Unit) × Int × Unit) := (.obj 0 (.cons (cWr .u64 0 0) .nil) (.cons (aInt .i64) .nil))
def pre75 (a : (List Int × Unit) × Int × Unit) : Prop := (a.1.1.length ≤ 1000000) ∧ 0 ≤ a.2.1 ∧ a.2.1 ≤ 1000000
noncomputable def res75 (a : (List Int × Unit) × Int × Unit) : V U := .c (.int .i64 (a.1.1.length : Int))
noncomputable def resX75 (a : (List Int × Unit) × Int × Unit) : List (List (C U)) := [[.mref (.x 0 0)]]
noncomputable def resL75 (a : (List Int × Unit) × Int × Unit) : List (Tok × LC U) := [(.x 0 0, LC.mk (U := U) .u64 (a.1.1 ++ zs (Int.toNat a.2.1)) 0)]
noncomputable def spec75 : Fs U := fsXL args75 (fun a => [pre75 a]) res75 resX75 resL75

def args1075 : ArgM ((List Int × Unit) × Int × Unit) := (.obj 0 (.cons (cOwn .u64 0 0) .nil) (.cons (aInt .i64) .nil))
def pre1075 (a : (List Int × Unit) × Int × Unit) : Prop := (a.1.1 = []) ∧ 0 ≤ a.2.1 ∧ a.2.1 ≤ 1000000
noncomputable def res1075 (a : (List Int × Unit) × Int × Unit) : V U := .c (.int .i64 (a.1.1.length : Int))
noncomputable def resX1075 (a : (List Int × Unit) × Int × Unit) : List (List (C U)) := [[.mref (.x 0 0)]]
noncomputable def resL1075 (a : (List Int × Unit) × Int × Unit) : List (Tok × LC U) := [(.x 0 0, LC.mk (U := U) .u64 (a.1.1 ++ zs (Int.toNat a.2.1)) 0)]
noncomputable def spec1075 : Fs U := fsXL args1075 (fun a => [pre1075 a]) res1075 resX1075 resL1075

def args96 : ArgM ((List Int × Unit) × Int × Int × Ptr × Unit) := (.obj 0 (.cons (cWr .u64 0 0) .nil) (.cons (aInt .i64) (.cons (aInt .i64) (.cons (aEl .ptr) .nil))))
def pre96 (a : (List Int × Unit) × Int × Int × Ptr × Unit) : Prop := (0 ≤ a.2.1 ∧ a.2.1 < a.1.1.length ∧ a.2.1 < a.2.2.1 ∧ a.2.2.1 ≤ 1000000) ∧ pntOk a.2.2.2.1
noncomputable def res96 (a : (List Int × Unit) × Int × Int × Ptr × Unit) : V U := .c (.bool true)
noncomputable def resX96 (a : (List Int × Unit) × Int × Int × Ptr × Unit) : List (List (C U)) := [[.mref (.x 0 0)]]
noncomputable def resL96 (a : (List Int × Unit) × Int × Int × Ptr × Unit) : List (Tok × LC U) := [(.x 0 0, LC.mk (U := U) .u64 (a.1.1.set (Int.toNat a.2.1) (pntW a.2.1 a.2.2.1 a.2.2.2.1)) 0)]
noncomputable def spec96 : Fs U := fsXL args96 (fun a => [pre96 a]) res96 resX96 resL96

noncomputable def know95 (N : Nat) : List (FuncId × Fs U) := (95, fs args95 (fun a => [pre95 a, mu95 a < N]) res95) :: [(119, spec119), (118, spec118), (107, spec107)]
def lv95 : Lives U := fun i => match i with
  | 0 => ([(1, [])], [((.loc 1), [])])
  | 1 => ([(1, []), (3, [])], [((.loc 1), [])])
  | 2 => ([(1, []), (3, []), (10, [])], [((.loc 1), [])])
  | 3 => ([(1, []), (3, [])], [((.loc 1), [])])
  | 4 => ([(1, []), (3, []), (21, [])], [((.loc 1), [])])
  | 5 => ([(1, []), (3, [])], [((.loc 1), [])])
  | 6 => ([(1, []), (3, []), (28, [])], [((.loc 1), [])])
  | 7 => ([(2, [])], [])
  | 8 => ([(1, []), (3, []), (39, [])], [((.loc 1), [])])
  | 9 => ([(1, []), (4, []), (5, [])], [((.loc 1), [])])
  | 10 => ([(1, []), (3, [])], [((.loc 1), [])])
  | 11 => ([(3, []), (57, []), (58, []), (59, [])], [])
  | 12 => ([(3, []), (57, []), (58, []), (59, []), (60, [])], [])
  | 13 => ([(3, []), (7, []), (57, []), (58, []), (59, [])], [((.loc 7), [])])
  | 14 => ([(3, []), (57, []), (58, []), (59, [])], [])
  | 15 => ([(3, []), (57, []), (58, []), (59, [])], [])
  | 16 => ([(2, [])], [])
  | 17 => ([(3, []), (78, []), (79, []), (80, [])], [])
  | 18 => ([(3, []), (78, []), (79, []), (80, []), (81, [])], [])
  | 19 => ([(3, []), (9, []), (78, []), (79, []), (80, [])], [((.loc 9), [])])
  | 20 => ([(3, []), (78, []), (79, []), (80, [])], [])
  | 21 => ([(3, []), (78, []), (79, []), (80, [])], [])
  | 22 => ([(2, [])], [])
  | _ => ([], [])
noncomputable def head95_0 (t : Tree) (x3 : Int) (x80 : Int) : LSt U := (⟨[(3, .c (.int .i64 x3)), (78, .c (.slice (U := U) .tree (Tree.kids t) .unk)), (79, .c (.int .i64 ((Tree.kids t).length : Int))), (80, .c (.int .i64 x80))], [], []⟩ : LSt U)
noncomputable def head95_1 (t : Tree) (x3_a : Int) (x59_a : Int) : LSt U := (⟨[(3, .c (.int .i64 x3_a)), (57, .c (.slice (U := U) .tree (Tree.kids t) .unk)), (58, .c (.int .i64 ((Tree.kids t).length : Int))), (59, .c (.int .i64 x59_a))], [], []⟩ : LSt U)
noncomputable abbrev A95 (N : Nat) (p : List Nat) := awp cfg (know (know95 N)) (drawOk cfg (know (know95 N))) Try.f95.ntmps lv95 (cd Try.f95 p)
noncomputable abbrev S95 (N : Nat) (p : List Nat) := seqK cfg (know (know95 N)) (drawOk cfg (know (know95 N))) Try.f95.ntmps lv95 (cd Try.f95 p)
theorem vc95 (N : Nat) (t : Tree) (Q : AExit → LSt U → Prop) (h : ∀ y_1, y_1 = (t) → (((((((Tree.kind t) : Int) == 1) = true → (InR ((((Tree.words t).length : Int) : Int) + ((Tree.kids t).length : Int))) ∧ ((LoopWp (A95 N [1, 1, 1, 0, 1, 0, 0]) (head95_0 t ((((Tree.words t).length : Int) : Int) + ((Tree.kids t).length : Int)) 0) (AExit.inBlock 3 (S95 N [1, 1, 1, 1] Q))))) ∧ ((((Tree.kind t) : Int) == 1) = false → (((((Tree.kind t) : Int) == 8) = true → ((LoopWp (A95 N [1, 1, 1, 0, 1, 0, 0]) (head95_0 t ((Tree.kids t).length : Int) 0) (AExit.inBlock 3 (S95 N [1, 1, 1, 1] Q))))) ∧ ((((Tree.kind t) : Int) == 8) = false → (pre107 ((Tree.kind t), ())) ∧ (((decide (2 ≤ (Tree.kind t) ∧ (Tree.kind t) ≤ 7)) = true → (InR (((Tree.kind t) : Int) - 2)) ∧ (pre118 ((((Tree.kind t) : Int) - 2), ((Tree.kids t).length : Int), ())) ∧ (Q .ret (⟨[(2, .c (.int .i64 (roomW (((Tree.kind t) : Int) - 2) ((Tree.kids t).length : Int))))], [], []⟩ : LSt U))) ∧ ((decide (2 ≤ (Tree.kind t) ∧ (Tree.kind t) ≤ 7)) = false → (((((Tree.kind t) : Int) == 9) = true → (pre119 (y_1, ())) ∧ ((InR (((frW (Tree.kids y_1) : Int) : Int) + (frK (Tree.kids y_1) : Int))) ∧ (InR ((((Tree.kids t).length : Int) : Int) * (((frW (Tree.kids y_1) : Int) : Int) + (frK (Tree.kids y_1) : Int)))) ∧ (InR ((1 : Int) + ((((Tree.kids t).length : Int) : Int) * (((frW (Tree.kids y_1) : Int) : Int) + (frK (Tree.kids y_1) : Int))))) ∧ ((LoopWp (A95 N [1, 1, 0, 0, 1, 1, 1, 1, 1, 1, 1, 0, 1, 1, 0, 1, 0, 0]) (head95_1 t ((1 : Int) + ((((Tree.kids t).length : Int) : Int) * (((frW (Tree.kids y_1) : Int) : Int) + (frK (Tree.kids y_1) : Int)))) 0) (AExit.inBlock 1 (S95 N [1, 1, 0, 0, 1, 1, 1, 1, 1, 1, 1, 0, 1, 1, 1] (AExit.inBlock 0 (S95 N [1, 1, 1] Q)))))))) ∧ ((((Tree.kind t) : Int) == 9) = false → (LoopWp (A95 N [1, 1, 1, 0, 1, 0, 0]) (head95_0 t 0 0) (AExit.inBlock 3 (S95 N [1, 1, 1, 1] Q)))))))))))))) :
    A95 N [] (⟨[(0, .agg [.int .i64 (Tree.kind t), .slice (U := U) .u64 (Tree.words t) .unk, .slice (U := U) .tree (Tree.kids t) .unk])], [], []⟩ : LSt U) Q :=
  (Eq.mpr (by kernel_rfl) (h _ (reTree_eq _)) :)
theorem vc95_l0 (N : Nat) (t : Tree) (x3 : Int) (x80 : Int) (N0 : LSt U → Prop) (Q : AExit → LSt U → Prop) (h : (((decide ((x80 : Int) < ((Tree.kids t).length : Int))) = true → ((0 : Int) ≤ x80 ∧ x80 < ((Tree.kids t).length : Int)) ∧ ((pre95 ((Tree.mk (Tree.kind (List.getD (Tree.kids t) (Int.toNat x80) Tree.nil)) (Tree.words (List.getD (Tree.kids t) (Int.toNat x80) Tree.nil)) (Tree.kids (List.getD (Tree.kids t) (Int.toNat x80) Tree.nil))), ())) ∧ (mu95 ((Tree.mk (Tree.kind (List.getD (Tree.kids t) (Int.toNat x80) Tree.nil)) (Tree.words (List.getD (Tree.kids t) (Int.toNat x80) Tree.nil)) (Tree.kids (List.getD (Tree.kids t) (Int.toNat x80) Tree.nil))), ()) < N) ∧ (InR ((x3 : Int) + (sizeN (Tree.mk (Tree.kind (List.getD (Tree.kids t) (Int.toNat x80) Tree.nil)) (Tree.words (List.getD (Tree.kids t) (Int.toNat x80) Tree.nil)) (Tree.kids (List.getD (Tree.kids t) (Int.toNat x80) Tree.nil))) : Int))) ∧ ((InR ((x80 : Int) + 1)) ∧ (N0 (head95_0 t ((x3 : Int) + (sizeN (Tree.mk (Tree.kind (List.getD (Tree.kids t) (Int.toNat x80) Tree.nil)) (Tree.words (List.getD (Tree.kids t) (Int.toNat x80) Tree.nil)) (Tree.kids (List.getD (Tree.kids t) (Int.toNat x80) Tree.nil))) : Int)) ((x80 : Int) + 1)))))) ∧ ((decide ((x80 : Int) < ((Tree.kids t).length : Int))) = false → (Q .ret (⟨[(2, .c (.int .i64 x3))], [], []⟩ : LSt U))))) :
    A95 N [1, 1, 1, 0, 1, 0, 0] (head95_0 t x3 x80) (AExit.then N0 (AExit.inBlock 3 (S95 N [1, 1, 1, 1] Q))) :=
  (Eq.mpr (by kernel_rfl) h :)
theorem vc95_l1 (N : Nat) (t : Tree) (x3_a : Int) (x59_a : Int) (N1 : LSt U → Prop) (Q : AExit → LSt U → Prop) (h : ∀ y_1, y_1 = (List.getD (Tree.kids t) (Int.toNat x59_a) Tree.nil) → ∀ y_2, y_2 = (y_1) → (((decide ((x59_a : Int) < ((Tree.kids t).length : Int))) = true → ((0 : Int) ≤ x59_a ∧ x59_a < ((Tree.kids t).length : Int)) ∧ ((pre95 (y_2, ())) ∧ (mu95 (y_2, ()) < N) ∧ (InR (((sizeN y_2 : Int) : Int) - ((Tree.words y_1).length : Int))) ∧ (InR (((((sizeN y_2 : Int) : Int) - ((Tree.words y_1).length : Int)) : Int) - ((Tree.kids y_1).length : Int))) ∧ (InR ((x3_a : Int) + (((((sizeN y_2 : Int) : Int) - ((Tree.words y_1).length : Int)) : Int) - ((Tree.kids y_1).length : Int)))) ∧ ((InR ((x59_a : Int) + 1)) ∧ (N1 (head95_1 t ((x3_a : Int) + (((((sizeN y_2 : Int) : Int) - ((Tree.words y_1).length : Int)) : Int) - ((Tree.kids y_1).length : Int))) ((x59_a : Int) + 1)))))) ∧ ((decide ((x59_a : Int) < ((Tree.kids t).length : Int))) = false → (Q .ret (⟨[(2, .c (.int .i64 x3_a))], [], []⟩ : LSt U))))) :
    A95 N [1, 1, 0, 0, 1, 1, 1, 1, 1, 1, 1, 0, 1, 1, 0, 1, 0, 0] (head95_1 t x3_a x59_a) (AExit.then N1 (AExit.inBlock 1 (S95 N [1, 1, 0, 0, 1, 1, 1, 1, 1, 1, 1, 0, 1, 1, 1] (AExit.inBlock 0 (S95 N [1, 1, 1] Q))))) :=
  (Eq.mpr (by kernel_rfl) (h _ rfl _ (reTree_eq _)) :)
abbrev Body95 (N : Nat) (t : Tree)  : Prop := awp cfg (know (know95 N)) (drawOk cfg (know (know95 N))) Try.f95.ntmps lv95 (cd Try.f95 []) (entry (args95.can (t, ())) []) (EndsQ cfg Try.f95.ntmps Try.f95.results.toList (res95 (t, ())) [])
theorem make95 (c119 : Contract Try.prog cfg 119 spec119) (c118 : Contract Try.prog cfg 118 spec118) (c107 : Contract Try.prog cfg 107 spec107) (hb : ∀ (N : Nat) (t : Tree) (_ : Unit), pre95 (t, ()) → mu95 (t, ()) < N + 1 → Body95 N t) : Contract Try.prog cfg 95 spec95 :=
  contract_rec (μ := mu95) (l := [(119, spec119), (118, spec118), (107, spec107)]) cfgOk rfl (⟨c119, c118, c107, trivial⟩) lv95 Try.func95 rfl rfl 1 (fun _ => rfl) (by decide) (fun N ⟨t, _⟩ => hb N t ())

noncomputable def know73 : List (FuncId × Fs U) := [(72, spec72), (95, spec95)]
def lv73 : Lives U := fun i => match i with
  | 0 => ([(1, [])], [((.loc 1), [])])
  | 1 => ([(2, [])], [])
  | _ => ([], [])
noncomputable abbrev A73 (p : List Nat) := awp cfg (know know73) (drawOk cfg (know know73)) Try.f73.ntmps lv73 (cd Try.f73 p)
theorem vc73 (t : Tree) (Q : AExit → LSt U → Prop) (h : ((pre72 ((Tree.mk (Tree.kind t) (Tree.words t) (Tree.kids t)), ())) ∧ (pre95 ((Tree.mk (Tree.kind (normT (Tree.mk (Tree.kind t) (Tree.words t) (Tree.kids t)))) (Tree.words (normT (Tree.mk (Tree.kind t) (Tree.words t) (Tree.kids t)))) (Tree.kids (normT (Tree.mk (Tree.kind t) (Tree.words t) (Tree.kids t))))), ())) ∧ (Q .ret (⟨[(2, .c (.int .i64 (sizeN (Tree.mk (Tree.kind (normT (Tree.mk (Tree.kind t) (Tree.words t) (Tree.kids t)))) (Tree.words (normT (Tree.mk (Tree.kind t) (Tree.words t) (Tree.kids t)))) (Tree.kids (normT (Tree.mk (Tree.kind t) (Tree.words t) (Tree.kids t))))) : Int)))], [], []⟩ : LSt U)))) :
    A73 [] (⟨[(0, .agg [.int .i64 (Tree.kind t), .slice (U := U) .u64 (Tree.words t) .unk, .slice (U := U) .tree (Tree.kids t) .unk])], [], []⟩ : LSt U) Q :=
  (Eq.mpr (by kernel_rfl) h :)
abbrev Body73 (t : Tree)  : Prop := awp cfg (know (know73)) (drawOk cfg (know (know73))) Try.f73.ntmps lv73 (cd Try.f73 []) (entry (args73.can (t, ())) []) (EndsQ cfg Try.f73.ntmps Try.f73.results.toList (res73 (t, ())) [])
theorem make73 (c72 : Contract Try.prog cfg 72 spec72) (c95 : Contract Try.prog cfg 95 spec95) (hb : ∀ (t : Tree) (_ : Unit), pre73 (t, ()) → Body73 t) : Contract Try.prog cfg 73 spec73 :=
  contract_flat (l := [(72, spec72), (95, spec95)]) cfgOk rfl (⟨c72, c95, trivial⟩) lv73 Try.func73 rfl rfl 1 (fun _ => rfl) (by decide) (fun ⟨t, _⟩ => hb t ())

noncomputable def know75 : List (FuncId × Fs U) := []
def lv75 : Lives U := fun i => match i with
  | 0 => ([(0, []), (1, [])], [((.x 0), [.wr .u64])])
  | 1 => ([(0, []), (1, []), (5, [])], [((.x 0), [.wr .u64])])
  | 2 => ([(5, [])], [((.x 0), [.wr .u64])])
  | 3 => ([(4, [])], [((.x 0), [.wr .u64])])
  | _ => ([], [])
noncomputable abbrev A75 (p : List Nat) := awp cfg (know know75) (drawOk cfg (know know75)) Try.f75.ntmps lv75 (cd Try.f75 p)
theorem vc75 (l : List Int) (n : Int) (Q : AExit → LSt U → Prop) (h : ((((0 : Int) ≤ n ∧ ((l.length : Int) + n) * ((8 : Nat) : Int) ≤ 140737488355328) ∧ ((Q .ret (⟨[(4, .c (.int .i64 (l.length : Int)))], [((.x 0), [.mref (.x 0 0)])], [(.x 0 0, LC.mk (U := U) .u64 (l ++ List.replicate (Int.toNat n) (0 : Int)) 0)]⟩ : LSt U)))))) :
    A75 [] (⟨[(0, .ptr (.x 0) 0), (1, .c (.int .i64 n))], [((.x 0), [.mref (.x 0 0)])], [(.x 0 0, LC.mk (U := U) .u64 l 0)]⟩ : LSt U) Q :=
  (Eq.mpr (by kernel_rfl) h :)
abbrev Body75 (l : List Int) (n : Int)  : Prop := awp cfg (know (know75)) (drawOk cfg (know (know75))) Try.f75.ntmps lv75 (cd Try.f75 []) (entryL (args75.can ((l, ()), n, ())) (args75.canX ((l, ()), n, ())) (args75.canL ((l, ()), n, ()))) (EndsQL cfg Try.f75.ntmps Try.f75.results.toList (res75 ((l, ()), n, ())) (resX75 ((l, ()), n, ())) (resL75 ((l, ()), n, ())))
theorem make75 (hb : ∀ (l : List Int) (n : Int) (_ : Unit), pre75 ((l, ()), n, ()) → Body75 l n) : Contract Try.prog cfg 75 spec75 :=
  contractXL_flat (l := []) cfgOk rfl (trivial) lv75 Try.func75 rfl rfl 2 (fun _ => rfl) (by decide) (fun ⟨⟨l, _⟩, n, _⟩ => hb l n ())

noncomputable def know1075 : List (FuncId × Fs U) := []
def lv1075 : Lives U := fun i => match i with
  | 0 => ([(0, []), (1, [])], [((.x 0), [.wr .u64])])
  | 1 => ([(0, []), (1, []), (5, [])], [((.x 0), [.wr .u64])])
  | 2 => ([(5, [])], [((.x 0), [.wr .u64])])
  | 3 => ([(4, [])], [((.x 0), [.wr .u64])])
  | _ => ([], [])
noncomputable abbrev A1075 (p : List Nat) := awp cfg (know know1075) (drawOk cfg (know know1075)) Try.f75.ntmps lv1075 (cd Try.f75 p)
theorem vc1075 (l : List Int) (n : Int) (Q : AExit → LSt U → Prop) (h : ((((0 : Int) ≤ n ∧ ((l.length : Int) + n) * ((8 : Nat) : Int) ≤ 140737488355328) ∧ ((Q .ret (⟨[(4, .c (.int .i64 (l.length : Int)))], [((.x 0), [.mref (.x 0 0)])], [(.x 0 0, LC.mk (U := U) .u64 (l ++ List.replicate (Int.toNat n) (0 : Int)) l.length)]⟩ : LSt U)))))) :
    A1075 [] (⟨[(0, .ptr (.x 0) 0), (1, .c (.int .i64 n))], [((.x 0), [.slice (U := U) .u64 l (.own (.x 0 0))])], []⟩ : LSt U) Q :=
  (Eq.mpr (by kernel_rfl) h :)
abbrev Body1075 (l : List Int) (n : Int)  : Prop := awp cfg (know (know1075)) (drawOk cfg (know (know1075))) Try.f75.ntmps lv1075 (cd Try.f75 []) (entryL (args1075.can ((l, ()), n, ())) (args1075.canX ((l, ()), n, ())) (args1075.canL ((l, ()), n, ()))) (EndsQL cfg Try.f75.ntmps Try.f75.results.toList (res1075 ((l, ()), n, ())) (resX1075 ((l, ()), n, ())) (resL1075 ((l, ()), n, ())))
theorem make1075 (hb : ∀ (l : List Int) (n : Int) (_ : Unit), pre1075 ((l, ()), n, ()) → Body1075 l n) : Contract Try.prog cfg 75 spec1075 :=
  contractXL_flat (l := []) cfgOk rfl (trivial) lv1075 Try.func75 rfl rfl 2 (fun _ => rfl) (by decide) (fun ⟨⟨l, _⟩, n, _⟩ => hb l n ())

noncomputable def know96 : List (FuncId × Fs U) := [(120, spec120)]
def lv96 : Lives U := fun i => match i with
  | 0 => ([(0, []), (1, []), (2, []), (7, [])], [((.loc 7), []), ((.x 0), [.wr .u64])])
  | 1 => ([(0, []), (1, []), (7, [])], [((.loc 7), []), ((.x 0), [.wr .u64])])
  | 2 => ([(0, []), (1, []), (7, []), (26, [])], [((.loc 7), []), ((.x 0), [.wr .u64])])
  | 3 => ([(0, []), (1, []), (7, [])], [((.loc 7), []), ((.x 0), [.wr .u64])])
  | 4 => ([(0, []), (1, []), (9, []), (10, [])], [((.x 0), [.wr .u64])])
  | 5 => ([(10, [])], [((.x 0), [.wr .u64])])
  | 6 => ([(8, [])], [((.x 0), [.wr .u64])])
  | _ => ([], [])
noncomputable abbrev A96 (p : List Nat) := awp cfg (know know96) (drawOk cfg (know know96)) Try.f96.ntmps lv96 (cd Try.f96 p)
theorem vc96 (l : List Int) (at_ : Int) (to : Int) (p : Ptr) (Q : AExit → LSt U → Prop) (h : ∀ y_1, y_1 = (Ptr.mk (Ptr.kind p) (-1) (Ptr.data p) (Ptr.ptrs p) (Ptr.code p) (Ptr.count p) (Ptr.segment p) (Ptr.double p)) → ∀ y_2, y_2 = (Ptr.mk (Ptr.kind p) ((((to : Int) - at_) : Int) - 1) (Ptr.data p) (Ptr.ptrs p) (Ptr.code p) (Ptr.count p) (Ptr.segment p) (Ptr.double p)) → ((InR ((to : Int) - at_)) ∧ (InR ((((to : Int) - at_) : Int) - 1)) ∧ ((Tr ((((Ptr.kind p) : Int) == 1) = true)) ∧ (Tr ((((Ptr.kind p) : Int) == 1) = true)) ∧ (Tr ((((Ptr.kind p) : Int) == 1) = true)) ∧ (Tr ((((Ptr.kind p) : Int) == 1) = true)) ∧ ((((Ptr.kind p) : Int) == 1) = true → InR (((Ptr.data p) : Int) + (Ptr.ptrs p))) ∧ (Tr ((((Ptr.kind p) : Int) == 1) = true)) ∧ ((Tr ((((Ptr.kind p) : Int) == 1) = true))) ∧ (((bif (((Ptr.kind p) : Int) == 1) then (((((Ptr.data p) : Int) + (Ptr.ptrs p)) : Int) == 0) else false) = true → ((pre120 (y_1, ())) ∧ (((0 : Int) ≤ at_ ∧ at_ < (l.length : Int)) ∧ ((0 : Nat) ≤ (Int.toNat at_)) ∧ ((Q .ret (⟨[(8, .c (.bool (eqP (decP (encW y_1)) y_1 && !decide (Ptr.kind y_1 = 4))))], [((.x 0), [.mref (.x 0 0)])], [(.x 0 0, LC.mk (U := U) .u64 (List.set l (Int.toNat at_) (encW y_1)) 0)]⟩ : LSt U)))))) ∧ ((bif (((Ptr.kind p) : Int) == 1) then (((((Ptr.data p) : Int) + (Ptr.ptrs p)) : Int) == 0) else false) = false → (pre120 (y_2, ())) ∧ (((0 : Int) ≤ at_ ∧ at_ < (l.length : Int)) ∧ ((0 : Nat) ≤ (Int.toNat at_)) ∧ ((Q .ret (⟨[(8, .c (.bool (eqP (decP (encW y_2)) y_2 && !decide (Ptr.kind y_2 = 4))))], [((.x 0), [.mref (.x 0 0)])], [(.x 0 0, LC.mk (U := U) .u64 (List.set l (Int.toNat at_) (encW y_2)) 0)]⟩ : LSt U))))))))) :
    A96 [] (⟨[(0, .ptr (.x 0) 0), (1, .c (.int .i64 at_)), (2, .c (.int .i64 to)), (3, .agg [.int .i64 (Ptr.kind p), .int .i64 (Ptr.off p), .int .i64 (Ptr.data p), .int .i64 (Ptr.ptrs p), .int .i64 (Ptr.code p), .int .i64 (Ptr.count p), .int .i64 (Ptr.segment p), .bool (Ptr.double p)])], [((.x 0), [.mref (.x 0 0)])], [(.x 0 0, LC.mk (U := U) .u64 l 0)]⟩ : LSt U) Q :=
  (Eq.mpr (by kernel_rfl) (h _ rfl _ rfl) :)
abbrev Body96 (l : List Int) (at_ : Int) (to : Int) (p : Ptr)  : Prop := awp cfg (know (know96)) (drawOk cfg (know (know96))) Try.f96.ntmps lv96 (cd Try.f96 []) (entryL (args96.can ((l, ()), at_, to, p, ())) (args96.canX ((l, ()), at_, to, p, ())) (args96.canL ((l, ()), at_, to, p, ()))) (EndsQL cfg Try.f96.ntmps Try.f96.results.toList (res96 ((l, ()), at_, to, p, ())) (resX96 ((l, ()), at_, to, p, ())) (resL96 ((l, ()), at_, to, p, ())))
theorem make96 (c120 : Contract Try.prog cfg 120 spec120) (hb : ∀ (l : List Int) (at_ : Int) (to : Int) (p : Ptr) (_ : Unit), pre96 ((l, ()), at_, to, p, ()) → Body96 l at_ to p) : Contract Try.prog cfg 96 spec96 :=
  contractXL_flat (l := [(120, spec120)]) cfgOk rfl (⟨c120, trivial⟩) lv96 Try.func96 rfl rfl 4 (fun _ => rfl) (by decide) (fun ⟨⟨l, _⟩, at_, to, p, _⟩ => hb l at_ to p ())

end Go.AM.Ythokdjgpdonhgaa

namespace Go.AM.Ythokdjgpdonhgaa
open Go.AM Go.Proofs

theorem fr_snoc : ∀ (a : List Tree) (t : Tree), frW (a ++ [t]) = max (frW a) t.words.length ∧ frK (a ++ [t]) = max (frK a) t.kids.length
  | [], t => by simp [frW, frK]
  | x :: r, t => by
    obtain ⟨h1, h2⟩ := fr_snoc r t
    rw [List.cons_append, frW, frK, h1, h2, frW, frK]
    omega
theorem takeI {ks : List Tree} {i : Int} (h0 : 0 ≤ i) (h : i < ks.length) : ks.take (i + 1).toNat = ks.take i.toNat ++ [ks.getD i.toNat Tree.nil] := by
  rw [show (i + 1).toNat = i.toNat + 1 by omega]
  exact take_snoc (by omega)
theorem fr_take {ks : List Tree} {i : Int} (h0 : 0 ≤ i) (h : i < ks.length) : frW (ks.take (i + 1).toNat) = max (frW (ks.take i.toNat)) (ks.getD i.toNat Tree.nil).words.length ∧ frK (ks.take (i + 1).toNat) = max (frK (ks.take i.toNat)) (ks.getD i.toNat Tree.nil).kids.length := by
  rw [takeI h0 h]
  exact fr_snoc _ _
theorem kids_le (t : Tree) : t.words.length + t.kids.length + 1 ≤ mass t := by
  obtain ⟨k, w, ks⟩ := t
  rw [mass]
  have := fr_mass ks
  show w.length + ks.length + 1 ≤ _
  omega

theorem c119 : Contract Try.prog cfg 119 spec119 := by
  refine make119 ?_
  intro t _ hp
  simp only [pre119] at hp
  have hk := kids_le t
  refine vc119 _ _ ?_
  refine loop_rule (ι := Int × Int × Int) (fun p => head119_0 t p.1 p.2.1 p.2.2) (fun p => 0 ≤ p.2.2 ∧ p.2.2 ≤ t.kids.length ∧ p.1 = frW (t.kids.take p.2.2.toNat) ∧ p.2.1 = frK (t.kids.take p.2.2.toNat)) (fun p => ((t.kids.length : Int) - p.2.2).toNat) (0, 0, 0) rfl ⟨by dsimp only; omega, by dsimp only; omega, rfl, rfl⟩ ?_
  rintro ⟨w, k, i⟩ ⟨h1, h2, h3, h4⟩
  dsimp only at h1 h2 h3 h4
  refine vc119_l0 _ _ _ _ _ _ ?_
  (simp only [vcT, vcS])
  refine ⟨fun hi => ⟨⟨h1, hi⟩, by ((unfold InR; omega)), (if w < ((t.kids.getD i.toNat Tree.nil).words.length : Int) then ((t.kids.getD i.toNat Tree.nil).words.length : Int) else w, if k < ((t.kids.getD i.toNat Tree.nil).kids.length : Int) then ((t.kids.getD i.toNat Tree.nil).kids.length : Int) else k, i + 1), rfl, ⟨by dsimp only; omega, by dsimp only; omega, ?_, ?_⟩, by dsimp only; omega⟩, fun hi => ?_⟩
  · dsimp only
    rw [(fr_take h1 hi).1, h3]
    split <;> omega
  · dsimp only
    rw [(fr_take h1 hi).2, h4]
    split <;> omega
  · have e : i = t.kids.length := by omega
    subst e
    rw [Int.toNat_natCast, List.take_length] at h3 h4
    subst h3 h4
    (repeat' (first | exact trivial | exact rfl | refine And.intro ?_ ?_))

theorem c123 : Contract Try.prog cfg 123 spec123 := by
  refine make123 ?_
  intro n _ _
  refine vc123 _ _ ?_
  (simp only [vcT, vcS])
  refine ends_bool rfl ?_
  by_cases h1 : -536870912 ≤ n <;> by_cases h2 : n < 536870912 <;> simp [h1, h2]

theorem wrap_u32 (n : Int) : IntKind.wrap .u32 n = n % 4294967296 := by
  simp [IntKind.wrap, IntKind.signed, IntKind.bits]

theorem or_sum32 {x y : Int} {a : Nat} (hx : 0 ≤ x) (hx' : x < 2 ^ a) (hy : 0 ≤ y) (hs : x + y * 2 ^ a < 4294967296) :
    IntKind.wrap .u32 (BitVec.ofInt (IntKind.bits .u32) (y * 2 ^ a) ||| BitVec.ofInt (IntKind.bits .u32) x).toNat = x + y * 2 ^ a := by
  have hp := pow2_pos a
  have h1 : 0 ≤ y * 2 ^ a := Int.mul_nonneg hy (Int.le_of_lt hp)
  have e : ∀ z : Int, 0 ≤ z → z < 4294967296 → (BitVec.ofInt (IntKind.bits .u32) z).toNat = z.toNat := by
    intro z z0 z1
    simp [IntKind.bits]
    omega
  rw [BitVec.toNat_or, e x hx (by omega), e _ h1 (by omega), wrap_u32]
  obtain ⟨m, rfl⟩ := Int.eq_ofNat_of_zero_le hx
  obtain ⟨n, rfl⟩ := Int.eq_ofNat_of_zero_le hy
  have hpn : (2 : Int) ^ a = ((2 ^ a : Nat) : Int) := by simp
  rw [hpn] at hx' hs ⊢
  have hm : m < 2 ^ a := by omega
  have hor : n * 2 ^ a ||| m = m + n * 2 ^ a := by
    have h := Nat.two_pow_add_eq_or_of_lt hm n
    rw [Nat.mul_comm n, ← h, Nat.add_comm]
  rw [← Int.natCast_mul, Int.toNat_natCast, Int.toNat_natCast, hor]
  push_cast
  push_cast at hs
  omega

theorem c125 : Contract Try.prog cfg 125 spec125 := by
  refine make125 ?_
  intro o k _ hp
  obtain ⟨hk0, hk⟩ := hp
  dsimp only at hk0 hk
  refine vc125 _ _ _ ⟨by decide, ends_int rfl ?_⟩
  show _ = 4 * (o % 1073741824) + k
  have e1 : IntKind.wrap .u32 (IntKind.wrap .u32 o * 2 ^ (min (Int.toNat 2) (IntKind.bits .u32))) = o % 1073741824 * 2 ^ 2 := by
    rw [wrap_u32, wrap_u32, show (2 : Int) ^ (min (Int.toNat 2) (IntKind.bits .u32)) = 4 from rfl, show (2 : Int) ^ 2 = 4 from rfl]
    omega
  have e2 : IntKind.wrap .u32 k = k := by rw [wrap_u32]; omega
  rw [e1, e2, or_sum32 hk0 (by rw [show (2 : Int) ^ 2 = 4 from rfl]; omega) (by omega) (by rw [show (2 : Int) ^ 2 = 4 from rfl]; omega), show (2 : Int) ^ 2 = 4 from rfl, wrap_u64 (by omega) (by omega)]
  omega

end Go.AM.Ythokdjgpdonhgaa

namespace Go.AM.Ythokdjgpdonhgaa
open Go.AM Go.Proofs

theorem shl64 {d k : Int} (n : Nat) (hk : min (Int.toNat k) (IntKind.bits .u64) = n) (h0 : 0 ≤ d) (h1 : d < 18446744073709551616) (h2 : d * 2 ^ n < 18446744073709551616) : IntKind.wrap .u64 (IntKind.wrap .u64 d * 2 ^ (min (Int.toNat k) (IntKind.bits .u64))) = d * 2 ^ n := by
  rw [hk, wrap_u64 h0 h1]
  exact wrap_u64 (Int.mul_nonneg h0 (Int.le_of_lt (pow2_pos n))) h2

theorem encW_rng (p : Ptr) : 0 ≤ encW p ∧ encW p < 18446744073709551616 := by
  unfold encW
  have h0 := Int.emod_nonneg p.off (show (1073741824 : Int) ≠ 0 by decide)
  have h1 := Int.emod_lt_of_pos p.off (show (0 : Int) < 1073741824 by decide)
  repeat' split
  all_goals omega

theorem c120 : Contract Try.prog cfg 120 spec120 := by
  refine make120 c123 c124 c125 c86 ?_
  intro p _ hp
  simp only [pre120] at hp
  have hr := encW_rng p
  have o0 := Int.emod_nonneg p.off (show (1073741824 : Int) ≠ 0 by decide)
  have o1 := Int.emod_lt_of_pos p.off (show (0 : Int) < 1073741824 by decide)
  have fin : ∀ {x : Int} {v1 v2 v3 v4 v5 : V U}, x = encW p → A120 [1, 1, 1] (head120_0 p x v1 v2 v3 v4 v5) (EndsQ cfg Try.f120.ntmps Try.f120.results.toList (res120 (p, ())) []) := by
    intro x v1 v2 v3 v4 v5 hx
    refine vc120_c0 _ _ _ _ _ _ _ _ ?_
    refine ⟨by subst hx; exact hr, fun h => h, fun h => h, fun h => h, ?_⟩
    refine ends_eq (r' := .tup [(false, [.int .u64 x]), (false, [.bool (bif eqP (decP x) p then (p.kind != 4) else false)])]) ?_ (by (repeat' (first | exact trivial | exact rfl | refine And.intro ?_ ?_)))
    simp only [res120]
    subst hx
    cases eqP (decP (encW p)) p <;> rfl
  have e32 : min (Int.toNat 32) (IntKind.bits .u64) = 32 := rfl
  have e48 : min (Int.toNat 48) (IntKind.bits .u64) = 48 := rfl
  have e35 : min (Int.toNat 35) (IntKind.bits .u64) = 35 := rfl
  have q32 : (2 : Int) ^ 32 = 4294967296 := rfl
  have q48 : (2 : Int) ^ 48 = 281474976710656 := rfl
  have q35 : (2 : Int) ^ 35 = 34359738368 := rfl
  refine vc120 _ _ ?_
  (simp only [vcT, vcS])
  refine ⟨fun k1 => ⟨trivial, fun _ => trivial, fun _ => trivial, fun c => ⟨⟨by dsimp only; omega, by dsimp only; omega⟩, by decide, by decide, fin ?_⟩, fun c => fin ?_⟩, fun k1 => ⟨fun k2 => ⟨trivial, fun _ => trivial, fun _ => trivial, fun c => ⟨⟨by dsimp only; omega, by dsimp only; omega⟩, by decide, by decide, fin ?_⟩, fun c => fin ?_⟩, fun k2 => by rcases hp with h | h; exact absurd h k1; exact absurd h k2⟩⟩
  · obtain ⟨⟨c1, c2⟩, c3⟩ := c
    rw [shl64 32 e32 (by omega) (by omega) (by omega), shl64 48 e48 (by omega) (by omega) (by omega), or_sum (x := 4 * (p.off % 1073741824) + 0) (y := p.data) (a := 32) (by omega) (by omega) (by omega) (by omega), or_sum (y := p.ptrs) (a := 48) (by omega) (by omega) (by omega) (by omega)]
    unfold encW
    rw [if_pos k1, if_pos ⟨c1, c2, c3⟩]
    omega
  · unfold encW
    rw [if_pos k1, if_neg (by omega)]
  · obtain ⟨⟨c1, c2⟩, c3⟩ := c
    rw [shl64 32 e32 (by omega) (by omega) (by omega), shl64 35 e35 (by omega) (by omega) (by omega), or_sum (x := 4 * (p.off % 1073741824) + 1) (y := p.code) (a := 32) (by omega) (by omega) (by omega) (by omega), or_sum (y := p.count) (a := 35) (by omega) (by omega) (by omega) (by omega)]
    unfold encW
    rw [if_neg k1, if_pos k2, if_pos ⟨c1, c2, c3⟩]
    omega
  · unfold encW
    rw [if_neg k1, if_pos k2, if_neg (by omega)]

theorem c75 : Contract Try.prog cfg 75 spec75 := by
  refine make75 ?_
  intro l n _ hp
  obtain ⟨h1, h2, h3⟩ := hp
  dsimp only at h1 h2 h3
  refine vc75 _ _ _ ⟨⟨h2, by dsimp only; omega⟩, ?_⟩
  (repeat' (first | exact trivial | exact rfl | refine And.intro ?_ ?_))

theorem c1075 : Contract Try.prog cfg 75 spec1075 := by
  refine make1075 ?_
  intro l n _ hp
  obtain ⟨h1, h2, h3⟩ := hp
  dsimp only at h1 h2 h3
  subst h1
  refine vc1075 _ _ _ ⟨⟨h2, by simp; omega⟩, ?_⟩
  (repeat' (first | exact trivial | exact rfl | refine And.intro ?_ ?_))

theorem c96 : Contract Try.prog cfg 96 spec96 := by
  refine make96 c120 ?_
  intro l a to p _ hp
  obtain ⟨⟨h1, h2, h3, h4⟩, hk⟩ := hp
  dsimp only at h1 h2 h3 h4 hk
  have he := pnt_enc hk h1 h3 (by omega) (by omega)
  have kk : p.kind = 1 ∨ p.kind = 2 := by rcases hk.1 with h | h; exact .inl h.1; exact .inr h.1
  have hb : ∀ y, y = pntP a to p → (eqP (decP (encW y)) y && !decide (y.kind = 4)) = true ∧ encW y = pntW a to p := by
    rintro y rfl
    rw [he.2, eqP_self, he.1]
    refine ⟨?_, rfl⟩
    have : (pntP a to p).kind = p.kind := rfl
    rw [this]
    simp only [Bool.true_and, Bool.not_eq_true', decide_eq_false_iff_not]
    omega
  refine vc96 _ _ _ _ _ ?_
  intro y1 e1 y2 e2
  (simp only [vcT, vcS])
  refine ⟨by ((unfold InR; omega)), by ((unfold InR; omega)), fun h => ?_, fun h => ⟨?_, ⟨h1, h2⟩, Nat.zero_le _, ?_⟩, fun h => ⟨?_, ⟨h1, h2⟩, Nat.zero_le _, ?_⟩⟩
  · rcases hk.1 with g | g <;> ((unfold InR; omega))
  · subst e1; exact kk
  · obtain ⟨g1, g2⟩ := hb y1 (by rw [e1]; unfold pntP; rw [if_pos h])
    rw [g1, g2]
    (repeat' (first | exact trivial | exact rfl | refine And.intro ?_ ?_))
  · subst e2; exact kk
  · obtain ⟨g1, g2⟩ := hb y2 (by rw [e2]; unfold pntP; rw [if_neg (by omega)])
    rw [g1, g2]
    (repeat' (first | exact trivial | exact rfl | refine And.intro ?_ ?_))

theorem sizeK_app : ∀ a b : List Tree, sizeK (a ++ b) = sizeK a + sizeK b
  | [], b => by simp [sizeK]
  | t :: r, b => by rw [List.cons_append, sizeK, sizeK, sizeK_app r b]; omega
theorem sizeR_app : ∀ a b : List Tree, sizeR (a ++ b) = sizeR a + sizeR b
  | [], b => by simp [sizeR]
  | .mk _ _ ks :: r, b => by rw [List.cons_append, sizeR, sizeR, sizeR_app r b]; omega
theorem sizeK_take {ks : List Tree} {i : Int} (h0 : 0 ≤ i) (h : i < ks.length) : sizeK (ks.take (i + 1).toNat) = sizeK (ks.take i.toNat) + sizeN (ks.getD i.toNat Tree.nil) := by
  rw [takeI h0 h, sizeK_app, sizeK, sizeK]; rfl
theorem sizeR_take {ks : List Tree} {i : Int} (h0 : 0 ≤ i) (h : i < ks.length) : sizeR (ks.take (i + 1).toNat) = sizeR (ks.take i.toNat) + sizeK (ks.getD i.toNat Tree.nil).kids := by
  rw [takeI h0 h, sizeR_app]
  cases ks.getD i.toNat Tree.nil
  rw [sizeR, sizeR]; rfl
theorem sizeK_take_le (ks : List Tree) (n : Nat) : sizeK (ks.take n) ≤ sizeK ks := by
  conv => rhs; rw [← List.take_append_drop n ks, sizeK_app]
  omega
theorem sizeR_take_le (ks : List Tree) (n : Nat) : sizeR (ks.take n) ≤ sizeR ks := by
  conv => rhs; rw [← List.take_append_drop n ks, sizeR_app]
  omega
theorem kid_mass {t : Tree} {i : Nat} (h : i < t.kids.length) : mass (t.kids.getD i Tree.nil) + 1 ≤ mass t := by
  obtain ⟨k, w, ks⟩ := t
  have := mem_getD (l := ks) h Tree.nil
  have hm : ∀ {l : List Tree} {x : Tree}, x ∈ l → mass x ≤ massK l := by
    intro l
    induction l with
    | nil => intro x hx; cases hx
    | cons y l ih =>
      intro x hx
      rw [massK]
      rcases List.mem_cons.1 hx with rfl | hx
      · omega
      · have := ih hx; omega
  have := hm this
  rw [mass]
  show mass (ks.getD i Tree.nil) + 1 ≤ _
  omega
theorem size_le {t : Tree} (h : mass t ≤ 1000000) : sizeN t ≤ 1000000000000 := Nat.le_trans (size_mass t) (Nat.le_trans (Nat.mul_le_mul h h) (by decide))

theorem c95 : Contract Try.prog cfg 95 spec95 := by
  refine make95 c119 c118 c107 ?_
  intro N t _ hp hN
  obtain ⟨hp, d, hr⟩ := hp
  dsimp only at hp hr
  have hN : mass t < N + 1 := hN
  have hk := kids_le t
  have hs := size_le hp
  have rt : RiT t.kind t.words t.kids d := riT (by rw [Tree.eta]; exact hr)
  have esz : sizeN t = if t.kind = 1 then t.words.length + t.kids.length + sizeK t.kids else if t.kind = 8 then t.kids.length + sizeK t.kids else if t.kind = 9 then 1 + t.kids.length * (frW t.kids + frK t.kids) + sizeR t.kids
      else if 2 ≤ t.kind ∧ t.kind ≤ 7 then (roomW (t.kind - 2) t.kids.length).toNat else sizeK t.kids := by
    obtain ⟨k, w, ks⟩ := t
    rw [sizeN]; rfl
  have low : ∀ {x : Int} {K : AExit → LSt U → Prop}, x + sizeK t.kids = sizeN t → 0 ≤ x → (∀ s : LSt U, K .ret s = EndsQ cfg Try.f95.ntmps Try.f95.results.toList (res95 (t, ())) [] .ret s) → True := fun _ _ _ => trivial
  have loopL : ∀ {x : Int}, x + sizeK t.kids = sizeN t → 0 ≤ x → LoopWp (A95 N [1, 1, 1, 0, 1, 0, 0]) (head95_0 t x 0) (AExit.inBlock 3 (S95 N [1, 1, 1, 1] (EndsQ cfg Try.f95.ntmps Try.f95.results.toList (res95 (t, ())) []))) := by
    intro x hx h0
    refine loop_rule (ι := Int × Int) (fun p => head95_0 t p.1 p.2) (fun p => 0 ≤ p.2 ∧ p.2 ≤ t.kids.length ∧ p.1 = x + sizeK (t.kids.take p.2.toNat)) (fun p => ((t.kids.length : Int) - p.2).toNat) (x, 0) rfl ⟨by dsimp only; omega, by dsimp only; omega, by simp [sizeK]⟩ ?_
    rintro ⟨s, i⟩ ⟨g1, g2, g3⟩
    dsimp only at g1 g2 g3
    refine vc95_l0 _ _ _ _ _ _ ?_
    (simp only [vcT, vcS])
    simp only [Tree.eta]
    refine ⟨fun hi => ?_, fun hi => ?_⟩
    · have hm := kid_mass (t := t) (i := i.toNat) (by omega)
      have ht := sizeK_take g1 hi
      have hl := sizeK_take_le t.kids (i + 1).toNat
      have q1 : mass (t.kids.getD i.toNat Tree.nil) ≤ 1000000 := by omega
      have q2 : mass (t.kids.getD i.toNat Tree.nil) < N := by omega
      exact ⟨⟨g1, hi⟩, ⟨q1, _, (rt.kids _ (mem_getD (by omega) _)).1⟩, q2, by ((unfold InR; omega)), by ((unfold InR; omega)), (s + sizeN (t.kids.getD i.toNat Tree.nil), i + 1), rfl, ⟨by dsimp only; omega, by dsimp only; omega, by dsimp only; omega⟩, by dsimp only; omega⟩
    · have e : i = t.kids.length := by omega
      subst e
      rw [Int.toNat_natCast, List.take_length] at g3
      exact ends_int rfl (by show s = (sizeN t : Int); omega)
  refine vc95 _ _ _ ?_
  rintro y1 rfl
  (simp only [vcT, vcS])
  refine ⟨fun h => ⟨by ((unfold InR; omega)), loopL (by rw [esz, if_pos h]; omega) (by omega)⟩, fun h1 => ⟨fun h => loopL (by rw [esz, if_neg h1, if_pos h]; omega) (by omega), fun h8 => ⟨trivial, fun h => ?_, fun h27 => ⟨fun h9 => ?_, fun h9 => loopL (by rw [esz, if_neg h1, if_neg h8, if_neg h9, if_neg h27]; omega) (Int.le_refl _)⟩⟩⟩⟩
  · refine ⟨by ((unfold InR; omega)), trivial, ends_int rfl ?_⟩
    show roomW _ _ = (sizeN y1 : Int)
    have hr : 0 ≤ roomW (y1.kind - 2) y1.kids.length := by
      unfold roomW
      split
      · omega
      · rcases wd_div (y1.kind - 2) with e | e | e | e | e | e
        · omega
        all_goals (rw [e]; omega)
    rw [esz, if_neg (by omega), if_neg (by omega), if_neg (by omega), if_pos h]
    omega
  · rw [if_neg (by omega), if_neg (by omega), if_pos h9] at esz
    have hf := fr_mass y1.kids
    have hmk : massK y1.kids ≤ mass y1 := by obtain ⟨k, w, ks⟩ := y1; rw [mass]; show massK ks ≤ _; omega
    obtain ⟨P, hP⟩ : ∃ P, P = y1.kids.length * (frW y1.kids + frK y1.kids) := ⟨_, rfl⟩
    have hPI : (y1.kids.length : Int) * ((frW y1.kids : Int) + frK y1.kids) = P := by rw [hP, Int.natCast_mul, Int.natCast_add]
    rw [← hP] at esz
    rw [hPI]
    refine ⟨hp, by ((unfold InR; omega)), by ((unfold InR; omega)), by ((unfold InR; omega)), ?_⟩
    refine loop_rule (ι := Int × Int) (fun p => head95_1 y1 p.1 p.2) (fun p => 0 ≤ p.2 ∧ p.2 ≤ y1.kids.length ∧ p.1 = 1 + (P : Int) + sizeR (y1.kids.take p.2.toNat)) (fun p => ((y1.kids.length : Int) - p.2).toNat) (1 + (P : Int), 0) rfl ⟨by dsimp only; omega, by dsimp only; omega, ?_⟩ ?_
    · simp [sizeR]
    rintro ⟨s, i⟩ ⟨g1, g2, g3⟩
    dsimp only at g1 g2 g3
    refine vc95_l1 _ _ _ _ _ _ ?_
    rintro y2 rfl y3 rfl
    (simp only [vcT, vcS])
    refine ⟨fun hi => ?_, fun hi => ?_⟩
    · have hm := kid_mass (t := y1) (i := i.toNat) (by omega)
      have ht := sizeR_take g1 hi
      have hl := sizeR_take_le y1.kids (i + 1).toNat
      have hmem := mem_getD (l := y1.kids) (i := i.toNat) (by omega) Tree.nil
      have hk1 := (rt.kids _ hmem).2.2.2 h9
      have hkr := (rt.kids _ hmem).1
      generalize y1.kids.getD i.toNat Tree.nil = y at *
      have ey : sizeN y = y.words.length + y.kids.length + sizeK y.kids := by
        obtain ⟨k, w, ks⟩ := y
        have hk1 : k = 1 := hk1
        rw [sizeN, if_pos hk1]; rfl
      have q1 : mass y ≤ 1000000 := by omega
      have qs := size_le q1
      have hs' : sizeN y1 ≤ 1000000000000 := hs
      have q2 : mass y < N := by omega
      exact ⟨⟨g1, hi⟩, ⟨q1, _, hkr⟩, q2, by ((unfold InR; omega)), by ((unfold InR; omega)), by ((unfold InR; omega)), by ((unfold InR; omega)), (s + ((sizeN y : Int) - y.words.length - y.kids.length), i + 1), rfl, ⟨by dsimp only; omega, by dsimp only; omega, by dsimp only; omega⟩, by dsimp only; omega⟩
    · have e : i = y1.kids.length := by omega
      subst e
      rw [Int.toNat_natCast, List.take_length] at g3
      exact ends_int rfl (by show s = (sizeN y1 : Int); omega)

theorem c73 : Contract Try.prog cfg 73 spec73 := by
  refine make73 c72 c95 ?_
  intro t _ hp
  obtain ⟨hp, d, hr⟩ := hp
  dsimp only at hp hr
  have hm := normT_mass t
  refine vc73 _ _ ?_
  simp only [Tree.eta]
  exact ⟨by show mass t ≤ _; omega, ⟨by dsimp only; omega, d, rightT_norm t d hr⟩, ends_int rfl rfl⟩

end Go.AM.Ythokdjgpdonhgaa

namespace Go.AM.Ythokdjgpdonhgaa
open Go.AM Go.Proofs

theorem fs_conv {f : FuncId} {α : Type} {A : ArgL α} {pre pre' : α → Prop} {res res' : α → V U} (h : Contract Try.prog cfg f (fs A (fun a => [pre a]) res)) (hh : ∀ a, pre' a → pre a ∧ res a = res' a) : Contract Try.prog cfg f (fs A (fun a => [pre' a]) res') := by
  refine contract_mk h.1 rfl ?_
  intro args X ps r X' hs hps
  unfold fs at hs
  simp only at hs
  split at hs
  · split at hs
    · rename_i a ha
      cases hs
      obtain ⟨h1, h2⟩ := hh a hps.1
      rw [← h2]
      exact h.one rfl args [] [pre a] _ [] (by unfold fs; simp only [ha]) ⟨h1, trivial⟩
    · cases hs
  · cases hs

def pre1101 (a : Int × List Int × Unit) : Prop := (okW a.2.1 ∧ a.2.1.length ≤ 1099511627776) ∧ fitsA a.1 a.2.1 = true
noncomputable def res1101 (a : Int × List Int × Unit) : V U := .tup [(false, [.slice (U := U) .u64 (putW a.1 a.2.1) .unk]), (false, [.bool true])]
noncomputable def spec1101 : Fs U := fs args101 (fun a => [pre1101 a]) res1101
theorem c1101 : Contract Try.prog cfg 101 spec1101 := fs_conv c101 fun a h => ⟨h.1, by
  unfold res101 res1101
  rw [h.2]
  unfold putR
  rw [if_pos h.2]⟩

end Go.AM.Ythokdjgpdonhgaa

namespace Go.AM.Ythokdjgpdonhgaa
open Go.AM Go.Proofs

def args74 : ArgM ((List Int × Unit) × Int × Tree × Unit) := (.obj 0 (.cons (cWr .u64 0 0) .nil) (.cons (aInt .i64) (.cons (aEl .tree) .nil)))
def pre74 (a : (List Int × Unit) × Int × Tree × Unit) : Prop := (0 ≤ a.2.1 ∧ a.2.1 < a.1.1.length ∧ a.1.1.length + sizeN a.2.2.1 ≤ 1000000) ∧ (mass a.2.2.1 ≤ 1000000 ∧ rng a.2.2.1) ∧ Tree.kind a.2.2.1 ≠ 10 ∧ ∃ d, rightT a.2.2.1 d = true
def mu74 (a : (List Int × Unit) × Int × Tree × Unit) : Nat := 4 * mass a.2.2.1 + 3
noncomputable def res74 (a : (List Int × Unit) × Int × Tree × Unit) : V U := .c (.bool true)
noncomputable def resX74 (a : (List Int × Unit) × Int × Tree × Unit) : List (List (C U)) := [[.mref (.x 0 0)]]
noncomputable def resL74 (a : (List Int × Unit) × Int × Tree × Unit) : List (Tok × LC U) := [(.x 0 0, LC.mk (U := U) .u64 (layP a.1.1 a.2.1 a.2.2.1) 0)]
noncomputable def spec74 : Fs U := fsXL args74 (fun a => [pre74 a]) res74 resX74 resL74

def args99 : ArgM ((List Int × Unit) × Int × Tree × Unit) := (.obj 0 (.cons (cWr .u64 0 0) .nil) (.cons (aInt .i64) (.cons (aEl .tree) .nil)))
def pre99 (a : (List Int × Unit) × Int × Tree × Unit) : Prop := (0 ≤ a.2.1 ∧ a.1.1.length + sizeK (Tree.kids a.2.2.1) ≤ 1000000 ∧ zsAt a.1.1 (Int.toNat a.2.1) (Tree.kids a.2.2.1).length) ∧ (mass a.2.2.1 ≤ 1000000 ∧ rng a.2.2.1) ∧ ∀ k ∈ Tree.kids a.2.2.1, Tree.kind k ≠ 10 ∧ ∃ d, rightT k d = true
def mu99 (a : (List Int × Unit) × Int × Tree × Unit) : Nat := 4 * mass a.2.2.1 + 1
noncomputable def res99 (a : (List Int × Unit) × Int × Tree × Unit) : V U := .c (.bool true)
noncomputable def resX99 (a : (List Int × Unit) × Int × Tree × Unit) : List (List (C U)) := [[.mref (.x 0 0)]]
noncomputable def resL99 (a : (List Int × Unit) × Int × Tree × Unit) : List (Tok × LC U) := [(.x 0 0, LC.mk (U := U) .u64 (kidsR a.1.1 a.2.1 a.2.2.1) 0)]
noncomputable def spec99 : Fs U := fsXL args99 (fun a => [pre99 a]) res99 resX99 resL99

def args97 : ArgM ((List Int × Unit) × Int × Int × Tree × Unit) := (.obj 0 (.cons (cWr .u64 0 0) .nil) (.cons (aInt .i64) (.cons (aInt .i64) (.cons (aEl .tree) .nil))))
def pre97 (a : (List Int × Unit) × Int × Int × Tree × Unit) : Prop := ((0 ≤ a.2.1 ∧ (Tree.words a.2.2.2.1).length ≤ a.2.2.1) ∧ a.1.1.length + sizeK (Tree.kids a.2.2.2.1) ≤ 1000000 ∧ zsAt a.1.1 (Int.toNat a.2.1) (Int.toNat a.2.2.1 + (Tree.kids a.2.2.2.1).length)) ∧ (mass a.2.2.2.1 ≤ 1000000 ∧ rng a.2.2.2.1) ∧ ∀ k ∈ Tree.kids a.2.2.2.1, Tree.kind k ≠ 10 ∧ ∃ d, rightT k d = true
def mu97 (a : (List Int × Unit) × Int × Int × Tree × Unit) : Nat := 4 * mass a.2.2.2.1 + 2
noncomputable def res97 (a : (List Int × Unit) × Int × Int × Tree × Unit) : V U := .c (.bool true)
noncomputable def resX97 (a : (List Int × Unit) × Int × Int × Tree × Unit) : List (List (C U)) := [[.mref (.x 0 0)]]
noncomputable def resL97 (a : (List Int × Unit) × Int × Int × Tree × Unit) : List (Tok × LC U) := [(.x 0 0, LC.mk (U := U) .u64 (strR a.1.1 a.2.1 a.2.2.1 a.2.2.2.1) 0)]
noncomputable def spec97 : Fs U := fsXL args97 (fun a => [pre97 a]) res97 resX97 resL97

def args98 : ArgM ((List Int × Unit) × Int × Tree × Unit) := (.obj 0 (.cons (cWr .u64 0 0) .nil) (.cons (aInt .i64) (.cons (aEl .tree) .nil)))
def pre98 (a : (List Int × Unit) × Int × Tree × Unit) : Prop := (0 ≤ a.2.1 ∧ a.2.1 < a.1.1.length ∧ a.1.1.length + sizeN a.2.2.1 ≤ 1000000) ∧ (mass a.2.2.1 ≤ 1000000 ∧ rng a.2.2.1) ∧ Tree.kind a.2.2.1 ≠ 10 ∧ ∃ d, rightT a.2.2.1 d = true ∧ Tree.kind a.2.2.1 = 9
def mu98 (a : (List Int × Unit) × Int × Tree × Unit) : Nat := 4 * mass a.2.2.1 + 2
noncomputable def res98 (a : (List Int × Unit) × Int × Tree × Unit) : V U := .c (.bool true)
noncomputable def resX98 (a : (List Int × Unit) × Int × Tree × Unit) : List (List (C U)) := [[.mref (.x 0 0)]]
noncomputable def resL98 (a : (List Int × Unit) × Int × Tree × Unit) : List (Tok × LC U) := [(.x 0 0, LC.mk (U := U) .u64 (layP a.1.1 a.2.1 a.2.2.1) 0)]
noncomputable def spec98 : Fs U := fsXL args98 (fun a => [pre98 a]) res98 resX98 resL98

noncomputable def know74 (N : Nat) : List (FuncId × Fs U) := (74, fsXL args74 (fun a => [pre74 a, mu74 a < N]) res74 resX74 resL74) :: (99, fsXL args99 (fun a => [pre99 a, mu99 a < N]) res99 resX99 resL99) :: (97, fsXL args97 (fun a => [pre97 a, mu97 a < N]) res97 resX97 resL97) :: (98, fsXL args98 (fun a => [pre98 a, mu98 a < N]) res98 resX98 resL98) :: [(75, spec75), (96, spec96), (100, spec100), (101, spec1101), (119, spec119), (120, spec120)]
def lv74 : Lives U := fun i => match i with
  | 0 => ([(0, []), (1, []), (5, [])], [((.loc 5), []), ((.x 0), [.wr .u64])])
  | 1 => ([(0, []), (1, []), (5, []), (16, [])], [((.loc 5), []), ((.x 0), [.wr .u64])])
  | 2 => ([(6, [])], [((.x 0), [.wr .u64])])
  | 3 => ([(0, []), (1, []), (5, []), (20, [])], [((.loc 5), []), ((.x 0), [.wr .u64])])
  | 4 => ([(0, []), (1, []), (5, []), (7, [])], [((.loc 5), []), ((.x 0), [.wr .u64])])
  | 5 => ([(6, [])], [((.x 0), [.wr .u64])])
  | 6 => ([(0, []), (1, []), (5, []), (53, [])], [((.loc 5), []), ((.x 0), [.wr .u64])])
  | 7 => ([(6, [])], [((.x 0), [.wr .u64])])
  | 8 => ([(0, []), (1, []), (5, []), (61, [])], [((.loc 5), []), ((.x 0), [.wr .u64])])
  | 9 => ([(0, []), (1, []), (5, []), (8, [])], [((.loc 5), []), ((.x 0), [.wr .u64])])
  | 10 => ([(6, [])], [((.x 0), [.wr .u64])])
  | 11 => ([(0, []), (1, []), (5, []), (9, [])], [((.loc 5), []), ((.x 0), [.wr .u64])])
  | 12 => ([(0, []), (1, []), (5, []), (9, []), (10, [])], [((.loc 5), []), ((.x 0), [.wr .u64])])
  | 13 => ([(0, []), (1, []), (5, []), (9, []), (10, [.own .u64]), (88, []), (89, []), (90, [])], [((.loc 5), []), ((.x 0), [.wr .u64])])
  | 14 => ([(0, []), (1, []), (5, []), (9, []), (10, []), (88, []), (89, []), (90, []), (91, [])], [((.loc 5), []), ((.x 0), [.wr .u64])])
  | 15 => ([(0, []), (1, []), (5, []), (9, []), (10, []), (12, []), (88, []), (89, []), (90, [])], [((.loc 5), []), ((.loc 12), []), ((.x 0), [.wr .u64])])
  | 16 => ([(0, []), (1, []), (5, []), (9, []), (10, []), (88, []), (89, []), (90, [])], [((.loc 5), []), ((.x 0), [.wr .u64])])
  | 17 => ([(0, []), (1, []), (5, []), (9, []), (10, [.own .u64]), (88, []), (89, []), (90, [])], [((.loc 5), []), ((.x 0), [.wr .u64])])
  | 18 => ([(0, []), (1, []), (5, []), (9, []), (13, []), (14, [])], [((.loc 5), []), ((.x 0), [.wr .u64])])
  | 19 => ([(0, []), (1, []), (5, []), (9, []), (13, []), (14, []), (15, [])], [((.loc 5), []), ((.x 0), [.wr .u64])])
  | 20 => ([(0, []), (1, []), (5, []), (9, []), (14, []), (15, [])], [((.loc 5), []), ((.x 0), [.wr .u64])])
  | 21 => ([(6, [])], [((.x 0), [.wr .u64])])
  | _ => ([], [])
noncomputable def head74_0 (l : List Int) (at_ : Int) (t : Tree) (x90 : Int) (x10 : List Int) : LSt U := (⟨[(0, .ptr (.x 0) 0), (1, .c (.int .i64 at_)), (5, .ptr (.loc 5) 0), (9, .c (.int .i64 (((Tree.kind t) : Int) - 2))), (10, .c (.slice (U := U) .u64 x10 (.own (.e 10 0)))), (88, .c (.slice (U := U) .tree (Tree.kids t) .unk)), (89, .c (.int .i64 ((Tree.kids t).length : Int))), (90, .c (.int .i64 x90))], [((.loc 5), [.int .i64 (Tree.kind t), .slice (U := U) .u64 (Tree.words t) .unk, .slice (U := U) .tree (Tree.kids t) .unk]), ((.x 0), [.mref (.x 0 0)])], [(.x 0 0, LC.mk (U := U) .u64 l 0)]⟩ : LSt U)
noncomputable abbrev A74 (N : Nat) (p : List Nat) := awp cfg (know (know74 N)) (drawOk cfg (know (know74 N))) Try.f74.ntmps lv74 (cd Try.f74 p)
noncomputable abbrev S74 (N : Nat) (p : List Nat) := seqK cfg (know (know74 N)) (drawOk cfg (know (know74 N))) Try.f74.ntmps lv74 (cd Try.f74 p)
theorem vc74 (N : Nat) (l : List Int) (at_ : Int) (t : Tree) (Q : AExit → LSt U → Prop) (h : ∀ y_1, y_1 = (t) → ∀ y_2, y_2 = (Int.toNat ((((Tree.words t).length : Int) : Int) + ((Tree.kids t).length : Int))) → ∀ y_3, y_3 = (Ptr.mk 1 0 ((Tree.words t).length : Int) ((Tree.kids t).length : Int) 0 0 0 false) → ∀ y_4, y_4 = (pntW at_ (l.length : Int) (Ptr.mk 2 0 0 0 6 ((Tree.kids t).length : Int) 0 false)) → ((((((Tree.kind t) : Int) == 0) = true → (Q .ret (⟨[(6, .c (.bool true))], [((.x 0), [.mref (.x 0 0)])], [(.x 0 0, LC.mk (U := U) .u64 l 0)]⟩ : LSt U))) ∧ ((((Tree.kind t) : Int) == 0) = false → (((((Tree.kind t) : Int) == 1) = true → (InR ((((Tree.words t).length : Int) : Int) + ((Tree.kids t).length : Int))) ∧ (pre75 ((l, ()), ((((Tree.words t).length : Int) : Int) + ((Tree.kids t).length : Int)), ())) ∧ ((pre96 (((l ++ zs y_2), ()), at_, (l.length : Int), y_3, ())) ∧ (Tr ((true) = true)) ∧ (Tr ((true) = true)) ∧ (Tr ((true) = true)) ∧ (Tr ((true) = true)) ∧ (Tr ((true) = true)) ∧ (Tr ((true) = true)) ∧ (pre97 ((((l ++ zs y_2).set (Int.toNat at_) (pntW at_ (l.length : Int) y_3)), ()), (l.length : Int), ((Tree.words t).length : Int), y_1, ())) ∧ (mu97 ((((l ++ zs y_2).set (Int.toNat at_) (pntW at_ (l.length : Int) y_3)), ()), (l.length : Int), ((Tree.words t).length : Int), y_1, ()) < N) ∧ (Q .ret (⟨[(6, .c (.bool (bif true then true else false)))], [((.x 0), [.mref (.x 0 0)])], [(.x 0 0, LC.mk (U := U) .u64 (strR ((l ++ zs y_2).set (Int.toNat at_) (pntW at_ (l.length : Int) y_3)) (l.length : Int) ((Tree.words t).length : Int) y_1) 0)]⟩ : LSt U)))) ∧ ((((Tree.kind t) : Int) == 1) = false → (((((Tree.kind t) : Int) == 9) = true → (pre98 ((l, ()), at_, y_1, ())) ∧ (mu98 ((l, ()), at_, y_1, ()) < N) ∧ (Q .ret (⟨[(6, .c (.bool true))], [((.x 0), [.mref (.x 0 0)])], [(.x 0 0, LC.mk (U := U) .u64 (layP l at_ y_1) 0)]⟩ : LSt U))) ∧ ((((Tree.kind t) : Int) == 9) = false → (((((Tree.kind t) : Int) == 8) = true → (pre75 ((l, ()), ((Tree.kids t).length : Int), ())) ∧ ((pre96 (((l ++ zs (Int.toNat ((Tree.kids t).length : Int))), ()), at_, (l.length : Int), (Ptr.mk 2 0 0 0 6 ((Tree.kids t).length : Int) 0 false), ())) ∧ (Tr ((true) = true)) ∧ (Tr ((true) = true)) ∧ (Tr ((true) = true)) ∧ (pre99 ((((l ++ zs (Int.toNat ((Tree.kids t).length : Int))).set (Int.toNat at_) y_4), ()), (l.length : Int), y_1, ())) ∧ (mu99 ((((l ++ zs (Int.toNat ((Tree.kids t).length : Int))).set (Int.toNat at_) y_4), ()), (l.length : Int), y_1, ()) < N) ∧ (Q .ret (⟨[(6, .c (.bool (bif true then true else false)))], [((.x 0), [.mref (.x 0 0)])], [(.x 0 0, LC.mk (U := U) .u64 (kidsR ((l ++ zs (Int.toNat ((Tree.kids t).length : Int))).set (Int.toNat at_) y_4) (l.length : Int) y_1) 0)]⟩ : LSt U)))) ∧ ((((Tree.kind t) : Int) == 8) = false → (InR (((Tree.kind t) : Int) - 2)) ∧ (((LoopWp (A74 N [1, 1, 1, 1, 0, 1, 0, 0]) (head74_0 l at_ t 0 ([])) (AExit.inBlock 1 (S74 N [1, 1, 1, 1, 1] Q))))))))))))))) :
    A74 N [] (⟨[(0, .ptr (.x 0) 0), (1, .c (.int .i64 at_)), (2, .agg [.int .i64 (Tree.kind t), .slice (U := U) .u64 (Tree.words t) .unk, .slice (U := U) .tree (Tree.kids t) .unk])], [((.x 0), [.mref (.x 0 0)])], [(.x 0 0, LC.mk (U := U) .u64 l 0)]⟩ : LSt U) Q :=
  (Eq.mpr (by kernel_rfl) (h _ (reTree_eq _) _ rfl _ rfl _ rfl) :)
theorem vc74_l0 (N : Nat) (l : List Int) (at_ : Int) (t : Tree) (x90 : Int) (x10 : List Int) (N0 : LSt U → Prop) (Q : AExit → LSt U → Prop) (h : ∀ y_1, y_1 = (List.getD (Tree.kids t) (Int.toNat x90) Tree.nil) → ∀ y_2, y_2 = (Int.toNat ((putW (((Tree.kind t) : Int) - 2) x10).length : Int)) → ∀ y_3, y_3 = (y_1) → (((decide ((x90 : Int) < ((Tree.kids t).length : Int))) = true → ((0 : Int) ≤ x90 ∧ x90 < ((Tree.kids t).length : Int)) ∧ ((pre100 (y_3, 0, ())) ∧ ((x10.length + ([wordAt y_3 0]).length) * 8 ≤ 140737488355328) ∧ ((InR ((x90 : Int) + 1)) ∧ (N0 (head74_0 l at_ t ((x90 : Int) + 1) (x10 ++ ([wordAt y_3 0]))))))) ∧ ((decide ((x90 : Int) < ((Tree.kids t).length : Int))) = false → (pre1101 ((((Tree.kind t) : Int) - 2), x10, ())) ∧ ((pre75 ((l, ()), ((putW (((Tree.kind t) : Int) - 2) x10).length : Int), ())) ∧ (((0 : Int) ≤ (l.length : Int) ∧ (l.length : Int) ≤ ((l ++ zs y_2).length : Int)) ∧ ((0 : Nat) ≤ (Int.toNat (l.length : Int))) ∧ ((Tr ((true) = true)) ∧ (Tr ((true) = true)) ∧ (Tr ((true) = true)) ∧ (Tr ((true) = true)) ∧ (Tr ((true) = true)) ∧ (Tr ((true) = true)) ∧ (Tr ((true) = true)) ∧ (Tr ((true) = true)) ∧ (pre96 (((cpL (l ++ zs y_2) (Int.toNat (l.length : Int)) (putW (((Tree.kind t) : Int) - 2) x10)), ()), at_, (l.length : Int), (Ptr.mk 2 0 0 0 (((Tree.kind t) : Int) - 2) ((Tree.kids t).length : Int) 0 false), ())) ∧ (Q .ret (⟨[(6, .c (.bool (bif true then true else false)))], [((.x 0), [.mref (.x 0 0)])], [(.x 0 0, LC.mk (U := U) .u64 ((cpL (l ++ zs y_2) (Int.toNat (l.length : Int)) (putW (((Tree.kind t) : Int) - 2) x10)).set (Int.toNat at_) (pntW at_ (l.length : Int) (Ptr.mk 2 0 0 0 (((Tree.kind t) : Int) - 2) ((Tree.kids t).length : Int) 0 false))) 0)]⟩ : LSt U)))))))) :
    A74 N [1, 1, 1, 1, 0, 1, 0, 0] (head74_0 l at_ t x90 x10) (AExit.then N0 (AExit.inBlock 1 (S74 N [1, 1, 1, 1, 1] Q))) :=
  (Eq.mpr (by kernel_rfl) (h _ rfl _ rfl _ (reTree_eq _)) :)
abbrev Body74 (N : Nat) (l : List Int) (at_ : Int) (t : Tree)  : Prop := awp cfg (know (know74 N)) (drawOk cfg (know (know74 N))) Try.f74.ntmps lv74 (cd Try.f74 []) (entryL (args74.can ((l, ()), at_, t, ())) (args74.canX ((l, ()), at_, t, ())) (args74.canL ((l, ()), at_, t, ()))) (EndsQL cfg Try.f74.ntmps Try.f74.results.toList (res74 ((l, ()), at_, t, ())) (resX74 ((l, ()), at_, t, ())) (resL74 ((l, ()), at_, t, ())))
abbrev HB74 : Prop := ∀ (N : Nat) (l : List Int) (at_ : Int) (t : Tree) (_ : Unit), pre74 ((l, ()), at_, t, ()) → mu74 ((l, ()), at_, t, ()) < N + 1 → Body74 N l at_ t

noncomputable def know99 (N : Nat) : List (FuncId × Fs U) := know74 N
def lv99 : Lives U := fun i => match i with
  | 0 => ([(0, []), (1, []), (5, [])], [((.loc 5), []), ((.x 0), [.wr .u64])])
  | 1 => ([(0, []), (1, []), (10, []), (11, []), (12, [])], [((.x 0), [.wr .u64])])
  | 2 => ([(0, []), (1, []), (10, []), (11, []), (12, []), (13, [])], [((.x 0), [.wr .u64])])
  | 3 => ([(0, []), (1, []), (7, []), (8, []), (10, []), (11, []), (12, [])], [((.loc 8), []), ((.x 0), [.wr .u64])])
  | 4 => ([(0, []), (1, []), (10, []), (11, []), (12, []), (23, [])], [((.x 0), [.wr .u64])])
  | 5 => ([(6, [])], [((.x 0), [.wr .u64])])
  | 6 => ([(0, []), (1, []), (10, []), (11, []), (12, [])], [((.x 0), [.wr .u64])])
  | 7 => ([(6, [])], [((.x 0), [.wr .u64])])
  | _ => ([], [])
noncomputable def head99_0 (l : List Int) (at_ : Int) (t : Tree) (x12 : Int) (rx_0_0 : List Int) : LSt U := (⟨[(0, .ptr (.x 0) 0), (1, .c (.int .i64 at_)), (10, .c (.slice (U := U) .tree (Tree.kids t) .unk)), (11, .c (.int .i64 ((Tree.kids t).length : Int))), (12, .c (.int .i64 x12))], [((.x 0), [.mref (.x 0 0)])], [(.x 0 0, LC.mk (U := U) .u64 rx_0_0 0)]⟩ : LSt U)
noncomputable abbrev A99 (N : Nat) (p : List Nat) := awp cfg (know (know99 N)) (drawOk cfg (know (know99 N))) Try.f99.ntmps lv99 (cd Try.f99 p)
noncomputable abbrev S99 (N : Nat) (p : List Nat) := seqK cfg (know (know99 N)) (drawOk cfg (know (know99 N))) Try.f99.ntmps lv99 (cd Try.f99 p)
theorem vc99 (N : Nat) (l : List Int) (at_ : Int) (t : Tree) (Q : AExit → LSt U → Prop) (h : ((LoopWp (A99 N [1, 0, 1, 0, 0]) (head99_0 l at_ t 0 l) (AExit.inBlock 0 (S99 N [1, 1] Q))))) :
    A99 N [] (⟨[(0, .ptr (.x 0) 0), (1, .c (.int .i64 at_)), (2, .agg [.int .i64 (Tree.kind t), .slice (U := U) .u64 (Tree.words t) .unk, .slice (U := U) .tree (Tree.kids t) .unk])], [((.x 0), [.mref (.x 0 0)])], [(.x 0 0, LC.mk (U := U) .u64 l 0)]⟩ : LSt U) Q :=
  (Eq.mpr (by kernel_rfl) h :)
theorem vc99_l0 (N : Nat) (l : List Int) (at_ : Int) (t : Tree) (x12 : Int) (rx_0_0 : List Int) (N0 : LSt U → Prop) (Q : AExit → LSt U → Prop) (h : (((decide ((x12 : Int) < ((Tree.kids t).length : Int))) = true → ((0 : Int) ≤ x12 ∧ x12 < ((Tree.kids t).length : Int)) ∧ ((InR ((at_ : Int) + x12)) ∧ (pre74 ((rx_0_0, ()), ((at_ : Int) + x12), (Tree.mk (Tree.kind (List.getD (Tree.kids t) (Int.toNat x12) Tree.nil)) (Tree.words (List.getD (Tree.kids t) (Int.toNat x12) Tree.nil)) (Tree.kids (List.getD (Tree.kids t) (Int.toNat x12) Tree.nil))), ())) ∧ (mu74 ((rx_0_0, ()), ((at_ : Int) + x12), (Tree.mk (Tree.kind (List.getD (Tree.kids t) (Int.toNat x12) Tree.nil)) (Tree.words (List.getD (Tree.kids t) (Int.toNat x12) Tree.nil)) (Tree.kids (List.getD (Tree.kids t) (Int.toNat x12) Tree.nil))), ()) < N) ∧ (((!true) = true → (Q .ret (⟨[(6, .c (.bool false))], [((.x 0), [.mref (.x 0 0)])], [(.x 0 0, LC.mk (U := U) .u64 (layP rx_0_0 ((at_ : Int) + x12) (Tree.mk (Tree.kind (List.getD (Tree.kids t) (Int.toNat x12) Tree.nil)) (Tree.words (List.getD (Tree.kids t) (Int.toNat x12) Tree.nil)) (Tree.kids (List.getD (Tree.kids t) (Int.toNat x12) Tree.nil)))) 0)]⟩ : LSt U))) ∧ ((!true) = false → (InR ((x12 : Int) + 1)) ∧ (N0 (head99_0 l at_ t ((x12 : Int) + 1) (layP rx_0_0 ((at_ : Int) + x12) (Tree.mk (Tree.kind (List.getD (Tree.kids t) (Int.toNat x12) Tree.nil)) (Tree.words (List.getD (Tree.kids t) (Int.toNat x12) Tree.nil)) (Tree.kids (List.getD (Tree.kids t) (Int.toNat x12) Tree.nil)))))))))) ∧ ((decide ((x12 : Int) < ((Tree.kids t).length : Int))) = false → (Q .ret (⟨[(6, .c (.bool true))], [((.x 0), [.mref (.x 0 0)])], [(.x 0 0, LC.mk (U := U) .u64 rx_0_0 0)]⟩ : LSt U))))) :
    A99 N [1, 0, 1, 0, 0] (head99_0 l at_ t x12 rx_0_0) (AExit.then N0 (AExit.inBlock 0 (S99 N [1, 1] Q))) :=
  (Eq.mpr (by kernel_rfl) h :)
abbrev Body99 (N : Nat) (l : List Int) (at_ : Int) (t : Tree)  : Prop := awp cfg (know (know99 N)) (drawOk cfg (know (know99 N))) Try.f99.ntmps lv99 (cd Try.f99 []) (entryL (args99.can ((l, ()), at_, t, ())) (args99.canX ((l, ()), at_, t, ())) (args99.canL ((l, ()), at_, t, ()))) (EndsQL cfg Try.f99.ntmps Try.f99.results.toList (res99 ((l, ()), at_, t, ())) (resX99 ((l, ()), at_, t, ())) (resL99 ((l, ()), at_, t, ())))
abbrev HB99 : Prop := ∀ (N : Nat) (l : List Int) (at_ : Int) (t : Tree) (_ : Unit), pre99 ((l, ()), at_, t, ()) → mu99 ((l, ()), at_, t, ()) < N + 1 → Body99 N l at_ t

noncomputable def know97 (N : Nat) : List (FuncId × Fs U) := know74 N
def lv97 : Lives U := fun i => match i with
  | 0 => ([(0, []), (1, []), (2, []), (7, [])], [((.loc 7), []), ((.x 0), [.wr .u64])])
  | 1 => ([(0, []), (1, []), (2, []), (7, [])], [((.loc 7), []), ((.x 0), [.wr .u64])])
  | 2 => ([(8, [])], [((.x 0), [.wr .u64])])
  | _ => ([], [])
noncomputable abbrev A97 (N : Nat) (p : List Nat) := awp cfg (know (know97 N)) (drawOk cfg (know (know97 N))) Try.f97.ntmps lv97 (cd Try.f97 p)
theorem vc97 (N : Nat) (l : List Int) (at_ : Int) (n : Int) (t : Tree) (Q : AExit → LSt U → Prop) (h : (((0 : Int) ≤ at_ ∧ at_ ≤ (l.length : Int)) ∧ ((0 : Nat) ≤ (Int.toNat at_)) ∧ ((InR ((at_ : Int) + n)) ∧ (pre99 (((cpL l (Int.toNat at_) (Tree.words t)), ()), ((at_ : Int) + n), (Tree.mk (Tree.kind t) (Tree.words t) (Tree.kids t)), ())) ∧ (mu99 (((cpL l (Int.toNat at_) (Tree.words t)), ()), ((at_ : Int) + n), (Tree.mk (Tree.kind t) (Tree.words t) (Tree.kids t)), ()) < N) ∧ (Q .ret (⟨[(8, .c (.bool true))], [((.x 0), [.mref (.x 0 0)])], [(.x 0 0, LC.mk (U := U) .u64 (kidsR (cpL l (Int.toNat at_) (Tree.words t)) ((at_ : Int) + n) (Tree.mk (Tree.kind t) (Tree.words t) (Tree.kids t))) 0)]⟩ : LSt U))))) :
    A97 N [] (⟨[(0, .ptr (.x 0) 0), (1, .c (.int .i64 at_)), (2, .c (.int .i64 n)), (3, .agg [.int .i64 (Tree.kind t), .slice (U := U) .u64 (Tree.words t) .unk, .slice (U := U) .tree (Tree.kids t) .unk])], [((.x 0), [.mref (.x 0 0)])], [(.x 0 0, LC.mk (U := U) .u64 l 0)]⟩ : LSt U) Q :=
  (Eq.mpr (by kernel_rfl) h :)
abbrev Body97 (N : Nat) (l : List Int) (at_ : Int) (n : Int) (t : Tree)  : Prop := awp cfg (know (know97 N)) (drawOk cfg (know (know97 N))) Try.f97.ntmps lv97 (cd Try.f97 []) (entryL (args97.can ((l, ()), at_, n, t, ())) (args97.canX ((l, ()), at_, n, t, ())) (args97.canL ((l, ()), at_, n, t, ()))) (EndsQL cfg Try.f97.ntmps Try.f97.results.toList (res97 ((l, ()), at_, n, t, ())) (resX97 ((l, ()), at_, n, t, ())) (resL97 ((l, ()), at_, n, t, ())))
abbrev HB97 : Prop := ∀ (N : Nat) (l : List Int) (at_ : Int) (n : Int) (t : Tree) (_ : Unit), pre97 ((l, ()), at_, n, t, ()) → mu97 ((l, ()), at_, n, t, ()) < N + 1 → Body97 N l at_ n t

noncomputable def know98 (N : Nat) : List (FuncId × Fs U) := know74 N
def lv98 : Lives U := fun i => match i with
  | 0 => ([(0, []), (1, []), (5, [])], [((.loc 5), []), ((.x 0), [.wr .u64])])
  | 1 => ([(0, []), (1, []), (5, []), (7, []), (8, [])], [((.loc 5), []), ((.x 0), [.wr .u64])])
  | 2 => ([(0, []), (1, []), (5, []), (7, []), (8, []), (9, [])], [((.loc 5), []), ((.x 0), [.wr .u64])])
  | 3 => ([(0, []), (1, []), (5, []), (7, []), (9, []), (10, []), (11, [])], [((.loc 5), []), ((.x 0), [.wr .u64])])
  | 4 => ([(0, []), (1, []), (5, []), (7, []), (9, []), (10, []), (11, []), (34, [])], [((.loc 5), []), ((.x 0), [.wr .u64])])
  | 5 => ([(0, []), (1, []), (5, []), (7, []), (9, []), (10, []), (11, [])], [((.loc 5), []), ((.x 0), [.wr .u64])])
  | 6 => ([(0, []), (1, []), (5, []), (7, []), (9, []), (10, []), (11, []), (12, [])], [((.loc 5), []), ((.x 0), [.wr .u64])])
  | 7 => ([(0, []), (1, []), (5, []), (7, []), (9, []), (11, []), (12, [])], [((.loc 5), []), ((.x 0), [.wr .u64])])
  | 8 => ([(0, []), (5, []), (7, []), (9, []), (11, []), (12, []), (60, [])], [((.loc 5), []), ((.x 0), [.wr .u64])])
  | 9 => ([(6, [])], [((.x 0), [.wr .u64])])
  | 10 => ([(0, []), (5, []), (7, []), (9, []), (11, []), (12, []), (62, []), (63, []), (64, [])], [((.loc 5), []), ((.x 0), [.wr .u64])])
  | 11 => ([(0, []), (5, []), (7, []), (9, []), (11, []), (12, []), (62, []), (63, []), (64, []), (65, [])], [((.loc 5), []), ((.x 0), [.wr .u64])])
  | 12 => ([(0, []), (5, []), (7, []), (9, []), (11, []), (12, []), (13, []), (14, []), (62, []), (63, []), (64, [])], [((.loc 5), []), ((.loc 14), []), ((.x 0), [.wr .u64])])
  | 13 => ([(0, []), (5, []), (7, []), (9, []), (11, []), (12, []), (62, []), (63, []), (64, []), (79, [])], [((.loc 5), []), ((.x 0), [.wr .u64])])
  | 14 => ([(6, [])], [((.x 0), [.wr .u64])])
  | 15 => ([(0, []), (5, []), (7, []), (9, []), (11, []), (12, []), (62, []), (63, []), (64, [])], [((.loc 5), []), ((.x 0), [.wr .u64])])
  | 16 => ([(6, [])], [((.x 0), [.wr .u64])])
  | _ => ([], [])
noncomputable def head98_0 (l : List Int) (at_ : Int) (t : Tree) (rx_0_0 : List Int) (x64 : Int) : LSt U := (⟨[(0, .ptr (.x 0) 0), (5, .ptr (.loc 5) 0), (7, .c (.int .i64 (frW (Tree.kids (Tree.mk (Tree.kind t) (Tree.words t) (Tree.kids t))) : Int))), (9, .c (.int .i64 (((frW (Tree.kids (Tree.mk (Tree.kind t) (Tree.words t) (Tree.kids t))) : Int) : Int) + (frK (Tree.kids (Tree.mk (Tree.kind t) (Tree.words t) (Tree.kids t))) : Int)))), (11, .c (.bool (eqP (decP (encW (Ptr.mk 1 ((Tree.kids t).length : Int) (frW (Tree.kids (Tree.mk (Tree.kind t) (Tree.words t) (Tree.kids t))) : Int) (frK (Tree.kids (Tree.mk (Tree.kind t) (Tree.words t) (Tree.kids t))) : Int) 0 0 0 false))) (Ptr.mk 1 ((Tree.kids t).length : Int) (frW (Tree.kids (Tree.mk (Tree.kind t) (Tree.words t) (Tree.kids t))) : Int) (frK (Tree.kids (Tree.mk (Tree.kind t) (Tree.words t) (Tree.kids t))) : Int) 0 0 0 false) && !decide (Ptr.kind (Ptr.mk 1 ((Tree.kids t).length : Int) (frW (Tree.kids (Tree.mk (Tree.kind t) (Tree.words t) (Tree.kids t))) : Int) (frK (Tree.kids (Tree.mk (Tree.kind t) (Tree.words t) (Tree.kids t))) : Int) 0 0 0 false) = 4)))), (12, .c (.int .i64 (l.length : Int))), (62, .c (.slice (U := U) .tree (Tree.kids t) .unk)), (63, .c (.int .i64 ((Tree.kids t).length : Int))), (64, .c (.int .i64 x64))], [((.loc 5), [.int .i64 (Tree.kind t), .slice (U := U) .u64 (Tree.words t) .unk, .slice (U := U) .tree (Tree.kids t) .unk]), ((.x 0), [.mref (.x 0 0)])], [(.x 0 0, LC.mk (U := U) .u64 rx_0_0 0)]⟩ : LSt U)
noncomputable abbrev A98 (N : Nat) (p : List Nat) := awp cfg (know (know98 N)) (drawOk cfg (know (know98 N))) Try.f98.ntmps lv98 (cd Try.f98 p)
noncomputable abbrev S98 (N : Nat) (p : List Nat) := seqK cfg (know (know98 N)) (drawOk cfg (know (know98 N))) Try.f98.ntmps lv98 (cd Try.f98 p)
theorem vc98 (N : Nat) (l : List Int) (at_ : Int) (t : Tree) (Q : AExit → LSt U → Prop) (h : ∀ y_1, y_1 = (t) → ∀ y_2, y_2 = (Ptr.mk 1 ((Tree.kids t).length : Int) (frW (Tree.kids y_1) : Int) (frK (Tree.kids y_1) : Int) 0 0 0 false) → ∀ y_3, y_3 = (InR ((((Tree.kids t).length : Int) : Int) * (((frW (Tree.kids y_1) : Int) : Int) + (frK (Tree.kids y_1) : Int)))) → ∀ y_4, y_4 = (Int.toNat ((1 : Int) + ((((Tree.kids t).length : Int) : Int) * (((frW (Tree.kids y_1) : Int) : Int) + (frK (Tree.kids y_1) : Int))))) → ∀ y_5, y_5 = (Ptr.mk 2 0 0 0 7 ((((Tree.kids t).length : Int) : Int) * (((frW (Tree.kids y_1) : Int) : Int) + (frK (Tree.kids y_1) : Int))) 0 false) → ∀ y_6, y_6 = (List.set (l ++ zs y_4) (Int.toNat (l.length : Int)) (encW y_2)) → ((pre119 (y_1, ())) ∧ ((InR (((frW (Tree.kids y_1) : Int) : Int) + (frK (Tree.kids y_1) : Int))) ∧ ((pre120 (y_2, ())) ∧ ((((!(eqP (decP (encW y_2)) y_2 && !decide (Ptr.kind y_2 = 4))) = true → (y_3 ∧ (InR ((1 : Int) + ((((Tree.kids t).length : Int) : Int) * (((frW (Tree.kids y_1) : Int) : Int) + (frK (Tree.kids y_1) : Int))))) ∧ (pre75 ((l, ()), ((1 : Int) + ((((Tree.kids t).length : Int) : Int) * (((frW (Tree.kids y_1) : Int) : Int) + (frK (Tree.kids y_1) : Int)))), ())) ∧ (((0 : Int) ≤ (l.length : Int) ∧ (l.length : Int) < ((l ++ zs y_4).length : Int)) ∧ ((0 : Nat) ≤ (Int.toNat (l.length : Int))) ∧ (y_3 ∧ (pre96 (((List.set (l ++ zs y_4) (Int.toNat (l.length : Int)) 0), ()), at_, (l.length : Int), y_5, ())) ∧ (((!true) = true → (Q .ret (⟨[(6, .c (.bool false))], [((.x 0), [.mref (.x 0 0)])], [(.x 0 0, LC.mk (U := U) .u64 ((List.set (l ++ zs y_4) (Int.toNat (l.length : Int)) 0).set (Int.toNat at_) (pntW at_ (l.length : Int) y_5)) 0)]⟩ : LSt U))) ∧ ((!true) = false → (LoopWp (A98 N [1, 1, 1, 1, 1, 1, 1, 1, 0, 1, 0, 0]) (head98_0 l at_ t ((List.set (l ++ zs y_4) (Int.toNat (l.length : Int)) 0).set (Int.toNat at_) (pntW at_ (l.length : Int) y_5)) 0) (AExit.inBlock 0 (S98 N [1, 1, 1, 1, 1, 1, 1, 1, 1] Q))))))))) ∧ ((!(eqP (decP (encW y_2)) y_2 && !decide (Ptr.kind y_2 = 4))) = false → y_3 ∧ (InR ((1 : Int) + ((((Tree.kids t).length : Int) : Int) * (((frW (Tree.kids y_1) : Int) : Int) + (frK (Tree.kids y_1) : Int))))) ∧ (pre75 ((l, ()), ((1 : Int) + ((((Tree.kids t).length : Int) : Int) * (((frW (Tree.kids y_1) : Int) : Int) + (frK (Tree.kids y_1) : Int)))), ())) ∧ (((0 : Int) ≤ (l.length : Int) ∧ (l.length : Int) < ((l ++ zs y_4).length : Int)) ∧ ((0 : Nat) ≤ (Int.toNat (l.length : Int))) ∧ (y_3 ∧ (pre96 ((y_6, ()), at_, (l.length : Int), y_5, ())) ∧ (((!true) = true → (Q .ret (⟨[(6, .c (.bool false))], [((.x 0), [.mref (.x 0 0)])], [(.x 0 0, LC.mk (U := U) .u64 (y_6.set (Int.toNat at_) (pntW at_ (l.length : Int) y_5)) 0)]⟩ : LSt U))) ∧ ((!true) = false → (LoopWp (A98 N [1, 1, 1, 1, 1, 1, 1, 1, 0, 1, 0, 0]) (head98_0 l at_ t (y_6.set (Int.toNat at_) (pntW at_ (l.length : Int) y_5)) 0) (AExit.inBlock 0 (S98 N [1, 1, 1, 1, 1, 1, 1, 1, 1] Q)))))))))))))) :
    A98 N [] (⟨[(0, .ptr (.x 0) 0), (1, .c (.int .i64 at_)), (2, .agg [.int .i64 (Tree.kind t), .slice (U := U) .u64 (Tree.words t) .unk, .slice (U := U) .tree (Tree.kids t) .unk])], [((.x 0), [.mref (.x 0 0)])], [(.x 0 0, LC.mk (U := U) .u64 l 0)]⟩ : LSt U) Q :=
  (Eq.mpr (by kernel_rfl) (h _ (reTree_eq _) _ rfl _ rfl _ rfl _ rfl _ rfl) :)
theorem vc98_l0 (N : Nat) (l : List Int) (at_ : Int) (t : Tree) (rx_0_0 : List Int) (x64 : Int) (N0 : LSt U → Prop) (Q : AExit → LSt U → Prop) (h : ∀ y_1, y_1 = (t) → ∀ y_2, y_2 = (List.getD (Tree.kids t) (Int.toNat x64) Tree.nil) → ∀ y_3, y_3 = (y_2) → ∀ y_4, y_4 = (Ptr.mk 1 ((Tree.kids t).length : Int) (frW (Tree.kids y_1) : Int) (frK (Tree.kids y_1) : Int) 0 0 0 false) → (((decide ((x64 : Int) < ((Tree.kids t).length : Int))) = true → ((0 : Int) ≤ x64 ∧ x64 < ((Tree.kids t).length : Int)) ∧ ((InR (((l.length : Int) : Int) + 1)) ∧ (InR ((x64 : Int) * (((frW (Tree.kids y_1) : Int) : Int) + (frK (Tree.kids y_1) : Int)))) ∧ (InR (((((l.length : Int) : Int) + 1) : Int) + ((x64 : Int) * (((frW (Tree.kids y_1) : Int) : Int) + (frK (Tree.kids y_1) : Int))))) ∧ (pre97 ((rx_0_0, ()), (((((l.length : Int) : Int) + 1) : Int) + ((x64 : Int) * (((frW (Tree.kids y_1) : Int) : Int) + (frK (Tree.kids y_1) : Int)))), (frW (Tree.kids y_1) : Int), y_3, ())) ∧ (mu97 ((rx_0_0, ()), (((((l.length : Int) : Int) + 1) : Int) + ((x64 : Int) * (((frW (Tree.kids y_1) : Int) : Int) + (frK (Tree.kids y_1) : Int)))), (frW (Tree.kids y_1) : Int), y_3, ()) < N) ∧ (((!true) = true → (Q .ret (⟨[(6, .c (.bool false))], [((.x 0), [.mref (.x 0 0)])], [(.x 0 0, LC.mk (U := U) .u64 (strR rx_0_0 (((((l.length : Int) : Int) + 1) : Int) + ((x64 : Int) * (((frW (Tree.kids y_1) : Int) : Int) + (frK (Tree.kids y_1) : Int)))) (frW (Tree.kids y_1) : Int) y_3) 0)]⟩ : LSt U))) ∧ ((!true) = false → (InR ((x64 : Int) + 1)) ∧ (N0 (head98_0 l at_ t (strR rx_0_0 (((((l.length : Int) : Int) + 1) : Int) + ((x64 : Int) * (((frW (Tree.kids y_1) : Int) : Int) + (frK (Tree.kids y_1) : Int)))) (frW (Tree.kids y_1) : Int) y_3) ((x64 : Int) + 1))))))) ∧ ((decide ((x64 : Int) < ((Tree.kids t).length : Int))) = false → (Tr ((!(eqP (decP (encW y_4)) y_4 && !decide (Ptr.kind y_4 = 4))) = true)) ∧ (Tr ((!(eqP (decP (encW y_4)) y_4 && !decide (Ptr.kind y_4 = 4))) = true)) ∧ (Tr ((!(eqP (decP (encW y_4)) y_4 && !decide (Ptr.kind y_4 = 4))) = true)) ∧ (Tr ((!(eqP (decP (encW y_4)) y_4 && !decide (Ptr.kind y_4 = 4))) = true)) ∧ ((!(eqP (decP (encW y_4)) y_4 && !decide (Ptr.kind y_4 = 4))) = true → InR ((((Tree.kids t).length : Int) : Int) + (((frW (Tree.kids y_1) : Int) : Int) + (frK (Tree.kids y_1) : Int)))) ∧ (Tr ((!(eqP (decP (encW y_4)) y_4 && !decide (Ptr.kind y_4 = 4))) = true)) ∧ (((eqP (decP (encW y_4)) y_4 && !decide (Ptr.kind y_4 = 4)) = false → (!(eqP (decP (encW y_4)) y_4 && !decide (Ptr.kind y_4 = 4))) = true)) ∧ (Q .ret (⟨[(6, .c (.bool (bif (eqP (decP (encW y_4)) y_4 && !decide (Ptr.kind y_4 = 4)) then true else ((((((Tree.kids t).length : Int) : Int) + (((frW (Tree.kids y_1) : Int) : Int) + (frK (Tree.kids y_1) : Int))) : Int) == 0))))], [((.x 0), [.mref (.x 0 0)])], [(.x 0 0, LC.mk (U := U) .u64 rx_0_0 0)]⟩ : LSt U))))) :
    A98 N [1, 1, 1, 1, 1, 1, 1, 1, 0, 1, 0, 0] (head98_0 l at_ t rx_0_0 x64) (AExit.then N0 (AExit.inBlock 0 (S98 N [1, 1, 1, 1, 1, 1, 1, 1, 1] Q))) :=
  (Eq.mpr (by kernel_rfl) (h _ (reTree_eq _) _ rfl _ (reTree_eq _) _ rfl) :)
abbrev Body98 (N : Nat) (l : List Int) (at_ : Int) (t : Tree)  : Prop := awp cfg (know (know98 N)) (drawOk cfg (know (know98 N))) Try.f98.ntmps lv98 (cd Try.f98 []) (entryL (args98.can ((l, ()), at_, t, ())) (args98.canX ((l, ()), at_, t, ())) (args98.canL ((l, ()), at_, t, ()))) (EndsQL cfg Try.f98.ntmps Try.f98.results.toList (res98 ((l, ()), at_, t, ())) (resX98 ((l, ()), at_, t, ())) (resL98 ((l, ()), at_, t, ())))
abbrev HB98 : Prop := ∀ (N : Nat) (l : List Int) (at_ : Int) (t : Tree) (_ : Unit), pre98 ((l, ()), at_, t, ()) → mu98 ((l, ()), at_, t, ()) < N + 1 → Body98 N l at_ t

theorem make74_ (c75 : Contract Try.prog cfg 75 spec75) (c96 : Contract Try.prog cfg 96 spec96) (c100 : Contract Try.prog cfg 100 spec100) (c1101 : Contract Try.prog cfg 101 spec1101) (c119 : Contract Try.prog cfg 119 spec119) (c120 : Contract Try.prog cfg 120 spec120) (b74 : HB74) (b99 : HB99) (b97 : HB97) (b98 : HB98) :
    Contract Try.prog cfg 74 spec74 ∧ Contract Try.prog cfg 99 spec99 ∧ Contract Try.prog cfg 97 spec97 ∧ Contract Try.prog cfg 98 spec98 := by
  have h74 : ∃ fn, Try.prog.funcs[(74 : FuncId)]? = some fn ∧ fn.body.isSome = true ∧ (fn.name == "runtime.NumGoroutine") = false := ⟨Try.f74, Try.func74, rfl, rfl⟩
  have h99 : ∃ fn, Try.prog.funcs[(99 : FuncId)]? = some fn ∧ fn.body.isSome = true ∧ (fn.name == "runtime.NumGoroutine") = false := ⟨Try.f99, Try.func99, rfl, rfl⟩
  have h97 : ∃ fn, Try.prog.funcs[(97 : FuncId)]? = some fn ∧ fn.body.isSome = true ∧ (fn.name == "runtime.NumGoroutine") = false := ⟨Try.f97, Try.func97, rfl, rfl⟩
  have h98 : ∃ fn, Try.prog.funcs[(98 : FuncId)]? = some fn ∧ fn.body.isSome = true ∧ (fn.name == "runtime.NumGoroutine") = false := ⟨Try.f98, Try.func98, rfl, rfl⟩
  have key : ∀ N, Contract Try.prog cfg 74 (fsXL args74 (fun a => [pre74 a, mu74 a < N]) res74 resX74 resL74) ∧ Contract Try.prog cfg 99 (fsXL args99 (fun a => [pre99 a, mu99 a < N]) res99 resX99 resL99) ∧ Contract Try.prog cfg 97 (fsXL args97 (fun a => [pre97 a, mu97 a < N]) res97 resX97 resL97) ∧ Contract Try.prog cfg 98 (fsXL args98 (fun a => [pre98 a, mu98 a < N]) res98 resX98 resL98) := by
    intro N
    induction N with
    | zero => exact ⟨fsXL_zero h74, fsXL_zero h99, fsXL_zero h97, fsXL_zero h98⟩
    | succ N ih =>
      have kn := know_ok (l := know74 N) ⟨ih.1, ih.2.1, ih.2.2.1, ih.2.2.2, c75, c96, c100, c1101, c119, c120, trivial⟩
      exact ⟨contract_fsXL (Γ := know (know74 N)) cfgOk rfl kn lv74 Try.func74 rfl rfl (fun a => by show 3 ≤ _; decide) (fun ⟨⟨l, _⟩, at_, t, _⟩ h => b74 N l at_ t () h.1 h.2.1),
        contract_fsXL (Γ := know (know74 N)) cfgOk rfl kn lv99 Try.func99 rfl rfl (fun a => by show 3 ≤ _; decide) (fun ⟨⟨l, _⟩, at_, t, _⟩ h => b99 N l at_ t () h.1 h.2.1),
        contract_fsXL (Γ := know (know74 N)) cfgOk rfl kn lv97 Try.func97 rfl rfl (fun a => by show 4 ≤ _; decide) (fun ⟨⟨l, _⟩, at_, n, t, _⟩ h => b97 N l at_ n t () h.1 h.2.1),
        contract_fsXL (Γ := know (know74 N)) cfgOk rfl kn lv98 Try.func98 rfl rfl (fun a => by show 3 ≤ _; decide) (fun ⟨⟨l, _⟩, at_, t, _⟩ h => b98 N l at_ t () h.1 h.2.1)⟩
  exact ⟨fsXL_less fun N => (key N).1, fsXL_less fun N => (key N).2.1, fsXL_less fun N => (key N).2.2.1, fsXL_less fun N => (key N).2.2.2⟩
end Go.AM.Ythokdjgpdonhgaa

namespace Go.AM.Ythokdjgpdonhgaa
open Go.AM Go.Proofs

def KidsOk (ks : List Tree) : Prop := ∀ k ∈ ks, k.kind ≠ 10 ∧ ∃ d, rightT k d = true

theorem kidsP_blk' : ∀ (ks : List Tree) (a to : Int), KidsOk ks → (kidsP ks a to).2.length = sizeK ks
  | [], _, _, _ => by rw [kidsP, sizeK]; rfl
  | t :: r, a, to, h => by
    obtain ⟨h1, d, h2⟩ := h t List.mem_cons_self
    rw [kidsP, sizeK, List.length_append, blkP_len t d to h2 h1, kidsP_blk' r _ _ fun t ht => h t (List.mem_cons_of_mem _ ht)]
theorem KidsOk.take {ks : List Tree} (h : KidsOk ks) (n : Nat) : KidsOk (ks.take n) := fun k hk => h k (List.mem_of_mem_take hk)

theorem kst_pre {A S : List Int} {ks : List Tree} {to : Int} {i : Nat} (hi : i < ks.length) (hK : KidsOk ks) (hl : A.length + ks.length + S.length + sizeK ks ≤ 1000000) :
    A.length + i < (kidsSt A S ks to i).length ∧ (kidsSt A S ks to i).length + sizeN (ks.getD i Tree.nil) ≤ 1000000 := by
  have h1 := kidsSt_len A S ks to (Nat.le_of_lt hi)
  rw [kidsP_blk' _ _ _ (hK.take i)] at h1
  have h2 := sizeK_take (ks := ks) (i := i) (by omega) (by omega)
  have h3 := sizeK_take_le ks (i + 1)
  rw [show ((i : Int) + 1).toNat = i + 1 by omega, Int.toNat_natCast] at h2
  omega

theorem kid_rng {t : Tree} (h : rng t) {k : Tree} (hk : k ∈ t.kids) : rng k := by
  obtain ⟨k', w, ks⟩ := t
  rw [rng] at h
  have : ∀ l : List Tree, rngK l → ∀ t' ∈ l, rng t' := by
    intro l
    induction l with
    | nil => intro _ t' h; cases h
    | cons x l ih =>
      intro h t' ht
      rw [rngK] at h
      rcases List.mem_cons.1 ht with rfl | ht
      · exact h.1
      · exact ih h.2 t' ht
  exact this ks h.2.2 k hk

theorem RiT.kidsOk {k : Int} {w : List Int} {ks : List Tree} {d : Int} (h : RiT k w ks d) (hk : k = 1 ∨ k = 8) : KidsOk ks := fun t ht => ⟨(h.kids t ht).2.2.1 hk, _, (h.kids t ht).1⟩
theorem fr_lt {ks : List Tree} (h : ∀ t ∈ ks, t.words.length < 65536 ∧ t.kids.length < 65536) : frW ks < 65536 ∧ frK ks < 65536 := by
  induction ks with
  | nil => exact ⟨by simp [frW], by simp [frK]⟩
  | cons t l ih =>
    have h1 := h t List.mem_cons_self
    have h2 := ih fun t ht => h t (List.mem_cons_of_mem _ ht)
    rw [frW, frK]
    omega
theorem riT' {t : Tree} {d : Int} (h : rightT t d = true) : RiT t.kind t.words t.kids d := riT (by rw [Tree.eta]; exact h)
theorem RiT.rows {w : List Int} {ks : List Tree} {d : Int} (h : RiT 9 w ks d) : ∀ t ∈ ks, t.kind = 1 ∧ KidsOk t.kids ∧ t.words.length < 65536 ∧ t.kids.length < 65536 := by
  intro t ht
  have h1 := h.kids t ht
  have hk := h1.2.2.2 rfl
  have r := riT' h1.1
  rw [hk] at r
  exact ⟨hk, r.kidsOk (.inl rfl), r.stru rfl⟩

theorem rowsP_blk' (fw fk : Nat) : ∀ (ks : List Tree) (a to : Int), (∀ t ∈ ks, KidsOk t.kids) → (rowsP fw fk ks a to).2.length = sizeR ks
  | [], _, _, _ => by rw [rowsP, sizeR]; rfl
  | .mk k w l :: r, a, to, h => by
    have h1 := h _ List.mem_cons_self
    rw [rowsP, sizeR, List.length_append, kidsP_blk' l _ _ h1, rowsP_blk' fw fk r _ _ fun t ht => h t (List.mem_cons_of_mem _ ht)]

theorem size_eq (t : Tree) : sizeN t = if t.kind = 1 then t.words.length + t.kids.length + sizeK t.kids else if t.kind = 8 then t.kids.length + sizeK t.kids else if t.kind = 9 then 1 + t.kids.length * (frW t.kids + frK t.kids) + sizeR t.kids
    else if 2 ≤ t.kind ∧ t.kind ≤ 7 then (roomW (t.kind - 2) t.kids.length).toNat else sizeK t.kids := by
  obtain ⟨k, w, ks⟩ := t
  rw [sizeN]; rfl
theorem head_eq (a to : Int) (t : Tree) : headP a to t = if t.kind = 0 then 0
    else if t.kind = 1 then ptrP a (if t.words.length + t.kids.length = 0 then a else to) 0 (t.words.length + 65536 * t.kids.length)
    else if t.kind = 8 then ptrP a to 1 (6 + 8 * t.kids.length)
    else if t.kind = 9 then ptrP a to 1 (7 + 8 * (t.kids.length * (frW t.kids + frK t.kids) : Nat))
    else ptrP a to 1 (t.kind - 2 + 8 * t.kids.length) := by
  obtain ⟨k, w, ks⟩ := t
  rfl
theorem blk_eq (t : Tree) (to : Int) : blkP t to = if t.kind = 0 then []
    else if t.kind = 1 then t.words ++ ((kidsP t.kids (to + t.words.length) (to + t.words.length + t.kids.length)).1 ++ (kidsP t.kids (to + t.words.length) (to + t.words.length + t.kids.length)).2)
    else if t.kind = 8 then (kidsP t.kids to (to + t.kids.length)).1 ++ (kidsP t.kids to (to + t.kids.length)).2
    else if t.kind = 9 then tagP t.kids.length (frW t.kids) (frK t.kids) :: ((rowsP (frW t.kids) (frK t.kids) t.kids (to + 1) (to + 1 + (t.kids.length * (frW t.kids + frK t.kids) : Nat))).1 ++ (rowsP (frW t.kids) (frK t.kids) t.kids (to + 1) (to + 1 + (t.kids.length * (frW t.kids + frK t.kids) : Nat))).2)
    else putR (t.kind - 2) (numsP t.kids) := by
  obtain ⟨k, w, ks⟩ := t
  rw [blkP]; rfl

end Go.AM.Ythokdjgpdonhgaa
