import Derived.Test.YtpjenobkibfpcaaCmZ
import Derived.Test.YtpjenobkibfpcaaChecked
import Derived.Test.YtpjenobkibfpcaaRows
import Derived.Test.YtpjenobkibfpcaaCmX
import Derived.Test.YtpjenobkibfpcaaCmXE
import Derived.ProofKit
import Derived.Test.YtpjenobkibfpcaaKD07
set_option linter.unusedSimpArgs false
set_option linter.unusedVariables false
namespace Go.AM.Ytpjenobkibfpcaa
open Go.AM Go.Proofs
def el : Ty → TypeId
  | .u64 => 40
  | .u8 => 5
  | .int => 3
  | .tree => 25
  | .wedit => 42
  | .edit => 31
  | .kid => 84
  | .op => 82
  | .piece => 150
  | .unit => 164
  | .pair => 166
  | .step => 58
  | .deed => 70
def tb : Tables U :=
  { el := el
    sl := [(22, .u64), (23, .tree), (26, .step), (27, .wedit), (28, .kid), (29, .op), (64, .edit), (94, .u8), (146, .piece), (153, .int), (158, .pair), (161, .unit)]
    var := [(2, false, [.int .i64 0]),
      (3, false, [.int .i64 0]),
      (4, false, [.bool false]),
      (5, false, [.int .u8 0]),
      (6, false, [.int .u8 0]),
      (7, true, [.int .i64 0, .int .i64 0, .bool false, .int .u8 0]),
      (8, true, [.int .i64 0, .int .i64 0, .bool false, .int .u8 0]),
      (12, false, [.int .u64 0]),
      (15, false, [.nilp]),
      (16, false, [.nilp]),
      (17, false, [.nilp]),
      (18, true, [.nilp]),
      (19, true, [.nilp]),
      (21, false, [.int .i32 0]),
      (22, false, [.nils]),
      (23, false, [.nils]),
      (24, true, [.int .i64 0, .nils, .nils]),
      (25, true, [.int .i64 0, .nils, .nils]),
      (26, false, [.nils]),
      (27, false, [.nils]),
      (28, false, [.nils]),
      (29, false, [.nils]),
      (30, true, [.int .i64 0, .int .i64 0, .nils, .nils, .int .i64 0, .nils, .nils, .nils, .nils, .int .i64 0, .nils]),
      (31, true, [.int .i64 0, .int .i64 0, .nils, .nils, .int .i64 0, .nils, .nils, .nils, .nils, .int .i64 0, .nils]),
      (40, false, [.int .u64 0]),
      (41, true, [.int .i64 0, .int .u8 0, .int .u64 0, .int .u64 0]),
      (42, true, [.int .i64 0, .int .u8 0, .int .u64 0, .int .u64 0]),
      (57, true, [.int .i64 0, .int .i64 0]),
      (58, true, [.int .i64 0, .int .i64 0]),
      (60, false, [.int .i64 0]),
      (64, false, [.nils]),
      (66, false, [.nilp]),
      (69, true, [.int .i64 0, .int .i64 0, .int .i64 0, .int .i64 0, .nils, .nils, .int .i64 0, .nils, .nils, .nils, .nils, .int .i64 0, .nils]),
      (70, true, [.int .i64 0, .int .i64 0, .int .i64 0, .int .i64 0, .nils, .nils, .int .i64 0, .nils, .nils, .nils, .nils, .int .i64 0, .nils]),
      (81, true, [.int .i64 0, .int .i64 0, .nils, .int .i64 0, .int .i64 0, .nils, .nils, .int .i64 0, .nils, .nils, .nils, .nils, .int .i64 0, .nils]),
      (82, true, [.int .i64 0, .int .i64 0, .nils, .int .i64 0, .int .i64 0, .nils, .nils, .int .i64 0, .nils, .nils, .nils, .nils, .int .i64 0, .nils]),
      (83, true, [.int .i64 0, .int .i64 0, .int .i64 0, .nils, .nils, .int .i64 0, .nils, .nils, .nils, .nils, .int .i64 0, .nils]),
      (84, true, [.int .i64 0, .int .i64 0, .int .i64 0, .nils, .nils, .int .i64 0, .nils, .nils, .nils, .nils, .int .i64 0, .nils]),
      (90, true, [.int .u8 0, .int .u8 0, .int .u8 0, .int .u8 0, .int .u8 0, .int .u8 0, .int .u8 0, .int .u8 0]),
      (94, false, [.nils]),
      (101, false, [.nilp]),
      (102, true, [.bool false, .bool false]),
      (103, true, [.bool false, .bool false]),
      (108, true, [.int .i64 0, .nils, .nils, .nils, .nils]),
      (109, true, [.int .i64 0, .nils, .nils, .nils, .nils]),
      (135, false, [.nilp]),
      (136, true, [.nils, .nils, .nils]),
      (137, true, [.nils, .nils, .nils]),
      (140, false, [.nilp]),
      (146, false, [.nils]),
      (149, true, [.int .i64 0, .int .i64 0, .int .i64 0, .nils, .int .i64 0, .int .i64 0, .nils, .nils, .int .i64 0, .nils, .nils, .nils, .nils, .int .i64 0, .nils, .int .i64 0, .int .i64 0, .nils, .int .i64 0, .int .i64 0, .nils, .nils, .int .i64 0, .nils, .nils, .nils, .nils, .int .i64 0, .nils]),
      (150, true, [.int .i64 0, .int .i64 0, .int .i64 0, .nils, .int .i64 0, .int .i64 0, .nils, .nils, .int .i64 0, .nils, .nils, .nils, .nils, .int .i64 0, .nils, .int .i64 0, .int .i64 0, .nils, .int .i64 0, .int .i64 0, .nils, .nils, .int .i64 0, .nils, .nils, .nils, .nils, .int .i64 0, .nils]),
      (153, false, [.nils]),
      (158, false, [.nils]),
      (161, false, [.nils]),
      (163, true, [.int .i64 0, .int .i64 0, .int .i64 0, .nils, .nils, .int .i64 0, .int .i64 0, .nils, .nils, .int .i64 0, .nils, .nils, .nils, .nils, .int .i64 0, .nils, .bool false]),
      (164, true, [.int .i64 0, .int .i64 0, .int .i64 0, .nils, .nils, .int .i64 0, .int .i64 0, .nils, .nils, .int .i64 0, .nils, .nils, .nils, .nils, .int .i64 0, .nils, .bool false]),
      (165, true, [.int .i64 0, .int .i64 0, .int .i64 0, .int .i64 0, .nils, .nils, .int .i64 0, .int .i64 0, .nils, .nils, .int .i64 0, .nils, .nils, .nils, .nils, .int .i64 0, .nils, .bool false, .int .i64 0, .int .i64 0, .int .i64 0, .nils, .nils, .int .i64 0, .int .i64 0, .nils, .nils, .int .i64 0, .nils, .nils, .nils, .nils, .int .i64 0, .nils, .bool false]),
      (166, true, [.int .i64 0, .int .i64 0, .int .i64 0, .int .i64 0, .nils, .nils, .int .i64 0, .int .i64 0, .nils, .nils, .int .i64 0, .nils, .nils, .nils, .nils, .int .i64 0, .nils, .bool false, .int .i64 0, .int .i64 0, .int .i64 0, .nils, .nils, .int .i64 0, .int .i64 0, .nils, .nils, .int .i64 0, .nils, .nils, .nils, .nils, .int .i64 0, .nils, .bool false]),
      (176, false, [.nilp]),
      (177, true, [.nilp, .nils, .nils, .nils, .nils]),
      (178, true, [.nilp, .nils, .nils, .nils, .nils]),
      (186, false, [.nilp]),
      (187, true, [.nils, .int .i64 0]),
      (188, true, [.nils, .int .i64 0]),
      (206, true, [.int .i64 0, .int .i64 0, .int .i64 0, .int .i64 0, .int .i64 0, .int .i64 0]),
      (214, false, [.int .u32 0]),
      (215, false, [.int .u8 0]),
      (216, false, [.int .u8 0]),
      (218, false, [.nilp]),
      (219, false, [.int .i32 0]),
      (220, false, [.int .i32 0])]
    fld := [(7, 0, 0, 2), (7, 1, 1, 3), (7, 2, 2, 4), (7, 3, 3, 6), (8, 0, 0, 2), (8, 1, 1, 3), (8, 2, 2, 4), (8, 3, 3, 6), (18, 0, 0, 17), (19, 0, 0, 17), (24, 0, 0, 3), (24, 1, 1, 22), (24, 2, 2, 23), (25, 0, 0, 3), (25, 1, 1, 22), (25, 2, 2, 23), (30, 0, 0, 3), (30, 1, 1, 25), (30, 2, 4, 25), (30, 3, 7, 27), (30, 4, 8, 28), (30, 5, 9, 3), (30, 6, 10, 29), (31, 0, 0, 3), (31, 1, 1, 25), (31, 2, 4, 25), (31, 3, 7, 27), (31, 4, 8, 28), (31, 5, 9, 3), (31, 6, 10, 29), (41, 0, 0, 3), (41, 1, 1, 5), (41, 2, 2, 40), (41, 3, 3, 40), (42, 0, 0, 3), (42, 1, 1, 5), (42, 2, 2, 40), (42, 3, 3, 40), (57, 0, 0, 3), (57, 1, 1, 3), (58, 0, 0, 3), (58, 1, 1, 3), (69, 0, 0, 3), (69, 1, 1, 3), (69, 2, 2, 31), (70, 0, 0, 3), (70, 1, 1, 3), (70, 2, 2, 31), (81, 0, 0, 3), (81, 1, 1, 3), (81, 2, 2, 23), (81, 3, 3, 31), (82, 0, 0, 3), (82, 1, 1, 3), (82, 2, 2, 23), (82, 3, 3, 31), (83, 0, 0, 3), (83, 1, 1, 31), (84, 0, 0, 3), (84, 1, 1, 31), (102, 0, 0, 4), (102, 1, 1, 4), (103, 0, 0, 4), (103, 1, 1, 4), (108, 0, 0, 25), (108, 1, 3, 64), (108, 2, 4, 64), (109, 0, 0, 25), (109, 1, 3, 64), (109, 2, 4, 64), (136, 0, 0, 29), (136, 1, 1, 23), (136, 2, 2, 23), (137, 0, 0, 29), (137, 1, 1, 23), (137, 2, 2, 23), (149, 0, 0, 3), (149, 1, 1, 82), (149, 2, 15, 82), (150, 0, 0, 3), (150, 1, 1, 82), (150, 2, 15, 82), (163, 0, 0, 3), (163, 1, 1, 3), (163, 2, 2, 25), (163, 3, 5, 31), (163, 4, 16, 4), (164, 0, 0, 3), (164, 1, 1, 3), (164, 2, 2, 25), (164, 3, 5, 31), (164, 4, 16, 4), (165, 0, 0, 3), (165, 1, 1, 164), (165, 2, 18, 164), (166, 0, 0, 3), (166, 1, 1, 164), (166, 2, 18, 164), (177, 0, 0, 101), (177, 1, 1, 29), (177, 2, 2, 29), (177, 3, 3, 23), (177, 4, 4, 23), (178, 0, 0, 101), (178, 1, 1, 29), (178, 2, 2, 29), (178, 3, 3, 23), (178, 4, 4, 23), (187, 0, 0, 29), (187, 1, 1, 3), (188, 0, 0, 29), (188, 1, 1, 3)]
    arr := [(90, 8, 5), (206, 6, 3)]
    eqs := [41, 42, 57, 58] }
def cfg : Cfg U := tb.cfg K
theorem varOk : tb.var.all (varB Try.prog) = true := by kernel_rfl
theorem slOk : tb.sl.all (slB Try.prog tb.el) = true := by kernel_rfl
theorem fldOk : tb.fld.all (fldB Try.prog) = true := by kernel_rfl
theorem arrOk : tb.arr.all (arrB Try.prog) = true := by kernel_rfl
theorem elOk : ∀ t, elB Try.prog K tb t = true := by
  intro t
  cases t
  · kernel_rfl
  · kernel_rfl
  · kernel_rfl
  · kernel_rfl
  · kernel_rfl
  · kernel_rfl
  · kernel_rfl
  · kernel_rfl
  · kernel_rfl
  · kernel_rfl
  · kernel_rfl
  · kernel_rfl
  · kernel_rfl
theorem cfgOk : CfgOk Try.prog cfg := tables_ok K_ok varOk slOk fldOk arrOk elOk (by kernel_rfl) (by kernel_rfl)
end Go.AM.Ytpjenobkibfpcaa

namespace Go.AM.Ytpjenobkibfpcaa
open Go.AM Go.Proofs Go.Proofs.Ytpjenobkibfpcaa Go.ChangeShapes Go.WideShapes Go.RowKit
theorem own : ownKnob Try.prog.godebug = none := by kernel_rfl
theorem laidOut : laidOutB Try.prog = true := by kernel_rfl
theorem treeTypes : TreeTypes cfg := ⟨rfl, rfl, ⟨_, rfl⟩, ⟨_, rfl⟩, ⟨_, rfl, rfl⟩, ⟨_, _, rfl, rfl⟩, ⟨_, _, rfl, rfl, rfl⟩, ⟨_, _, rfl, rfl, rfl⟩⟩
theorem editTypes : EditTypes cfg := ⟨⟨_, rfl, rfl⟩, ⟨_, _, rfl, rfl⟩, ⟨_, _, rfl, rfl⟩, ⟨_, _, rfl, rfl⟩, ⟨_, _, rfl, rfl⟩, ⟨_, rfl, rfl⟩, ⟨_, _, rfl, rfl⟩, rfl, ⟨_, rfl, rfl⟩, ⟨_, _, rfl, rfl⟩, ⟨_, _, rfl, rfl⟩, ⟨_, _, rfl, rfl, rfl⟩, rfl, ⟨_, rfl, rfl⟩, ⟨_, _, rfl, rfl⟩, rfl, rfl, ⟨_, _, rfl, rfl, rfl⟩, ⟨_, _, rfl, rfl, rfl⟩, ⟨_, _, rfl, rfl⟩, ⟨_, _, rfl, rfl, rfl⟩⟩
theorem argWedit {H : Type} {henc : TypeId × Value → H} : ArgR henc Try.prog cfg (aEl .wedit) 42 rngW := argR_el cfgOk rfl ⟨_, _, rfl⟩ (fun _ n cs h => rd_wedit cfgOk treeTypes editTypes n cs h)
end Go.AM.Ytpjenobkibfpcaa

namespace Go.AM.Ytpjenobkibfpcaa
open Go.AM Go.Proofs
def args109 : ArgL (List Int × Unit) := (.cons (aSl .u64) .nil)
def pre109 (a : List Int × Unit) : Prop := a.1.length ≤ 1000000000000
noncomputable def res109 (a : List Int × Unit) : V U := .c (.slice (U := U) .u64 a.1 .unk)
noncomputable def spec109 : Fs U := fs args109 (fun a => [pre109 a]) res109
def args148 : ArgL (List Int × List Int × Unit) := (.cons (aSl .u64) (.cons (aSl .u64) .nil))
def pre148 (a : List Int × List Int × Unit) : Prop := a.1.length ≤ 1000000000000
noncomputable def res148 (a : List Int × List Int × Unit) : V U := .c (.bool (decide (a.1 = a.2.1)))
noncomputable def spec148 : Fs U := fs args148 (fun a => [pre148 a]) res148
def args149 : ArgL (Tree × Int × Unit) := (.cons (aEl .tree) (.cons (aInt .i64) .nil))
def pre149 (a : Tree × Int × Unit) : Prop := True
noncomputable def res149 (a : Tree × Int × Unit) : V U := .c (.int .u64 (wordAt a.1 a.2.1))
noncomputable def spec149 : Fs U := fs args149 (fun a => [pre149 a]) res149
def args91 : ArgL (Tree × Int × Unit) := (.cons (aEl .tree) (.cons (aInt .i64) .nil))
def pre91 (a : Tree × Int × Unit) : Prop := True
noncomputable def res91 (a : Tree × Int × Unit) : V U := .agg [.int .i64 (Tree.kind (kidAt a.1 a.2.1)), .slice (U := U) .u64 (Tree.words (kidAt a.1 a.2.1)) .unk, .slice (U := U) .tree (Tree.kids (kidAt a.1 a.2.1)) .unk]
noncomputable def spec91 : Fs U := fs args91 (fun a => [pre91 a]) res91
def args71 : ArgL (Tree × Unit) := (.cons (aEl .tree) .nil)
def pre71 (a : Tree × Unit) : Prop := mass a.1 ≤ 1000000000000
def mu71 (a : Tree × Unit) : Nat := mass a.1
noncomputable def res71 (a : Tree × Unit) : V U := .agg [.int .i64 (Tree.kind (normT a.1)), .slice (U := U) .u64 (Tree.words (normT a.1)) .unk, .slice (U := U) .tree (Tree.kids (normT a.1)) .unk]
noncomputable def spec71 : Fs U := fs args71 (fun a => [pre71 a]) res71
def args106 : ArgL (Tree × Tree × Unit) := (.cons (aEl .tree) (.cons (aEl .tree) .nil))
def pre106 (a : Tree × Tree × Unit) : Prop := mass a.1 ≤ 1000000000000 ∧ mass a.2.1 ≤ 1000000000000
def mu106 (a : Tree × Tree × Unit) : Nat := mass a.1 + mass a.2.1
noncomputable def res106 (a : Tree × Tree × Unit) : V U := .c (.bool (sameT (normT a.1) (normT a.2.1)))
noncomputable def spec106 : Fs U := fs args106 (fun a => [pre106 a]) res106
noncomputable def know109 : List (FuncId × Fs U) := []
def lv109 : Lives U := fun i => match i with
  | 0 => ([(0, [])], [])
  | 1 => ([(0, []), (4, [])], [])
  | 2 => ([(2, [])], [])
  | 3 => ([(2, [])], [])
  | _ => ([], [])
noncomputable abbrev A109 (p : List Nat) := awp cfg (know know109) (drawOk cfg (know know109)) Try.f109.ntmps lv109 (cd Try.f109 p)
theorem vc109 (l : List Int) (Q : AExit → LSt U → Prop) (h : ((((l = []) → (Q .ret (⟨[(2, .c (.nils))], [], []⟩ : LSt U))) ∧ ((True) → ((([] : List Int).length + l.length) * 8 ≤ 140737488355328) ∧ (Q .ret (⟨[(2, .c (.slice (U := U) .u64 (([] : List Int) ++ l) (.own (.e 2 0))))], [], []⟩ : LSt U)))))) :
    A109 [] (⟨[(0, .c (.slice (U := U) .u64 l .unk))], [], []⟩ : LSt U) Q :=
  Eq.mpr (by kernel_rfl) h
def Body109 (l : List Int)  : Prop := awp cfg (know (know109)) (drawOk cfg (know (know109))) Try.f109.ntmps lv109 (cd Try.f109 []) (entry (args109.can (l, ())) []) (EndsQ cfg Try.f109.ntmps Try.f109.results.toList (res109 (l, ())) [])
theorem make109 (hb : ∀ (l : List Int) (_ : Unit), pre109 (l, ()) → Body109 l) : Contract Try.prog cfg 109 spec109 :=
  contract_flat (l := []) cfgOk rfl (trivial) lv109 Try.func109 rfl rfl 1 (fun _ => rfl) (by decide) (fun ⟨l, _⟩ => hb l ())
noncomputable def know148 : List (FuncId × Fs U) := []
def lv148 : Lives U := fun i => match i with
  | 0 => ([(0, []), (1, [])], [])
  | 1 => ([(0, []), (1, []), (10, [])], [])
  | 2 => ([(4, [])], [])
  | 3 => ([(0, []), (1, []), (12, []), (13, [])], [])
  | 4 => ([(0, []), (1, []), (12, []), (13, []), (14, [])], [])
  | 5 => ([(0, []), (1, []), (5, []), (12, []), (13, [])], [])
  | 6 => ([(0, []), (1, []), (12, []), (13, []), (24, [])], [])
  | 7 => ([(4, [])], [])
  | 8 => ([(0, []), (1, []), (12, []), (13, [])], [])
  | 9 => ([(4, [])], [])
  | _ => ([], [])
noncomputable def head148_0 (a : List Int) (b : List Int) (x13 : Int) : LSt U := (⟨[(0, .c (.slice (U := U) .u64 a .unk)), (1, .c (.slice (U := U) .u64 b .unk)), (12, .c (.int .i64 (a.length : Int))), (13, .c (.int .i64 x13))], [], []⟩ : LSt U)
noncomputable abbrev A148 (p : List Nat) := awp cfg (know know148) (drawOk cfg (know know148)) Try.f148.ntmps lv148 (cd Try.f148 p)
noncomputable abbrev S148 (p : List Nat) := seqK cfg (know know148) (drawOk cfg (know know148)) Try.f148.ntmps lv148 (cd Try.f148 p)
theorem vc148 (a : List Int) (b : List Int) (Q : AExit → LSt U → Prop) (h : ((((((a.length : Int) : Int) != (b.length : Int)) = true → (Q .ret (⟨[(4, .c (.bool false))], [], []⟩ : LSt U))) ∧ ((((a.length : Int) : Int) != (b.length : Int)) = false → (LoopWp (A148 [1, 1, 0, 1, 0, 0]) (head148_0 a b 0) (AExit.inBlock 0 (S148 [1, 1, 1] Q))))))) :
    A148 [] (⟨[(0, .c (.slice (U := U) .u64 a .unk)), (1, .c (.slice (U := U) .u64 b .unk))], [], []⟩ : LSt U) Q :=
  Eq.mpr (by kernel_rfl) h
theorem vc148_l0 (a : List Int) (b : List Int) (x13 : Int) (N0 : LSt U → Prop) (Q : AExit → LSt U → Prop) (h : (((decide ((x13 : Int) < (a.length : Int))) = true → (((0 : Int) ≤ x13 ∧ x13 < (a.length : Int)) ∧ ((0 : Int) ≤ x13 ∧ x13 < (b.length : Int)) ∧ (((((List.getD a (Int.toNat x13) (0 : Int)) : Int) != (List.getD b (Int.toNat x13) (0 : Int))) = true → (Q .ret (⟨[(4, .c (.bool false))], [], []⟩ : LSt U))) ∧ ((((List.getD a (Int.toNat x13) (0 : Int)) : Int) != (List.getD b (Int.toNat x13) (0 : Int))) = false → (InR ((x13 : Int) + 1)) ∧ (N0 (head148_0 a b ((x13 : Int) + 1))))))) ∧ ((decide ((x13 : Int) < (a.length : Int))) = false → (Q .ret (⟨[(4, .c (.bool true))], [], []⟩ : LSt U))))) :
    A148 [1, 1, 0, 1, 0, 0] (head148_0 a b x13) (AExit.then N0 (AExit.inBlock 0 (S148 [1, 1, 1] Q))) :=
  Eq.mpr (by kernel_rfl) h
def Body148 (a : List Int) (b : List Int)  : Prop := awp cfg (know (know148)) (drawOk cfg (know (know148))) Try.f148.ntmps lv148 (cd Try.f148 []) (entry (args148.can (a, b, ())) []) (EndsQ cfg Try.f148.ntmps Try.f148.results.toList (res148 (a, b, ())) [])
theorem make148 (hb : ∀ (a : List Int) (b : List Int) (_ : Unit), pre148 (a, b, ()) → Body148 a b) : Contract Try.prog cfg 148 spec148 :=
  contract_flat (l := []) cfgOk rfl (trivial) lv148 Try.func148 rfl rfl 2 (fun _ => rfl) (by decide) (fun ⟨a, b, _⟩ => hb a b ())
noncomputable def know149 : List (FuncId × Fs U) := []
def lv149 : Lives U := fun i => match i with
  | 0 => ([(1, []), (2, [])], [((.loc 2), [])])
  | 1 => ([(1, []), (2, []), (13, [])], [((.loc 2), [])])
  | 2 => ([(4, [])], [])
  | 3 => ([(4, [])], [])
  | _ => ([], [])
noncomputable abbrev A149 (p : List Nat) := awp cfg (know know149) (drawOk cfg (know know149)) Try.f149.ntmps lv149 (cd Try.f149 p)
theorem vc149 (t : Tree) (i : Int) (Q : AExit → LSt U → Prop) (h : ((Tr ((!(decide ((i : Int) < 0))) = true)) ∧ (Tr ((!(decide ((i : Int) < 0))) = true)) ∧ (Tr ((!(decide ((i : Int) < 0))) = true)) ∧ (Tr ((!(decide ((i : Int) < 0))) = true)) ∧ (((decide ((i : Int) < 0)) = false → (!(decide ((i : Int) < 0))) = true)) ∧ (((bif (decide ((i : Int) < 0)) then true else (decide ((((Tree.words t).length : Int) : Int) ≤ i))) = true → (Q .ret (⟨[(4, .c (.int .u64 0))], [], []⟩ : LSt U))) ∧ ((bif (decide ((i : Int) < 0)) then true else (decide ((((Tree.words t).length : Int) : Int) ≤ i))) = false → ((0 : Int) ≤ i ∧ i < ((Tree.words t).length : Int)) ∧ (Q .ret (⟨[(4, .c (.int .u64 (List.getD (Tree.words t) (Int.toNat i) (0 : Int))))], [], []⟩ : LSt U)))))) :
    A149 [] (⟨[(0, .agg [.int .i64 (Tree.kind t), .slice (U := U) .u64 (Tree.words t) .unk, .slice (U := U) .tree (Tree.kids t) .unk]), (1, .c (.int .i64 i))], [], []⟩ : LSt U) Q :=
  Eq.mpr (by kernel_rfl) h
def Body149 (t : Tree) (i : Int)  : Prop := awp cfg (know (know149)) (drawOk cfg (know (know149))) Try.f149.ntmps lv149 (cd Try.f149 []) (entry (args149.can (t, i, ())) []) (EndsQ cfg Try.f149.ntmps Try.f149.results.toList (res149 (t, i, ())) [])
theorem make149 (hb : ∀ (t : Tree) (i : Int) (_ : Unit), pre149 (t, i, ()) → Body149 t i) : Contract Try.prog cfg 149 spec149 :=
  contract_flat (l := []) cfgOk rfl (trivial) lv149 Try.func149 rfl rfl 2 (fun _ => rfl) (by decide) (fun ⟨t, i, _⟩ => hb t i ())
noncomputable def know91 : List (FuncId × Fs U) := []
def lv91 : Lives U := fun i => match i with
  | 0 => ([(1, []), (2, []), (4, [])], [((.loc 2), []), ((.loc 4), [])])
  | 1 => ([(1, []), (2, []), (4, []), (13, [])], [((.loc 2), []), ((.loc 4), [])])
  | 2 => ([(4, [])], [((.loc 4), [])])
  | 3 => ([(4, [])], [((.loc 4), [])])
  | _ => ([], [])
noncomputable abbrev A91 (p : List Nat) := awp cfg (know know91) (drawOk cfg (know know91)) Try.f91.ntmps lv91 (cd Try.f91 p)
theorem vc91 (t : Tree) (i : Int) (Q : AExit → LSt U → Prop) (h : ((Tr ((!(decide ((i : Int) < 0))) = true)) ∧ (Tr ((!(decide ((i : Int) < 0))) = true)) ∧ (Tr ((!(decide ((i : Int) < 0))) = true)) ∧ (Tr ((!(decide ((i : Int) < 0))) = true)) ∧ (((decide ((i : Int) < 0)) = false → (!(decide ((i : Int) < 0))) = true)) ∧ (((bif (decide ((i : Int) < 0)) then true else (decide ((((Tree.kids t).length : Int) : Int) ≤ i))) = true → (Q .ret (⟨[(4, .ptr (.loc 4) 0)], [((.loc 4), [.int .i64 0, .nils, .nils])], []⟩ : LSt U))) ∧ ((bif (decide ((i : Int) < 0)) then true else (decide ((((Tree.kids t).length : Int) : Int) ≤ i))) = false → ((0 : Int) ≤ i ∧ i < ((Tree.kids t).length : Int)) ∧ (Q .ret (⟨[(4, .ptr (.loc 4) 0)], [((.loc 4), [.int .i64 (Tree.kind (List.getD (Tree.kids t) (Int.toNat i) Tree.nil)), .slice (U := U) .u64 (Tree.words (List.getD (Tree.kids t) (Int.toNat i) Tree.nil)) .unk, .slice (U := U) .tree (Tree.kids (List.getD (Tree.kids t) (Int.toNat i) Tree.nil)) .unk])], []⟩ : LSt U)))))) :
    A91 [] (⟨[(0, .agg [.int .i64 (Tree.kind t), .slice (U := U) .u64 (Tree.words t) .unk, .slice (U := U) .tree (Tree.kids t) .unk]), (1, .c (.int .i64 i))], [], []⟩ : LSt U) Q :=
  Eq.mpr (by kernel_rfl) h
def Body91 (t : Tree) (i : Int)  : Prop := awp cfg (know (know91)) (drawOk cfg (know (know91))) Try.f91.ntmps lv91 (cd Try.f91 []) (entry (args91.can (t, i, ())) []) (EndsQ cfg Try.f91.ntmps Try.f91.results.toList (res91 (t, i, ())) [])
theorem make91 (hb : ∀ (t : Tree) (i : Int) (_ : Unit), pre91 (t, i, ()) → Body91 t i) : Contract Try.prog cfg 91 spec91 :=
  contract_flat (l := []) cfgOk rfl (trivial) lv91 Try.func91 rfl rfl 2 (fun _ => rfl) (by decide) (fun ⟨t, i, _⟩ => hb t i ())
noncomputable def know71 (N : Nat) : List (FuncId × Fs U) := (71, fs args71 (fun a => [pre71 a, mu71 a < N]) res71) :: [(109, spec109)]
def lv71 : Lives U := fun i => match i with
  | 0 => ([(1, []), (2, [])], [((.loc 1), []), ((.loc 2), [])])
  | 1 => ([(1, []), (2, []), (8, [])], [((.loc 1), []), ((.loc 2), [])])
  | 2 => ([(2, [])], [((.loc 2), [])])
  | 3 => ([(1, []), (2, []), (3, [])], [((.loc 1), []), ((.loc 2), []), ((.loc 3), [])])
  | 4 => ([(1, []), (2, []), (3, []), (17, []), (18, []), (19, [])], [((.loc 1), []), ((.loc 2), []), ((.loc 3), [.any, .any, .own .tree])])
  | 5 => ([(1, []), (2, []), (3, []), (17, []), (18, []), (19, []), (20, [])], [((.loc 1), []), ((.loc 2), []), ((.loc 3), [])])
  | 6 => ([(1, []), (2, []), (3, []), (5, []), (17, []), (18, []), (19, [])], [((.loc 1), []), ((.loc 2), []), ((.loc 3), []), ((.loc 5), [])])
  | 7 => ([(1, []), (2, []), (3, []), (17, []), (18, []), (19, [])], [((.loc 1), []), ((.loc 2), []), ((.loc 3), [])])
  | 8 => ([(1, []), (2, []), (3, []), (17, []), (18, []), (19, [])], [((.loc 1), []), ((.loc 2), []), ((.loc 3), [.any, .any, .own .tree])])
  | 9 => ([(2, []), (3, []), (33, [])], [((.loc 2), []), ((.loc 3), [.any, .any, .unk .tree])])
  | 10 => ([(2, []), (3, []), (33, []), (48, [])], [((.loc 2), []), ((.loc 3), [.any, .any, .unk .tree])])
  | 11 => ([(2, []), (3, []), (33, [])], [((.loc 2), []), ((.loc 3), [.any, .any, .unk .tree])])
  | 12 => ([(2, []), (3, []), (33, []), (48, []), (72, [])], [((.loc 2), []), ((.loc 3), [])])
  | 13 => ([(2, []), (3, []), (33, []), (48, [])], [((.loc 2), []), ((.loc 3), [.any, .any, .unk .tree])])
  | 14 => ([(2, [])], [((.loc 2), [])])
  | _ => ([], [])
noncomputable def head71_0 (t : Tree) (x19 : Int) (ml3_2 : List Tree) : LSt U := (⟨[(1, .ptr (.loc 1) 0), (2, .ptr (.loc 2) 0), (3, .ptr (.loc 3) 0), (17, .c (.slice (U := U) .tree (Tree.kids t) .unk)), (18, .c (.int .i64 ((Tree.kids t).length : Int))), (19, .c (.int .i64 x19))], [((.loc 1), [.int .i64 (Tree.kind t), .slice (U := U) .u64 (Tree.words t) .unk, .slice (U := U) .tree (Tree.kids t) .unk]), ((.loc 2), [.int .i64 0, .nils, .nils]), ((.loc 3), [.int .i64 (Tree.kind t), .slice (U := U) .u64 (Tree.words t) .unk, .slice (U := U) .tree ml3_2 (.own (.l 3 2))])], []⟩ : LSt U)
noncomputable def head71_1 (t : Tree) (ml3_2 : List Tree) (ml3_1_a : List Int) : LSt U := (⟨[(2, .ptr (.loc 2) 0), (3, .ptr (.loc 3) 0), (33, .c (.bool (((Tree.kind t) : Int) == 1)))], [((.loc 2), [.int .i64 0, .nils, .nils]), ((.loc 3), [.int .i64 (Tree.kind t), .slice (U := U) .u64 ml3_1_a .unk, .slice (U := U) .tree ml3_2 .unk])], []⟩ : LSt U)
noncomputable def head71_2 (t : Tree) (ml3_1_a : List Int) (ml3_2_b : List Tree) : LSt U := (⟨[(2, .ptr (.loc 2) 0), (3, .ptr (.loc 3) 0), (33, .c (.bool (((Tree.kind t) : Int) == 1))), (48, .c (.bool (bif (decide ((0 : Int) < (ml3_1_a.length : Int))) then (((List.getD ml3_1_a (Int.toNat (((ml3_1_a.length : Int) : Int) - 1)) (0 : Int)) : Int) == 0) else false)))], [((.loc 2), [.int .i64 0, .nils, .nils]), ((.loc 3), [.int .i64 (Tree.kind t), .slice (U := U) .u64 ml3_1_a .unk, .slice (U := U) .tree ml3_2_b .unk])], []⟩ : LSt U)
noncomputable abbrev A71 (N : Nat) (p : List Nat) := awp cfg (know (know71 N)) (drawOk cfg (know (know71 N))) Try.f71.ntmps lv71 (cd Try.f71 p)
noncomputable abbrev S71 (N : Nat) (p : List Nat) := seqK cfg (know (know71 N)) (drawOk cfg (know (know71 N))) Try.f71.ntmps lv71 (cd Try.f71 p)
theorem vc71 (N : Nat) (t : Tree) (Q : AExit → LSt U → Prop) (h : ((((((Tree.kind t) : Int) == 0) = true → (Q .ret (⟨[(2, .ptr (.loc 2) 0)], [((.loc 2), [.int .i64 0, .nils, .nils])], []⟩ : LSt U))) ∧ ((((Tree.kind t) : Int) == 0) = false → (pre109 ((Tree.words t), ())) ∧ ((LoopWp (A71 N [1, 1, 1, 0, 1, 0, 0]) (head71_0 t 0 ([])) (AExit.inBlock 0 (S71 N [1, 1, 1, 1] Q)))))))) :
    A71 N [] (⟨[(0, .agg [.int .i64 (Tree.kind t), .slice (U := U) .u64 (Tree.words t) .unk, .slice (U := U) .tree (Tree.kids t) .unk])], [], []⟩ : LSt U) Q :=
  Eq.mpr (by kernel_rfl) h
theorem vc71_l0 (N : Nat) (t : Tree) (x19 : Int) (ml3_2 : List Tree) (N0 : LSt U → Prop) (Q : AExit → LSt U → Prop) (h : ∀ y_1, y_1 = (List.getD (Tree.kids t) (Int.toNat x19) Tree.nil) → ∀ y_2, y_2 = (y_1) → ∀ y_3, y_3 = ((normT y_2)) → (((decide ((x19 : Int) < ((Tree.kids t).length : Int))) = true → ((0 : Int) ≤ x19 ∧ x19 < ((Tree.kids t).length : Int)) ∧ ((pre71 (y_2, ())) ∧ (mu71 (y_2, ()) < N) ∧ ((ml3_2.length + ([y_3]).length) * 56 ≤ 140737488355328) ∧ ((InR ((x19 : Int) + 1)) ∧ (N0 (head71_0 t ((x19 : Int) + 1) (ml3_2 ++ ([y_3]))))))) ∧ ((decide ((x19 : Int) < ((Tree.kids t).length : Int))) = false → (((((Tree.kind t) : Int) == 1) = true → LoopWp (A71 N [1, 1, 1, 1, 0, 1, 0, 0, 0, 0]) (head71_1 t ml3_2 (Tree.words t)) (AExit.inBlock 2 (S71 N [1, 1, 1, 1, 0, 1, 0, 1] (S71 N [1, 1, 1, 1, 1] Q)))) ∧ ((((Tree.kind t) : Int) == 1) = false → (Q .ret (⟨[(2, .ptr (.loc 2) 0)], [((.loc 2), [.int .i64 (Tree.kind t), .slice (U := U) .u64 (Tree.words t) .unk, .slice (U := U) .tree ml3_2 .unk])], []⟩ : LSt U))))))) :
    A71 N [1, 1, 1, 0, 1, 0, 0] (head71_0 t x19 ml3_2) (AExit.then N0 (AExit.inBlock 0 (S71 N [1, 1, 1, 1] Q))) :=
  Eq.mpr (by kernel_rfl) (h _ rfl _ (reTree_eq _) _ (reTree_eq _))
theorem vc71_l1 (N : Nat) (t : Tree) (ml3_2 : List Tree) (ml3_1_a : List Int) (N1 : LSt U → Prop) (Q : AExit → LSt U → Prop) (h : (Tr ((decide ((0 : Int) < (ml3_1_a.length : Int))) = true)) ∧ (Tr ((decide ((0 : Int) < (ml3_1_a.length : Int))) = true)) ∧ (Tr ((decide ((0 : Int) < (ml3_1_a.length : Int))) = true)) ∧ (Tr ((decide ((0 : Int) < (ml3_1_a.length : Int))) = true)) ∧ ((decide ((0 : Int) < (ml3_1_a.length : Int))) = true → InR (((ml3_1_a.length : Int) : Int) - 1)) ∧ (Tr ((decide ((0 : Int) < (ml3_1_a.length : Int))) = true)) ∧ (Tr ((decide ((0 : Int) < (ml3_1_a.length : Int))) = true)) ∧ ((decide ((0 : Int) < (ml3_1_a.length : Int))) = true → (0 : Int) ≤ (((ml3_1_a.length : Int) : Int) - 1) ∧ (((ml3_1_a.length : Int) : Int) - 1) < (ml3_1_a.length : Int)) ∧ (Tr ((decide ((0 : Int) < (ml3_1_a.length : Int))) = true)) ∧ (Tr ((decide ((0 : Int) < (ml3_1_a.length : Int))) = true)) ∧ ((Tr ((decide ((0 : Int) < (ml3_1_a.length : Int))) = true))) ∧ (((bif (decide ((0 : Int) < (ml3_1_a.length : Int))) then (((List.getD ml3_1_a (Int.toNat (((ml3_1_a.length : Int) : Int) - 1)) (0 : Int)) : Int) == 0) else false) = true → (InR (((ml3_1_a.length : Int) : Int) - 1)) ∧ ((0 : Int) ≤ (((ml3_1_a.length : Int) : Int) - 1) ∧ (((ml3_1_a.length : Int) : Int) - 1) ≤ (ml3_1_a.length : Int)) ∧ (N1 (head71_1 t ml3_2 (List.take (Int.toNat (((ml3_1_a.length : Int) : Int) - 1)) ml3_1_a)))) ∧ ((bif (decide ((0 : Int) < (ml3_1_a.length : Int))) then (((List.getD ml3_1_a (Int.toNat (((ml3_1_a.length : Int) : Int) - 1)) (0 : Int)) : Int) == 0) else false) = false → LoopWp (A71 N [1, 1, 1, 1, 0, 1, 0, 1, 0, 0]) (head71_2 t ml3_1_a ml3_2) (AExit.inBlock 4 (S71 N [1, 1, 1, 1, 1] Q))))) :
    A71 N [1, 1, 1, 1, 0, 1, 0, 0, 0, 0] (head71_1 t ml3_2 ml3_1_a) (AExit.then N1 (AExit.inBlock 2 (S71 N [1, 1, 1, 1, 0, 1, 0, 1] (S71 N [1, 1, 1, 1, 1] Q)))) :=
  Eq.mpr (by kernel_rfl) h
theorem vc71_l2 (N : Nat) (t : Tree) (ml3_1_a : List Int) (ml3_2_b : List Tree) (N2 : LSt U → Prop) (Q : AExit → LSt U → Prop) (h : (Tr ((decide ((0 : Int) < (ml3_2_b.length : Int))) = true)) ∧ (Tr ((decide ((0 : Int) < (ml3_2_b.length : Int))) = true)) ∧ (Tr ((decide ((0 : Int) < (ml3_2_b.length : Int))) = true)) ∧ (Tr ((decide ((0 : Int) < (ml3_2_b.length : Int))) = true)) ∧ ((decide ((0 : Int) < (ml3_2_b.length : Int))) = true → InR (((ml3_2_b.length : Int) : Int) - 1)) ∧ (Tr ((decide ((0 : Int) < (ml3_2_b.length : Int))) = true)) ∧ (Tr ((decide ((0 : Int) < (ml3_2_b.length : Int))) = true)) ∧ ((decide ((0 : Int) < (ml3_2_b.length : Int))) = true → (0 : Int) ≤ (((ml3_2_b.length : Int) : Int) - 1) ∧ (((ml3_2_b.length : Int) : Int) - 1) < (ml3_2_b.length : Int)) ∧ (Tr ((decide ((0 : Int) < (ml3_2_b.length : Int))) = true)) ∧ (Tr ((decide ((0 : Int) < (ml3_2_b.length : Int))) = true)) ∧ (Tr ((decide ((0 : Int) < (ml3_2_b.length : Int))) = true)) ∧ ((Tr ((decide ((0 : Int) < (ml3_2_b.length : Int))) = true))) ∧ (((bif (decide ((0 : Int) < (ml3_2_b.length : Int))) then (((Tree.kind (List.getD ml3_2_b (Int.toNat (((ml3_2_b.length : Int) : Int) - 1)) Tree.nil)) : Int) == 0) else false) = true → (InR (((ml3_2_b.length : Int) : Int) - 1)) ∧ ((0 : Int) ≤ (((ml3_2_b.length : Int) : Int) - 1) ∧ (((ml3_2_b.length : Int) : Int) - 1) ≤ (ml3_2_b.length : Int)) ∧ (N2 (head71_2 t ml3_1_a (List.take (Int.toNat (((ml3_2_b.length : Int) : Int) - 1)) ml3_2_b)))) ∧ ((bif (decide ((0 : Int) < (ml3_2_b.length : Int))) then (((Tree.kind (List.getD ml3_2_b (Int.toNat (((ml3_2_b.length : Int) : Int) - 1)) Tree.nil)) : Int) == 0) else false) = false → (Q .ret (⟨[(2, .ptr (.loc 2) 0)], [((.loc 2), [.int .i64 (Tree.kind t), .slice (U := U) .u64 ml3_1_a .unk, .slice (U := U) .tree ml3_2_b .unk])], []⟩ : LSt U))))) :
    A71 N [1, 1, 1, 1, 0, 1, 0, 1, 0, 0] (head71_2 t ml3_1_a ml3_2_b) (AExit.then N2 (AExit.inBlock 4 (S71 N [1, 1, 1, 1, 1] Q))) :=
  Eq.mpr (by kernel_rfl) h
def Body71 (N : Nat) (t : Tree)  : Prop := awp cfg (know (know71 N)) (drawOk cfg (know (know71 N))) Try.f71.ntmps lv71 (cd Try.f71 []) (entry (args71.can (t, ())) []) (EndsQ cfg Try.f71.ntmps Try.f71.results.toList (res71 (t, ())) [])
theorem make71 (c109 : Contract Try.prog cfg 109 spec109) (hb : ∀ (N : Nat) (t : Tree) (_ : Unit), pre71 (t, ()) → mu71 (t, ()) < N + 1 → Body71 N t) : Contract Try.prog cfg 71 spec71 :=
  contract_rec (μ := mu71) (l := [(109, spec109)]) cfgOk rfl (⟨c109, trivial⟩) lv71 Try.func71 rfl rfl 1 (fun _ => rfl) (by decide) (fun N ⟨t, _⟩ => hb N t ())
noncomputable def know106 (N : Nat) : List (FuncId × Fs U) := (106, fs args106 (fun a => [pre106 a, mu106 a < N]) res106) :: [(148, spec148), (149, spec149), (91, spec91)]
def lv106 : Lives U := fun i => match i with
  | 0 => ([(2, []), (3, [])], [((.loc 2), []), ((.loc 3), [])])
  | 1 => ([(2, []), (3, []), (16, [])], [((.loc 2), []), ((.loc 3), [])])
  | 2 => ([(4, [])], [])
  | 3 => ([(2, []), (3, []), (41, [])], [((.loc 2), []), ((.loc 3), [])])
  | 4 => ([(4, [])], [])
  | 5 => ([(2, []), (3, []), (48, []), (49, [])], [((.loc 2), []), ((.loc 3), [])])
  | 6 => ([(2, []), (3, []), (48, []), (49, []), (50, [])], [((.loc 2), []), ((.loc 3), [])])
  | 7 => ([(2, []), (3, []), (5, []), (48, []), (49, [])], [((.loc 2), []), ((.loc 3), [])])
  | 8 => ([(2, []), (3, []), (48, []), (49, []), (58, [])], [((.loc 2), []), ((.loc 3), [])])
  | 9 => ([(4, [])], [])
  | 10 => ([(2, []), (3, []), (48, []), (49, [])], [((.loc 2), []), ((.loc 3), [])])
  | 11 => ([(2, []), (3, []), (66, []), (67, [])], [((.loc 2), []), ((.loc 3), [])])
  | 12 => ([(2, []), (3, []), (66, []), (67, []), (68, [])], [((.loc 2), []), ((.loc 3), [])])
  | 13 => ([(2, []), (3, []), (6, []), (66, []), (67, [])], [((.loc 2), []), ((.loc 3), [])])
  | 14 => ([(2, []), (3, []), (66, []), (67, []), (77, [])], [((.loc 2), []), ((.loc 3), [])])
  | 15 => ([(4, [])], [])
  | 16 => ([(2, []), (3, []), (66, []), (67, [])], [((.loc 2), []), ((.loc 3), [])])
  | 17 => ([(4, [])], [])
  | _ => ([], [])
noncomputable def head106_0 (a : Tree) (b : Tree) (x49 : Int) : LSt U := (⟨[(2, .ptr (.loc 2) 0), (3, .ptr (.loc 3) 0), (48, .c (.int .i64 (if (((Tree.words a).length : Int) : Int) < ((Tree.words b).length : Int) then ((Tree.words b).length : Int) else ((Tree.words a).length : Int)))), (49, .c (.int .i64 x49))], [((.loc 2), [.int .i64 (Tree.kind a), .slice (U := U) .u64 (Tree.words a) .unk, .slice (U := U) .tree (Tree.kids a) .unk]), ((.loc 3), [.int .i64 (Tree.kind b), .slice (U := U) .u64 (Tree.words b) .unk, .slice (U := U) .tree (Tree.kids b) .unk])], []⟩ : LSt U)
noncomputable def head106_1 (a : Tree) (b : Tree) (x67_a : Int) : LSt U := (⟨[(2, .ptr (.loc 2) 0), (3, .ptr (.loc 3) 0), (66, .c (.int .i64 (if (((Tree.kids a).length : Int) : Int) < ((Tree.kids b).length : Int) then ((Tree.kids b).length : Int) else ((Tree.kids a).length : Int)))), (67, .c (.int .i64 x67_a))], [((.loc 2), [.int .i64 (Tree.kind a), .slice (U := U) .u64 (Tree.words a) .unk, .slice (U := U) .tree (Tree.kids a) .unk]), ((.loc 3), [.int .i64 (Tree.kind b), .slice (U := U) .u64 (Tree.words b) .unk, .slice (U := U) .tree (Tree.kids b) .unk])], []⟩ : LSt U)
noncomputable abbrev A106 (N : Nat) (p : List Nat) := awp cfg (know (know106 N)) (drawOk cfg (know (know106 N))) Try.f106.ntmps lv106 (cd Try.f106 p)
noncomputable abbrev S106 (N : Nat) (p : List Nat) := seqK cfg (know (know106 N)) (drawOk cfg (know (know106 N))) Try.f106.ntmps lv106 (cd Try.f106 p)
theorem vc106 (N : Nat) (a : Tree) (b : Tree) (Q : AExit → LSt U → Prop) (h : ((Tr ((!(((Tree.kind a) : Int) != (Tree.kind b))) = true)) ∧ (Tr ((!(((Tree.kind a) : Int) != (Tree.kind b))) = true)) ∧ (((((Tree.kind a) : Int) != (Tree.kind b)) = false → (!(((Tree.kind a) : Int) != (Tree.kind b))) = true)) ∧ (((bif (((Tree.kind a) : Int) != (Tree.kind b)) then true else (((Tree.kind a) : Int) == 0)) = true → (Q .ret (⟨[(4, .c (.bool (((Tree.kind a) : Int) == (Tree.kind b))))], [], []⟩ : LSt U))) ∧ ((bif (((Tree.kind a) : Int) != (Tree.kind b)) then true else (((Tree.kind a) : Int) == 0)) = false → (Tr ((((Tree.kind a) : Int) != 1) = true)) ∧ (Tr ((((Tree.kind a) : Int) != 1) = true)) ∧ (Tr ((((Tree.kind a) : Int) != 1) = true)) ∧ (Tr ((((Tree.kind a) : Int) != 1) = true)) ∧ (Tr ((((Tree.kind a) : Int) != 1) = true)) ∧ (Tr ((((Tree.kind a) : Int) != 1) = true)) ∧ (Tr ((((Tree.kind a) : Int) != 1) = true)) ∧ (Tr (((((Tree.kind a) : Int) != 1) && (!((((Tree.kids a).length : Int) : Int) != ((Tree.kids b).length : Int)))) = true)) ∧ (Tr (((((Tree.kind a) : Int) != 1) && (!((((Tree.kids a).length : Int) : Int) != ((Tree.kids b).length : Int)))) = true)) ∧ (Tr (((((Tree.kind a) : Int) != 1) && (!((((Tree.kids a).length : Int) : Int) != ((Tree.kids b).length : Int)))) = true)) ∧ (Tr (((((Tree.kind a) : Int) != 1) && (!((((Tree.kids a).length : Int) : Int) != ((Tree.kids b).length : Int)))) = true)) ∧ (((((Tree.kind a) : Int) != 1) && (!((((Tree.kids a).length : Int) : Int) != ((Tree.kids b).length : Int)))) = true → pre148 ((Tree.words a), (Tree.words b), ())) ∧ (Tr (((((Tree.kind a) : Int) != 1) && (!((((Tree.kids a).length : Int) : Int) != ((Tree.kids b).length : Int)))) = true)) ∧ ((((Tree.kind a) : Int) != 1) = true → (True → (((Tree.kind a) : Int) != 1) = true)) ∧ ((((Tree.kind a) : Int) != 1) = true → (((((Tree.kids a).length : Int) : Int) != ((Tree.kids b).length : Int)) = false → ((((Tree.kind a) : Int) != 1) && (!((((Tree.kids a).length : Int) : Int) != ((Tree.kids b).length : Int)))) = true)) ∧ ((Tr ((((Tree.kind a) : Int) != 1) = true))) ∧ (((bif (((Tree.kind a) : Int) != 1) then (bif ((((Tree.kids a).length : Int) : Int) != ((Tree.kids b).length : Int)) then true else (!(decide ((Tree.words a) = (Tree.words b))))) else false) = true → (Q .ret (⟨[(4, .c (.bool false))], [], []⟩ : LSt U))) ∧ ((bif (((Tree.kind a) : Int) != 1) then (bif ((((Tree.kids a).length : Int) : Int) != ((Tree.kids b).length : Int)) then true else (!(decide ((Tree.words a) = (Tree.words b))))) else false) = false → (LoopWp (A106 N [1, 1, 1, 0, 1, 0, 0]) (head106_0 a b 0) (AExit.inBlock 0 (S106 N [1, 1, 1, 1] Q))))))))) :
    A106 N [] (⟨[(0, .agg [.int .i64 (Tree.kind a), .slice (U := U) .u64 (Tree.words a) .unk, .slice (U := U) .tree (Tree.kids a) .unk]), (1, .agg [.int .i64 (Tree.kind b), .slice (U := U) .u64 (Tree.words b) .unk, .slice (U := U) .tree (Tree.kids b) .unk])], [], []⟩ : LSt U) Q :=
  Eq.mpr (by kernel_rfl) h
theorem vc106_l0 (N : Nat) (a : Tree) (b : Tree) (x49 : Int) (N0 : LSt U → Prop) (Q : AExit → LSt U → Prop) (h : (((decide ((x49 : Int) < (if (((Tree.words a).length : Int) : Int) < ((Tree.words b).length : Int) then ((Tree.words b).length : Int) else ((Tree.words a).length : Int)))) = true → ((pre149 ((Tree.mk (Tree.kind a) (Tree.words a) (Tree.kids a)), x49, ())) ∧ (pre149 ((Tree.mk (Tree.kind b) (Tree.words b) (Tree.kids b)), x49, ())) ∧ (((((wordAt (Tree.mk (Tree.kind a) (Tree.words a) (Tree.kids a)) x49) : Int) != (wordAt (Tree.mk (Tree.kind b) (Tree.words b) (Tree.kids b)) x49)) = true → (Q .ret (⟨[(4, .c (.bool false))], [], []⟩ : LSt U))) ∧ ((((wordAt (Tree.mk (Tree.kind a) (Tree.words a) (Tree.kids a)) x49) : Int) != (wordAt (Tree.mk (Tree.kind b) (Tree.words b) (Tree.kids b)) x49)) = false → (InR ((x49 : Int) + 1)) ∧ (N0 (head106_0 a b ((x49 : Int) + 1))))))) ∧ ((decide ((x49 : Int) < (if (((Tree.words a).length : Int) : Int) < ((Tree.words b).length : Int) then ((Tree.words b).length : Int) else ((Tree.words a).length : Int)))) = false → (LoopWp (A106 N [1, 1, 1, 1, 0, 1, 0, 0]) (head106_1 a b 0) (AExit.inBlock 2 (S106 N [1, 1, 1, 1, 1] Q)))))) :
    A106 N [1, 1, 1, 0, 1, 0, 0] (head106_0 a b x49) (AExit.then N0 (AExit.inBlock 0 (S106 N [1, 1, 1, 1] Q))) :=
  Eq.mpr (by kernel_rfl) h
theorem vc106_l1 (N : Nat) (a : Tree) (b : Tree) (x67_a : Int) (N1 : LSt U → Prop) (Q : AExit → LSt U → Prop) (h : ∀ y_1, y_1 = (a) → ∀ y_2, y_2 = (b) → ∀ y_3, y_3 = ((kidAt y_1 x67_a)) → ∀ y_4, y_4 = ((kidAt y_2 x67_a)) → (((decide ((x67_a : Int) < (if (((Tree.kids a).length : Int) : Int) < ((Tree.kids b).length : Int) then ((Tree.kids b).length : Int) else ((Tree.kids a).length : Int)))) = true → ((pre91 (y_1, x67_a, ())) ∧ (pre91 (y_2, x67_a, ())) ∧ (pre106 (y_3, y_4, ())) ∧ (mu106 (y_3, y_4, ()) < N) ∧ (((!(sameT (normT y_3) (normT y_4))) = true → (Q .ret (⟨[(4, .c (.bool false))], [], []⟩ : LSt U))) ∧ ((!(sameT (normT y_3) (normT y_4))) = false → (InR ((x67_a : Int) + 1)) ∧ (N1 (head106_1 a b ((x67_a : Int) + 1))))))) ∧ ((decide ((x67_a : Int) < (if (((Tree.kids a).length : Int) : Int) < ((Tree.kids b).length : Int) then ((Tree.kids b).length : Int) else ((Tree.kids a).length : Int)))) = false → (Q .ret (⟨[(4, .c (.bool true))], [], []⟩ : LSt U))))) :
    A106 N [1, 1, 1, 1, 0, 1, 0, 0] (head106_1 a b x67_a) (AExit.then N1 (AExit.inBlock 2 (S106 N [1, 1, 1, 1, 1] Q))) :=
  Eq.mpr (by kernel_rfl) (h _ (reTree_eq _) _ (reTree_eq _) _ (reTree_eq _) _ (reTree_eq _))
def Body106 (N : Nat) (a : Tree) (b : Tree)  : Prop := awp cfg (know (know106 N)) (drawOk cfg (know (know106 N))) Try.f106.ntmps lv106 (cd Try.f106 []) (entry (args106.can (a, b, ())) []) (EndsQ cfg Try.f106.ntmps Try.f106.results.toList (res106 (a, b, ())) [])
theorem make106 (c148 : Contract Try.prog cfg 148 spec148) (c149 : Contract Try.prog cfg 149 spec149) (c91 : Contract Try.prog cfg 91 spec91) (hb : ∀ (N : Nat) (a : Tree) (b : Tree) (_ : Unit), pre106 (a, b, ()) → mu106 (a, b, ()) < N + 1 → Body106 N a b) : Contract Try.prog cfg 106 spec106 :=
  contract_rec (μ := mu106) (l := [(148, spec148), (149, spec149), (91, spec91)]) cfgOk rfl (⟨c148, c149, c91, trivial⟩) lv106 Try.func106 rfl rfl 2 (fun _ => rfl) (by decide) (fun N ⟨a, b, _⟩ => hb N a b ())
end Go.AM.Ytpjenobkibfpcaa

namespace Go.AM.Ytpjenobkibfpcaa
open Go.AM Go.Proofs
theorem vcU : (∀ {p q : Prop}, (p → q → p ∧ q) = True) ∧ (∀ {p : Prop}, (True ∧ p) = p) ∧ (∀ {p : Prop}, (p ∧ True) = p) ∧ (∀ {p : Prop}, (p → True) = True) :=
  ⟨by intros; simp +contextual, by simp, by simp, by simp⟩
theorem massK_get : ∀ {ks : List Tree} {i : Nat}, i < ks.length → mass (ks.getD i Tree.nil) ≤ massK ks
  | t :: _, 0, _ => by simp only [massK, List.getD_cons_zero]; omega
  | t :: r, i + 1, h => by
    have := massK_get (ks := r) (i := i) (by simpa using h)
    simp only [massK, List.getD_cons_succ]
    omega
theorem c109 : Contract Try.prog cfg 109 spec109 := by
  refine make109 ?_
  intro l _ hp
  refine vc109 _ _ ?_; (try simp only [vcT, forall_eq])
  simp only [pre109] at hp
  refine ⟨fun h => ?_, ⟨by simp only [List.length_nil]; omega, ?_⟩⟩
  · subst h
    exact ⟨⟨rfl, ⟨rfl, trivial⟩, trivial⟩, trivial⟩
  · exact ⟨⟨rfl, ⟨⟨rfl, trivial⟩, trivial⟩, trivial⟩, trivial⟩
theorem drop_eq {a b : List Int} {i : Int} (hi : 0 ≤ i) (ha : i < a.length) (hb : i < b.length) : (a.drop i.toNat = b.drop i.toNat) ↔ (a.getD i.toNat 0 = b.getD i.toNat 0 ∧ a.drop (i + 1).toNat = b.drop (i + 1).toNat) := by
  have e : (i + 1).toNat = i.toNat + 1 := by omega
  rw [List.drop_eq_getElem_cons (by omega), List.drop_eq_getElem_cons (l := b) (by omega), e]
  simp only [List.cons.injEq, List.getD, List.getElem?_eq_getElem (show i.toNat < a.length by omega), List.getElem?_eq_getElem (show i.toNat < b.length by omega), Option.getD_some]
theorem c149 : Contract Try.prog cfg 149 spec149 := by
  refine make149 ?_
  intro t i _ hp
  refine vc149 _ _ _ ?_; (try simp only [vcT, forall_eq])
  (simp only [vcS]); (try simp only [vcT])
  (repeat (refine And.intro (by first | omega | (unfold InR; omega) | (dsimp only; omega)) ?_))
  refine ⟨fun hc => ?_, fun hc => ⟨by omega, ?_⟩⟩
  · have e : wordAt t i = 0 := by
      unfold wordAt
      split
      · rfl
      · rw [List.getD, List.getElem?_eq_none (by omega)]
        rfl
    simp only [res149, e]
    exact ⟨⟨rfl, ⟨⟨rfl, rfl⟩, trivial⟩, trivial⟩, trivial⟩
  · have e : wordAt t i = t.words.getD i.toNat 0 := by
      unfold wordAt
      rw [if_neg (by omega)]
    simp only [res149, e]
    exact ⟨⟨rfl, ⟨⟨rfl, rfl⟩, trivial⟩, trivial⟩, trivial⟩
theorem c91 : Contract Try.prog cfg 91 spec91 := by
  refine make91 ?_
  intro t i _ hp
  refine vc91 _ _ _ ?_; (try simp only [vcT, forall_eq])
  (simp only [vcS]); (try simp only [vcT])
  (repeat (refine And.intro (by first | omega | (unfold InR; omega) | (dsimp only; omega)) ?_))
  refine ⟨fun hc => ?_, fun hc => ⟨by omega, ?_⟩⟩
  · have e : kidAt t i = Tree.nil := by
      unfold kidAt
      split
      · rfl
      · rw [List.getD, List.getElem?_eq_none (by omega)]
        rfl
    simp only [res91, e]
    exact ⟨⟨rfl, ⟨⟨rfl, rfl⟩, ⟨rfl, ⟨rfl, trivial⟩⟩⟩, trivial⟩, trivial⟩
  · have e : kidAt t i = t.kids.getD i.toNat Tree.nil := by
      unfold kidAt
      rw [if_neg (by omega)]
    simp only [res91, e]
    exact ⟨⟨rfl, ⟨⟨rfl, rfl⟩, ⟨rfl, trivial⟩, ⟨rfl, trivial⟩, trivial⟩, trivial⟩, trivial⟩
theorem c148 : Contract Try.prog cfg 148 spec148 := by
  refine make148 ?_
  intro a b _ hp
  simp only [pre148] at hp
  refine vc148 _ _ _ ?_; (try simp only [vcT, forall_eq])
  (simp only [vcS]); (try simp only [vcT])
  refine ⟨fun hc => ?_, fun hc => ?_⟩
  · have e : decide (a = b) = false := by
      simp only [decide_eq_false_iff_not]
      rintro rfl
      omega
    simp only [res148, e]
    exact ⟨⟨rfl, ⟨rfl, trivial⟩, trivial⟩, trivial⟩
  · have hl : a.length = b.length := by omega
    refine loop_rule (ι := Int) (fun p => head148_0 a b p) (fun p => 0 ≤ p ∧ p ≤ a.length ∧ (a = b ↔ a.drop p.toNat = b.drop p.toNat)) (fun p => ((a.length : Int) - p).toNat) 0 rfl ⟨by omega, by omega, by simp⟩ ?_
    rintro i ⟨h1, h2, h3⟩
    refine vc148_l0 _ _ _ _ _ ?_; (try simp only [vcT, forall_eq])
    (simp only [vcS]); (try simp only [vcT])
    refine ⟨fun hc => ⟨by omega, by omega, fun hn => ?_, fun he => ⟨by unfold InR; omega, i + 1, rfl, ⟨by omega, by omega, ?_⟩, by omega⟩⟩, fun hc => ?_⟩
    · have e : decide (a = b) = false := by
        simp only [decide_eq_false_iff_not, h3]
        rw [drop_eq h1 hc (by omega)]
        exact fun h => hn h.1
      simp only [res148, e]
      exact ⟨⟨rfl, ⟨rfl, trivial⟩, trivial⟩, trivial⟩
    · rw [h3, drop_eq h1 hc (by omega)]
      exact ⟨fun h => h.2, fun h => ⟨by simpa using he, h⟩⟩
    · have e : decide (a = b) = true := by
        simp only [decide_eq_true_eq, h3]
        rw [List.drop_eq_nil_of_le (by omega), List.drop_eq_nil_of_le (by omega)]
      simp only [res148, e]
      exact ⟨⟨rfl, ⟨rfl, trivial⟩, trivial⟩, trivial⟩
theorem sameT_true {a b : Tree} : sameT a b = true ↔ a = b := by simp [sameT]
theorem sameT_false {a b : Tree} : sameT a b = false ↔ ¬ a = b := by simp [sameT]
theorem massK_len : ∀ (ks : List Tree), ks.length ≤ massK ks
  | [] => by simp [massK]
  | t :: r => by
    have := massK_len r
    have : 1 ≤ mass t := by cases t; simp only [mass]; omega
    simp only [massK, List.length_cons]
    omega
theorem trim_zero : ∀ (l : List Int), trim (l ++ [0]) = trim l
  | [] => rfl
  | x :: r => by
    show (match trim (r ++ [0]) with | [] => if x = 0 then [] else [x] | y :: s => x :: y :: s) = _
    rw [trim_zero r]
    rfl
theorem trim_ne {x : Int} (hx : x ≠ 0) : ∀ (l : List Int), trim (l ++ [x]) = l ++ [x]
  | [] => by simp [trim, hx]
  | y :: r => by
    show (match trim (r ++ [x]) with | [] => if y = 0 then [] else [y] | z :: s => y :: z :: s) = _
    rw [trim_ne hx r]
    cases r <;> rfl
theorem take_last {l : List Int} {i : Int} (h0 : 0 < i) (hi : i ≤ l.length) : l.take i.toNat = l.take (i - 1).toNat ++ [l.getD (i - 1).toNat 0] := by
  have e : i.toNat = (i - 1).toNat + 1 := by omega
  rw [e, List.take_add_one]
  simp only [List.getD, List.getElem?_eq_getElem (show (i - 1).toNat < l.length by omega), Option.toList, Option.getD_some]
theorem trim_len : ∀ (l : List Int), (trim l).length ≤ l.length
  | [] => by simp [trim]
  | x :: r => by
    have := trim_len r
    simp only [trim]
    split
    · split <;> simp
    · rename_i h
      rw [h] at this
      simp at *
      omega
theorem trimK_mass : ∀ (l : List Tree), massK (trimK l) ≤ massK l
  | [] => by simp [trimK]
  | x :: r => by
    have := trimK_mass r
    simp only [trimK]
    split
    · split
      · simp [massK]
      · simp [massK]
    · rename_i h
      rw [h] at this
      simp only [massK] at *
      omega
mutual
theorem normT_mass : ∀ (t : Tree), mass (normT t) ≤ mass t
  | .mk k w ks => by
    have h1 := normK_mass ks
    have h2 := trim_len w
    have h3 := trimK_mass (normK ks)
    simp only [normT]
    split
    · simp only [Tree.nil, mass, massK, List.length_nil]; omega
    · split
      · simp only [mass]; omega
      · simp only [mass]; omega
theorem normK_mass : ∀ (ks : List Tree), massK (normK ks) ≤ massK ks
  | [] => by simp [normK]
  | t :: r => by
    have h1 := normT_mass t
    have h2 := normK_mass r
    simp only [normK, massK]
    omega
end
theorem normK_app : ∀ (l : List Tree) (x : Tree), normK (l ++ [x]) = normK l ++ [normT x]
  | [], x => rfl
  | y :: r, x => by simp only [List.cons_append, normK, normK_app r x]
theorem normK_len : ∀ (l : List Tree), (normK l).length = l.length
  | [] => rfl
  | y :: r => by simp only [normK, List.length_cons, normK_len r]
theorem trimK_zero {x : Tree} (hx : x.kind = 0) : ∀ (l : List Tree), trimK (l ++ [x]) = trimK l
  | [] => by simp [trimK, hx]
  | y :: r => by
    show (match trimK (r ++ [x]) with | [] => if y.kind = 0 then [] else [y] | z :: s => y :: z :: s) = _
    rw [trimK_zero hx r]
    rfl
theorem trimK_ne {x : Tree} (hx : x.kind ≠ 0) : ∀ (l : List Tree), trimK (l ++ [x]) = l ++ [x]
  | [] => by simp [trimK, hx]
  | y :: r => by
    show (match trimK (r ++ [x]) with | [] => if y.kind = 0 then [] else [y] | z :: s => y :: z :: s) = _
    rw [trimK_ne hx r]
    cases r <;> rfl
theorem takeT_next {l : List Tree} {i : Int} (h0 : 0 ≤ i) (hi : i < l.length) : l.take (i + 1).toNat = l.take i.toNat ++ [l.getD i.toNat Tree.nil] := by
  have e : (i + 1).toNat = i.toNat + 1 := by omega
  rw [e, List.take_add_one]
  simp only [List.getD, List.getElem?_eq_getElem (show i.toNat < l.length by omega), Option.toList, Option.getD_some]
theorem last_eq {l : List Int} (h0 : 0 < (l.length : Int)) : l = l.take ((l.length : Int) - 1).toNat ++ [l.getD ((l.length : Int) - 1).toNat 0] := by
  have := take_last h0 (Int.le_refl _)
  rw [List.take_of_length_le (by omega)] at this
  exact this
theorem lastT_eq {l : List Tree} (h0 : 0 < (l.length : Int)) : l = l.take ((l.length : Int) - 1).toNat ++ [l.getD ((l.length : Int) - 1).toNat Tree.nil] := by
  have := takeT_next (l := l) (i := (l.length : Int) - 1) (by omega) (by omega)
  rw [List.take_of_length_le (by omega)] at this
  exact this
theorem trim_step {l : List Int} (h0 : 0 < (l.length : Int)) (hz : l.getD ((l.length : Int) - 1).toNat 0 = 0) : trim (l.take ((l.length : Int) - 1).toNat) = trim l := by
  have e := trim_zero (l.take ((l.length : Int) - 1).toNat)
  have h := last_eq h0
  rw [hz] at h
  rw [← h] at e
  exact e.symm
theorem trim_done {l : List Int} (h : ¬ 0 < (l.length : Int) ∨ ¬ l.getD ((l.length : Int) - 1).toNat 0 = 0) : trim l = l := by
  by_cases h0 : 0 < (l.length : Int)
  · have e := trim_ne (x := l.getD ((l.length : Int) - 1).toNat 0) (by rcases h with h | h; exact absurd h0 h; exact h) (l.take ((l.length : Int) - 1).toNat)
    rw [← last_eq h0] at e
    exact e
  · have : l = [] := List.eq_nil_of_length_eq_zero (by omega)
    subst this
    rfl
theorem trimK_step {l : List Tree} (h0 : 0 < (l.length : Int)) (hz : (l.getD ((l.length : Int) - 1).toNat Tree.nil).kind = 0) : trimK (l.take ((l.length : Int) - 1).toNat) = trimK l := by
  have e := trimK_zero hz (l.take ((l.length : Int) - 1).toNat)
  rw [← lastT_eq h0] at e
  exact e.symm
theorem trimK_done {l : List Tree} (h : ¬ 0 < (l.length : Int) ∨ ¬ (l.getD ((l.length : Int) - 1).toNat Tree.nil).kind = 0) : trimK l = l := by
  by_cases h0 : 0 < (l.length : Int)
  · have e := trimK_ne (x := l.getD ((l.length : Int) - 1).toNat Tree.nil) (by rcases h with h | h; exact absurd h0 h; exact h) (l.take ((l.length : Int) - 1).toNat)
    rw [← lastT_eq h0] at e
    exact e
  · have : l = [] := List.eq_nil_of_length_eq_zero (by omega)
    subst this
    rfl
theorem c71 : Contract Try.prog cfg 71 spec71 := by
  refine make71 c109 ?_
  rintro N ⟨k, ws, ks⟩ _ hp hN
  have hlen := massK_len ks
  simp only [pre71, mu71, mass] at hp hN
  refine vc71 N _ _ ?_; (try simp only [vcT, forall_eq])
  (simp only [vcS]); (try simp only [vcT])
  try (simp only [Tree.eta, Edit.eta, Tree.kind_mk, Tree.words_mk, Tree.kids_mk])
  refine ⟨fun hc => ?_, fun hc0 => ⟨by simp only [pre109]; omega, ?_⟩⟩
  · have e : normT (.mk k ws ks) = Tree.nil := by simp [normT, hc]
    simp only [res71, e]
    exact ⟨⟨rfl, ⟨⟨rfl, rfl⟩, ⟨rfl, ⟨rfl, trivial⟩⟩⟩, trivial⟩, trivial⟩
  · refine loop_rule (ι := Int × List Tree) (fun p => head71_0 (.mk k ws ks) p.1 p.2) (fun p => 0 ≤ p.1 ∧ p.1 ≤ ks.length ∧ p.2 = normK (ks.take p.1.toNat)) (fun p => ((ks.length : Int) - p.1).toNat) (0, []) rfl ⟨by dsimp only; omega, by dsimp only; omega, rfl⟩ ?_
    rintro ⟨i, l⟩ ⟨h1, h2, h5⟩
    dsimp only at *
    have hl : l.length = i.toNat := by rw [h5, normK_len, List.length_take]; omega
    refine vc71_l0 N _ _ _ _ _ ?_; (try simp only [vcT, forall_eq])
    (simp only [vcS]); (try simp only [vcT])
    try (simp only [Tree.eta, Edit.eta, Tree.kind_mk, Tree.words_mk, Tree.kids_mk])
    refine ⟨fun hc => ?_, fun hc => ⟨fun hk => ?_, fun hk => ?_⟩⟩
    · have hm := massK_get (ks := ks) (i := i.toNat) (by omega)
      have hnx : normK (ks.take (i + 1).toNat) = l ++ [normT (ks.getD i.toNat Tree.nil)] := by rw [takeT_next h1 hc, normK_app, h5]
      exact ⟨by omega, by simp only [pre71]; omega, by simp only [mu71]; omega, by simp only [List.length_cons, List.length_nil]; omega, by unfold InR; omega, (i + 1, _), rfl, ⟨by dsimp only; omega, by dsimp only; omega, hnx.symm⟩, by dsimp only; omega⟩
    · have hi : ks.take i.toNat = ks := List.take_of_length_le (by omega)
      rw [hi] at h5
      refine loop_rule (ι := List Int) (fun p => head71_1 (.mk k ws ks) l p) (fun p => p.length ≤ ws.length ∧ trim p = trim ws) (fun p => p.length) ws rfl ⟨by omega, rfl⟩ ?_
      rintro w ⟨h6, h7⟩
      refine vc71_l1 N _ _ _ _ _ ?_; (try simp only [vcT, forall_eq])
      (simp only [vcS]); (try simp only [vcT])
      refine ⟨fun h => by unfold InR; omega, fun h => by omega, fun hc => ⟨by unfold InR; omega, by omega, _, rfl, ⟨by rw [List.length_take]; omega, ?_⟩, by rw [List.length_take]; omega⟩, fun hc => ?_⟩
      · rw [trim_step hc.1 hc.2, h7]
      · have hw : w = trim ws := by rw [← h7, trim_done hc]
        refine loop_rule (ι := List Tree) (fun p => head71_2 (.mk k ws ks) w p) (fun p => p.length ≤ l.length ∧ trimK p = trimK l) (fun p => p.length) l rfl ⟨by omega, rfl⟩ ?_
        rintro q ⟨h8, h9⟩
        refine vc71_l2 N _ _ _ _ _ ?_; (try simp only [vcT, forall_eq])
        (simp only [vcS]); (try simp only [vcT])
        refine ⟨fun h => by unfold InR; omega, fun h => by omega, fun hc => ⟨by unfold InR; omega, by omega, _, rfl, ⟨by rw [List.length_take]; omega, ?_⟩, by rw [List.length_take]; omega⟩, fun hc => ?_⟩
        · rw [trimK_step hc.1 hc.2, h9]
        · have hq : q = trimK (normK ks) := by rw [← h5, ← h9, trimK_done hc]
          have e : normT (.mk k ws ks) = .mk k w q := by
            subst hk
            simp only [normT, hw, hq]
            rfl
          simp only [res71, e]
          exact ⟨⟨rfl, ⟨⟨rfl, rfl⟩, ⟨rfl, trivial⟩, ⟨rfl, trivial⟩, trivial⟩, trivial⟩, trivial⟩
    · have hi : ks.take i.toNat = ks := List.take_of_length_le (by omega)
      rw [hi] at h5
      have e : normT (.mk k ws ks) = .mk k ws l := by simp only [normT, if_neg hc0, if_neg hk, h5]
      simp only [res71, e]
      exact ⟨⟨rfl, ⟨⟨rfl, rfl⟩, ⟨rfl, trivial⟩, ⟨rfl, trivial⟩, trivial⟩, trivial⟩, trivial⟩
end Go.AM.Ytpjenobkibfpcaa

namespace Go.AM.Ytpjenobkibfpcaa
open Go.AM Go.Proofs
abbrev TrKR07G (p : Prop) : Prop := p → p
noncomputable section
def args116 : ArgL (Int × Unit) := (.cons (aInt .i64) .nil)
def pre116 (a : Int × Unit) : Prop := True
noncomputable def res116 (a : Int × Unit) : V U := .c (.int .i64 (wd a.1))
noncomputable def spec116 : Fs U := fs args116 (fun a => [pre116 a]) res116
def args79 : ArgL (Int × Int × Unit) := (.cons (aInt .i64) (.cons (aInt .u64) .nil))
def pre79 (a : Int × Int × Unit) : Prop := 0 ≤ a.2.1 ∧ a.2.1 < 18446744073709551616
noncomputable def res79 (a : Int × Int × Unit) : V U := .c (.bool (fits a.1 a.2.1))
noncomputable def spec79 : Fs U := fs args79 (fun a => [pre79 a]) res79
def mu117 (a : Tree × Int × Unit) : Nat := mass a.1
def args37 : ArgL (Tree × Int × Unit) := (.cons (aEl .tree) (.cons (aInt .i64) .nil))
def pre37 (a : Tree × Int × Unit) : Prop := mass a.1 ≤ 20000000000 ∧ rng a.1 ∧ 0 ≤ a.2.1 ∧ a.2.1 ≤ 1000
def mu37 (a : Tree × Int × Unit) : Nat := mass a.1
noncomputable def res37 (a : Tree × Int × Unit) : V U := .c (.bool (rightT a.1 a.2.1))
noncomputable def spec37 : Fs U := fs args37 (fun a => [pre37 a]) res37
noncomputable def know116 : List (FuncId × Fs U) := []
def lv116 : Lives U := fun i => match i with
  | 0 => ([(0, [])], [])
  | 1 => ([(3, [])], [])
  | 2 => ([(3, []), (4, [])], [])
  | 3 => ([(2, [])], [])
  | 4 => ([(3, []), (6, [])], [])
  | 5 => ([(2, [])], [])
  | 6 => ([(3, []), (8, [])], [])
  | 7 => ([(2, [])], [])
  | 8 => ([(3, []), (10, [])], [])
  | 9 => ([(2, [])], [])
  | 10 => ([(3, []), (12, [])], [])
  | 11 => ([(2, [])], [])
  | 12 => ([(14, [])], [])
  | 13 => ([(2, [])], [])
  | 14 => ([(2, [])], [])
  | _ => ([], [])
theorem vc116 (c : Int) (Q : AExit → LSt U → Prop) (h : (((c : Int) == 0) = true → Q .ret (⟨[(2, .c (.int .i64 0))], [], []⟩ : LSt U)) ∧ (((c : Int) == 0) = false → (((c : Int) == 1) = true → Q .ret (⟨[(2, .c (.int .i64 1))], [], []⟩ : LSt U)) ∧ (((c : Int) == 1) = false → (((c : Int) == 2) = true → Q .ret (⟨[(2, .c (.int .i64 8))], [], []⟩ : LSt U)) ∧ (((c : Int) == 2) = false → (((c : Int) == 3) = true → Q .ret (⟨[(2, .c (.int .i64 16))], [], []⟩ : LSt U)) ∧ (((c : Int) == 3) = false → (((c : Int) == 4) = true → Q .ret (⟨[(2, .c (.int .i64 32))], [], []⟩ : LSt U)) ∧ (((c : Int) == 4) = false → (((c : Int) == 5) = true → Q .ret (⟨[(2, .c (.int .i64 64))], [], []⟩ : LSt U)) ∧ (((c : Int) == 5) = false → Q .ret (⟨[(2, .c (.int .i64 (-1)))], [], []⟩ : LSt U)))))))) :
    awp cfg (know know116) (drawOk cfg (know know116)) Try.f116.ntmps lv116 (cd Try.f116 []) (⟨[(0, .c (.int .i64 c))], [], []⟩ : LSt U) Q := by
  have e : (awp cfg (know know116) (drawOk cfg (know know116)) Try.f116.ntmps lv116 (cd Try.f116 []) (⟨[(0, .c (.int .i64 c))], [], []⟩ : LSt U) Q) = (((((((c : Int) == 0) = true → (Q .ret (⟨[(2, .c (.int .i64 0))], [], []⟩ : LSt U))) ∧ (((c : Int) == 0) = false → ((((c : Int) == 1) = true → (Q .ret (⟨[(2, .c (.int .i64 1))], [], []⟩ : LSt U))) ∧ (((c : Int) == 1) = false → ((((c : Int) == 2) = true → (Q .ret (⟨[(2, .c (.int .i64 8))], [], []⟩ : LSt U))) ∧ (((c : Int) == 2) = false → ((((c : Int) == 3) = true → (Q .ret (⟨[(2, .c (.int .i64 16))], [], []⟩ : LSt U))) ∧ (((c : Int) == 3) = false → ((((c : Int) == 4) = true → (Q .ret (⟨[(2, .c (.int .i64 32))], [], []⟩ : LSt U))) ∧ (((c : Int) == 4) = false → ((((c : Int) == 5) = true → (Q .ret (⟨[(2, .c (.int .i64 64))], [], []⟩ : LSt U))) ∧ (((c : Int) == 5) = false → (Q .ret (⟨[(2, .c (.int .i64 (-1)))], [], []⟩ : LSt U))))))))))))))))) := by kernel_rfl
  exact e.mpr ⟨fun c_1 => (h.1 c_1), fun c_1 => ⟨fun c_2 => ((h.2 c_1).1 c_2), fun c_2 => ⟨fun c_3 => (((h.2 c_1).2 c_2).1 c_3), fun c_3 => ⟨fun c_4 => ((((h.2 c_1).2 c_2).2 c_3).1 c_4), fun c_4 => ⟨fun c_5 => (((((h.2 c_1).2 c_2).2 c_3).2 c_4).1 c_5), fun c_5 => ⟨fun c_6 => ((((((h.2 c_1).2 c_2).2 c_3).2 c_4).2 c_5).1 c_6), fun c_6 => ((((((h.2 c_1).2 c_2).2 c_3).2 c_4).2 c_5).2 c_6)⟩⟩⟩⟩⟩⟩
def Body116 (c : Int)  : Prop := awp cfg (know (know116)) (drawOk cfg (know (know116))) Try.f116.ntmps lv116 (cd Try.f116 []) (entry (args116.can (c, ())) []) (EndsQ cfg Try.f116.ntmps Try.f116.results.toList (res116 (c, ())) [])
theorem make116 (hb : ∀ (c : Int) (_ : Unit), pre116 (c, ()) → Body116 c) : Contract Try.prog cfg 116 spec116 :=
  contract_flat (l := []) cfgOk rfl (trivial) lv116 Try.func116 rfl rfl 1 (fun _ => rfl) (by decide) (fun ⟨c, _⟩ => hb c ())
noncomputable def know79 : List (FuncId × Fs U) := [(116, spec116)]
def lv79 : Lives U := fun i => match i with
  | 0 => ([(0, []), (1, [])], [])
  | 1 => ([(1, []), (5, [])], [])
  | 2 => ([(1, []), (5, []), (10, [])], [])
  | 3 => ([(4, [])], [])
  | 4 => ([(1, []), (5, []), (6, [])], [])
  | 5 => ([(1, []), (5, []), (6, []), (13, [])], [])
  | 6 => ([(1, []), (5, []), (6, [])], [])
  | 7 => ([(1, []), (5, []), (6, [])], [])
  | 8 => ([(4, [])], [])
  | _ => ([], [])
def head79_0 (c : Int) (n : Int) (x1 : Int) (x6 : Int) : LSt U := (⟨[(1, .c (.int .u64 x1)), (5, .c (.int .i64 (wd c))), (6, .c (.int .i64 x6))], [], []⟩ : LSt U)
abbrev a79_KR07G := awp cfg (know know79) (drawOk cfg (know know79)) Try.f79.ntmps lv79
abbrev s79_KR07G := seqK cfg (know know79) (drawOk cfg (know know79)) Try.f79.ntmps lv79
theorem vc79 (c : Int) (n : Int) (Q : AExit → LSt U → Prop) (h : (pre116 (c, ())) ∧ (((decide (((wd c) : Int) < 0)) = true → Q .ret (⟨[(4, .c (.bool false))], [], []⟩ : LSt U)) ∧ ((decide (((wd c) : Int) < 0)) = false → LoopWp (awp cfg (know know79) (drawOk cfg (know know79)) Try.f79.ntmps lv79 (cd Try.f79 [1, 1, 1, 0, 1, 0, 0])) (head79_0 c n n 0) (AExit.inBlock 0 (seqK cfg (know know79) (drawOk cfg (know know79)) Try.f79.ntmps lv79 (cd Try.f79 [1, 1, 1, 1]) Q))))) :
    awp cfg (know know79) (drawOk cfg (know know79)) Try.f79.ntmps lv79 (cd Try.f79 []) (⟨[(0, .c (.int .i64 c)), (1, .c (.int .u64 n))], [], []⟩ : LSt U) Q := by
  have e : (awp cfg (know know79) (drawOk cfg (know know79)) Try.f79.ntmps lv79 (cd Try.f79 []) (⟨[(0, .c (.int .i64 c)), (1, .c (.int .u64 n))], [], []⟩ : LSt U) Q) = (((pre116 (c, ())) ∧ ((((decide (((wd c) : Int) < 0)) = true → (Q .ret (⟨[(4, .c (.bool false))], [], []⟩ : LSt U))) ∧ ((decide (((wd c) : Int) < 0)) = false → (LoopWp (a79_KR07G (cd Try.f79 [1, 1, 1, 0, 1, 0, 0])) (head79_0 c n n 0) (AExit.inBlock 0 (s79_KR07G (cd Try.f79 [1, 1, 1, 1]) Q)))))))) := by kernel_rfl
  exact e.mpr ⟨h.1, ⟨fun c_7 => (h.2.1 c_7), fun c_7 => (h.2.2 c_7)⟩⟩
theorem vc79_l0 (c : Int) (n : Int) (x1 : Int) (x6 : Int) (N0 : LSt U → Prop) (Q : AExit → LSt U → Prop) (h : ((decide ((x6 : Int) < (wd c))) = true → ((2 : Int) ≠ 0) ∧ ((InR ((x6 : Int) + 1)) ∧ (N0 (head79_0 c n (IntKind.wrap .u64 (Int.tdiv x1 2)) ((x6 : Int) + 1))))) ∧ ((decide ((x6 : Int) < (wd c))) = false → Q .ret (⟨[(4, .c (.bool ((x1 : Int) == 0)))], [], []⟩ : LSt U))) :
    awp cfg (know know79) (drawOk cfg (know know79)) Try.f79.ntmps lv79 (cd Try.f79 [1, 1, 1, 0, 1, 0, 0]) (head79_0 c n x1 x6) (AExit.then N0 (AExit.inBlock 0 (seqK cfg (know know79) (drawOk cfg (know know79)) Try.f79.ntmps lv79 (cd Try.f79 [1, 1, 1, 1]) Q))) := by
  have e : (awp cfg (know know79) (drawOk cfg (know know79)) Try.f79.ntmps lv79 (cd Try.f79 [1, 1, 1, 0, 1, 0, 0]) (head79_0 c n x1 x6) (AExit.then N0 (AExit.inBlock 0 (seqK cfg (know know79) (drawOk cfg (know know79)) Try.f79.ntmps lv79 (cd Try.f79 [1, 1, 1, 1]) Q)))) = ((((decide ((x6 : Int) < (wd c))) = true → ((2 : Int) ≠ 0) ∧ ((InR ((x6 : Int) + 1)) ∧ (N0 (head79_0 c n (IntKind.wrap .u64 (Int.tdiv x1 2)) ((x6 : Int) + 1))))) ∧ ((decide ((x6 : Int) < (wd c))) = false → (Q .ret (⟨[(4, .c (.bool ((x1 : Int) == 0)))], [], []⟩ : LSt U))))) := by kernel_rfl
  exact e.mpr ⟨fun c_8 => ⟨(h.1 c_8).1, ⟨(h.1 c_8).2.1, (h.1 c_8).2.2⟩⟩, fun c_8 => (h.2 c_8)⟩
def Body79 (c : Int) (n : Int)  : Prop := awp cfg (know (know79)) (drawOk cfg (know (know79))) Try.f79.ntmps lv79 (cd Try.f79 []) (entry (args79.can (c, n, ())) []) (EndsQ cfg Try.f79.ntmps Try.f79.results.toList (res79 (c, n, ())) [])
theorem make79 (c116 : Contract Try.prog cfg 116 spec116) (hb : ∀ (c : Int) (n : Int) (_ : Unit), pre79 (c, n, ()) → Body79 c n) : Contract Try.prog cfg 79 spec79 :=
  contract_flat (l := [(116, spec116)]) cfgOk rfl (⟨c116, trivial⟩) lv79 Try.func79 rfl rfl 2 (fun _ => rfl) (by decide) (fun ⟨c, n, _⟩ => hb c n ())
noncomputable def know37 (N : Nat) : List (FuncId × Fs U) := (37, fs args37 (fun a => [pre37 a, mu37 a < N]) res37) :: [(79, spec79)]
def lv37 : Lives U := fun i => match i with
  | 0 => ([(1, []), (2, [])], [((.loc 2), [])])
  | 1 => ([(1, []), (2, []), (10, [])], [((.loc 2), [])])
  | 2 => ([(4, [])], [])
  | 3 => ([(1, []), (2, []), (23, [])], [((.loc 2), [])])
  | 4 => ([(4, [])], [])
  | 5 => ([(1, []), (2, []), (68, [])], [((.loc 2), [])])
  | 6 => ([(4, [])], [])
  | 7 => ([(1, []), (2, []), (77, [])], [((.loc 2), [])])
  | 8 => ([(4, [])], [])
  | 9 => ([(1, []), (2, []), (5, [])], [((.loc 2), [])])
  | 10 => ([(1, []), (2, []), (5, []), (82, [])], [((.loc 2), [])])
  | 11 => ([(1, []), (2, []), (5, [])], [((.loc 2), [])])
  | 12 => ([(1, []), (2, []), (5, []), (6, [])], [((.loc 2), []), ((.loc 6), [])])
  | 13 => ([(1, []), (2, []), (5, []), (6, []), (94, [])], [((.loc 2), []), ((.loc 6), [])])
  | 14 => ([(4, [])], [])
  | 15 => ([(1, []), (2, []), (5, []), (6, []), (7, [])], [((.loc 2), []), ((.loc 6), [])])
  | 16 => ([(1, []), (2, []), (5, []), (131, [])], [((.loc 2), [])])
  | 17 => ([(4, [])], [])
  | 18 => ([(4, [])], [])
  | _ => ([], [])
def head37_0 (t : Tree) (d : Int) (x5 : Int) : LSt U := (⟨[(1, .c (.int .i64 d)), (2, .ptr (.loc 2) 0), (5, .c (.int .i64 x5))], [((.loc 2), [.int .i64 (Tree.kind t), .slice (U := U) .u64 (Tree.words t) .unk, .slice (U := U) .tree (Tree.kids t) .unk])], []⟩ : LSt U)
abbrev a37_KR07G (N : Nat) := awp cfg (know (know37 N)) (drawOk cfg (know (know37 N))) Try.f37.ntmps lv37
abbrev s37_KR07G (N : Nat) := seqK cfg (know (know37 N)) (drawOk cfg (know (know37 N))) Try.f37.ntmps lv37
theorem vc37 (N : Nat) (t : Tree) (d : Int) (Q : AExit → LSt U → Prop) (h : ((((Tree.kind t) : Int) == 0) = true → Q .ret (⟨[(4, .c (.bool (bif ((((Tree.words t).length : Int) : Int) == 0) then ((((Tree.kids t).length : Int) : Int) == 0) else false)))], [], []⟩ : LSt U)) ∧ ((((Tree.kind t) : Int) == 0) = false → ((((Tree.kind t) : Int) == 10) = true → Q .ret (⟨[(4, .c (.bool (bif ((((Tree.words t).length : Int) : Int) == 1) then ((((Tree.kids t).length : Int) : Int) == 0) else false)))], [], []⟩ : LSt U)) ∧ ((((Tree.kind t) : Int) == 10) = false → ((bif (bif (bif (bif (bif (decide (((Tree.kind t) : Int) < 0)) then true else (decide ((10 : Int) < (Tree.kind t)))) then true else ((d : Int) == 0)) then true else (decide ((65536 : Int) ≤ ((Tree.words t).length : Int)))) then true else (bif (((Tree.kind t) : Int) == 1) then (decide ((65536 : Int) ≤ ((Tree.kids t).length : Int))) else false)) then true else (decide ((1048576 : Int) ≤ ((Tree.kids t).length : Int)))) = true → Q .ret (⟨[(4, .c (.bool false))], [], []⟩ : LSt U)) ∧ ((bif (bif (bif (bif (bif (decide (((Tree.kind t) : Int) < 0)) then true else (decide ((10 : Int) < (Tree.kind t)))) then true else ((d : Int) == 0)) then true else (decide ((65536 : Int) ≤ ((Tree.words t).length : Int)))) then true else (bif (((Tree.kind t) : Int) == 1) then (decide ((65536 : Int) ≤ ((Tree.kids t).length : Int))) else false)) then true else (decide ((1048576 : Int) ≤ ((Tree.kids t).length : Int)))) = false → ((bif (decide ((1 : Int) < (Tree.kind t))) then (decide ((0 : Int) < ((Tree.words t).length : Int))) else false) = true → Q .ret (⟨[(4, .c (.bool false))], [], []⟩ : LSt U)) ∧ ((bif (decide ((1 : Int) < (Tree.kind t))) then (decide ((0 : Int) < ((Tree.words t).length : Int))) else false) = false → LoopWp (awp cfg (know (know37 N)) (drawOk cfg (know (know37 N))) Try.f37.ntmps lv37 (cd Try.f37 [1, 1, 1, 1, 1, 0, 1, 0, 0])) (head37_0 t d 0) (AExit.inBlock 0 (seqK cfg (know (know37 N)) (drawOk cfg (know (know37 N))) Try.f37.ntmps lv37 (cd Try.f37 [1, 1, 1, 1, 1, 1]) Q))))))) :
    awp cfg (know (know37 N)) (drawOk cfg (know (know37 N))) Try.f37.ntmps lv37 (cd Try.f37 []) (⟨[(0, .agg [.int .i64 (Tree.kind t), .slice (U := U) .u64 (Tree.words t) .unk, .slice (U := U) .tree (Tree.kids t) .unk]), (1, .c (.int .i64 d))], [], []⟩ : LSt U) Q := by
  have e : (awp cfg (know (know37 N)) (drawOk cfg (know (know37 N))) Try.f37.ntmps lv37 (cd Try.f37 []) (⟨[(0, .agg [.int .i64 (Tree.kind t), .slice (U := U) .u64 (Tree.words t) .unk, .slice (U := U) .tree (Tree.kids t) .unk]), (1, .c (.int .i64 d))], [], []⟩ : LSt U) Q) = (let zz7 := (decide ((1048576 : Int) ≤ ((Tree.kids t).length : Int))); let zz6 := (decide ((Tree.kind t) < 0)); let zz5 := (((Tree.words t).length : Int) == 1); let zz4 := (((Tree.words t).length : Int) == 0); let zz3 := (decide ((1 : Int) < (Tree.kind t))); let zz2 := (bif ((Tree.kind t) == 1) then (decide ((65536 : Int) ≤ ((Tree.kids t).length : Int))) else false); let zz1 := (bif zz6 then true else (decide ((10 : Int) < (Tree.kind t)))); let zz0 := (bif (bif zz1 then true else ((d : Int) == 0)) then true else (decide ((65536 : Int) ≤ ((Tree.words t).length : Int)))); (((((Tree.kind t) == 0) = true → (TrKR07G (zz4 = true)) ∧ (TrKR07G (zz4 = true)) ∧ (TrKR07G (zz4 = true)) ∧ ((TrKR07G (zz4 = true))) ∧ (Q .ret (⟨[(4, .c (.bool (bif zz4 then (((Tree.kids t).length : Int) == 0) else false)))], [], []⟩ : LSt U))) ∧ (((Tree.kind t) == 0) = false → ((((Tree.kind t) == 10) = true → (TrKR07G (zz5 = true)) ∧ (TrKR07G (zz5 = true)) ∧ (TrKR07G (zz5 = true)) ∧ ((TrKR07G (zz5 = true))) ∧ (Q .ret (⟨[(4, .c (.bool (bif zz5 then (((Tree.kids t).length : Int) == 0) else false)))], [], []⟩ : LSt U))) ∧ (((Tree.kind t) == 10) = false → (TrKR07G ((!zz6) = true)) ∧ (TrKR07G ((!zz6) = true)) ∧ ((zz6 = false → (!zz6) = true)) ∧ (TrKR07G ((!zz1) = true)) ∧ ((zz1 = false → (!zz1) = true)) ∧ (TrKR07G ((!(bif zz1 then true else ((d : Int) == 0))) = true)) ∧ (TrKR07G ((!(bif zz1 then true else ((d : Int) == 0))) = true)) ∧ (TrKR07G ((!(bif zz1 then true else ((d : Int) == 0))) = true)) ∧ (((bif zz1 then true else ((d : Int) == 0)) = false → (!(bif zz1 then true else ((d : Int) == 0))) = true)) ∧ (TrKR07G ((!zz0) = true)) ∧ (TrKR07G ((!zz0) = true)) ∧ (TrKR07G ((!zz0) = true)) ∧ (TrKR07G (((!zz0) && ((Tree.kind t) == 1)) = true)) ∧ (TrKR07G (((!zz0) && ((Tree.kind t) == 1)) = true)) ∧ (TrKR07G (((!zz0) && ((Tree.kind t) == 1)) = true)) ∧ ((!zz0) = true → (True → (!zz0) = true)) ∧ ((!zz0) = true → (((Tree.kind t) == 1) = true → ((!zz0) && ((Tree.kind t) == 1)) = true)) ∧ ((zz0 = false → (!zz0) = true)) ∧ (TrKR07G ((!(bif zz0 then true else zz2)) = true)) ∧ (TrKR07G ((!(bif zz0 then true else zz2)) = true)) ∧ (TrKR07G ((!(bif zz0 then true else zz2)) = true)) ∧ (((bif zz0 then true else zz2) = false → (!(bif zz0 then true else zz2)) = true)) ∧ (((bif (bif zz0 then true else zz2) then true else zz7) = true → (Q .ret (⟨[(4, .c (.bool false))], [], []⟩ : LSt U))) ∧ ((bif (bif zz0 then true else zz2) then true else zz7) = false → (TrKR07G (zz3 = true)) ∧ (TrKR07G (zz3 = true)) ∧ (TrKR07G (zz3 = true)) ∧ ((TrKR07G (zz3 = true))) ∧ (((bif zz3 then (decide ((0 : Int) < ((Tree.words t).length : Int))) else false) = true → (Q .ret (⟨[(4, .c (.bool false))], [], []⟩ : LSt U))) ∧ ((bif zz3 then (decide ((0 : Int) < ((Tree.words t).length : Int))) else false) = false → (LoopWp (a37_KR07G N (cd Try.f37 [1, 1, 1, 1, 1, 0, 1, 0, 0])) (head37_0 t d 0) (AExit.inBlock 0 (s37_KR07G N (cd Try.f37 [1, 1, 1, 1, 1, 1]) Q))))))))))))) := by kernel_rfl
  exact e.mpr ⟨fun c_22 => ⟨id, id, id, (by generalize ((((Tree.words t).length : Int) : Int) == 0) = b0; revert b0; decide), (h.1 c_22)⟩, fun c_22 => ⟨fun c_23 => ⟨id, id, id, (by generalize ((((Tree.words t).length : Int) : Int) == 1) = b0; revert b0; decide), ((h.2 c_22).1 c_23)⟩, fun c_23 => ⟨id, id, (by generalize (decide (((Tree.kind t) : Int) < 0)) = b0; revert b0; decide), id, (by generalize (decide ((10 : Int) < (Tree.kind t))) = b0; generalize (decide (((Tree.kind t) : Int) < 0)) = b1; revert b0 b1; decide), id, id, id, (by generalize (decide ((10 : Int) < (Tree.kind t))) = b0; generalize (decide (((Tree.kind t) : Int) < 0)) = b1; generalize ((d : Int) == 0) = b2; revert b0 b1 b2; decide), id, id, id, id, id, id, (by generalize (decide ((65536 : Int) ≤ ((Tree.words t).length : Int))) = b0; generalize (decide ((10 : Int) < (Tree.kind t))) = b1; generalize (decide (((Tree.kind t) : Int) < 0)) = b2; generalize ((d : Int) == 0) = b3; revert b0 b1 b2 b3; decide), (by generalize (decide ((65536 : Int) ≤ ((Tree.words t).length : Int))) = b0; generalize (decide ((10 : Int) < (Tree.kind t))) = b1; generalize (decide (((Tree.kind t) : Int) < 0)) = b2; generalize (((Tree.kind t) : Int) == 1) = b3; generalize ((d : Int) == 0) = b4; revert b0 b1 b2 b3 b4; decide), (by generalize (decide ((65536 : Int) ≤ ((Tree.words t).length : Int))) = b0; generalize (decide ((10 : Int) < (Tree.kind t))) = b1; generalize (decide (((Tree.kind t) : Int) < 0)) = b2; generalize ((d : Int) == 0) = b3; revert b0 b1 b2 b3; decide), id, id, id, (by generalize (decide ((65536 : Int) ≤ ((Tree.words t).length : Int))) = b0; generalize (decide ((65536 : Int) ≤ ((Tree.kids t).length : Int))) = b1; generalize (decide ((10 : Int) < (Tree.kind t))) = b2; generalize (decide (((Tree.kind t) : Int) < 0)) = b3; generalize (((Tree.kind t) : Int) == 1) = b4; generalize ((d : Int) == 0) = b5; revert b0 b1 b2 b3 b4 b5; decide), ⟨fun c_24 => (((h.2 c_22).2 c_23).1 c_24), fun c_24 => ⟨id, id, id, (by generalize (decide ((1 : Int) < (Tree.kind t))) = b0; revert b0; decide), ⟨fun c_25 => ((((h.2 c_22).2 c_23).2 c_24).1 c_25), fun c_25 => ((((h.2 c_22).2 c_23).2 c_24).2 c_25)⟩⟩⟩⟩⟩⟩
theorem vc37_l0 (N : Nat) (t : Tree) (d : Int) (x5 : Int) (N0 : LSt U → Prop) (Q : AExit → LSt U → Prop) (h : ((decide ((x5 : Int) < ((Tree.kids t).length : Int))) = true → ((0 : Int) ≤ x5 ∧ x5 < ((Tree.kids t).length : Int)) ∧ ((InR ((d : Int) - 1)) ∧ (pre37 ((Tree.mk (Tree.kind (List.getD (Tree.kids t) (Int.toNat x5) Tree.nil)) (Tree.words (List.getD (Tree.kids t) (Int.toNat x5) Tree.nil)) (Tree.kids (List.getD (Tree.kids t) (Int.toNat x5) Tree.nil))), ((d : Int) - 1), ())) ∧ (mu37 ((Tree.mk (Tree.kind (List.getD (Tree.kids t) (Int.toNat x5) Tree.nil)) (Tree.words (List.getD (Tree.kids t) (Int.toNat x5) Tree.nil)) (Tree.kids (List.getD (Tree.kids t) (Int.toNat x5) Tree.nil))), ((d : Int) - 1), ()) < N) ∧ (((!(rightT (Tree.mk (Tree.kind (List.getD (Tree.kids t) (Int.toNat x5) Tree.nil)) (Tree.words (List.getD (Tree.kids t) (Int.toNat x5) Tree.nil)) (Tree.kids (List.getD (Tree.kids t) (Int.toNat x5) Tree.nil))) ((d : Int) - 1))) = true → Q .ret (⟨[(4, .c (.bool false))], [], []⟩ : LSt U)) ∧ ((!(rightT (Tree.mk (Tree.kind (List.getD (Tree.kids t) (Int.toNat x5) Tree.nil)) (Tree.words (List.getD (Tree.kids t) (Int.toNat x5) Tree.nil)) (Tree.kids (List.getD (Tree.kids t) (Int.toNat x5) Tree.nil))) ((d : Int) - 1))) = false → (((!(bif ((bif (decide ((2 : Int) ≤ (Tree.kind t))) then (decide (((Tree.kind t) : Int) ≤ 7)) else false) != (((Tree.kind (List.getD (Tree.kids t) (Int.toNat x5) Tree.nil)) : Int) == 10)) then true else (bif (((Tree.kind t) : Int) == 9) then (((Tree.kind (List.getD (Tree.kids t) (Int.toNat x5) Tree.nil)) : Int) != 1) else false))) && (bif (decide ((2 : Int) ≤ (Tree.kind t))) then (decide (((Tree.kind t) : Int) ≤ 7)) else false)) = true → InR (((Tree.kind t) : Int) - 2)) ∧ (((!(bif ((bif (decide ((2 : Int) ≤ (Tree.kind t))) then (decide (((Tree.kind t) : Int) ≤ 7)) else false) != (((Tree.kind (List.getD (Tree.kids t) (Int.toNat x5) Tree.nil)) : Int) == 10)) then true else (bif (((Tree.kind t) : Int) == 9) then (((Tree.kind (List.getD (Tree.kids t) (Int.toNat x5) Tree.nil)) : Int) != 1) else false))) && (bif (decide ((2 : Int) ≤ (Tree.kind t))) then (decide (((Tree.kind t) : Int) ≤ 7)) else false)) = true → (0 : Int) ≤ 0 ∧ 0 < ((Tree.words (List.getD (Tree.kids t) (Int.toNat x5) Tree.nil)).length : Int)) ∧ (((!(bif ((bif (decide ((2 : Int) ≤ (Tree.kind t))) then (decide (((Tree.kind t) : Int) ≤ 7)) else false) != (((Tree.kind (List.getD (Tree.kids t) (Int.toNat x5) Tree.nil)) : Int) == 10)) then true else (bif (((Tree.kind t) : Int) == 9) then (((Tree.kind (List.getD (Tree.kids t) (Int.toNat x5) Tree.nil)) : Int) != 1) else false))) && (bif (decide ((2 : Int) ≤ (Tree.kind t))) then (decide (((Tree.kind t) : Int) ≤ 7)) else false)) = true → pre79 ((((Tree.kind t) : Int) - 2), (List.getD (Tree.words (List.getD (Tree.kids t) (Int.toNat x5) Tree.nil)) (Int.toNat 0) (0 : Int)), ())) ∧ (((bif (bif ((bif (decide ((2 : Int) ≤ (Tree.kind t))) then (decide (((Tree.kind t) : Int) ≤ 7)) else false) != (((Tree.kind (List.getD (Tree.kids t) (Int.toNat x5) Tree.nil)) : Int) == 10)) then true else (bif (((Tree.kind t) : Int) == 9) then (((Tree.kind (List.getD (Tree.kids t) (Int.toNat x5) Tree.nil)) : Int) != 1) else false)) then true else (bif (bif (decide ((2 : Int) ≤ (Tree.kind t))) then (decide (((Tree.kind t) : Int) ≤ 7)) else false) then (!(fits (((Tree.kind t) : Int) - 2) (List.getD (Tree.words (List.getD (Tree.kids t) (Int.toNat x5) Tree.nil)) (Int.toNat 0) (0 : Int)))) else false)) = true → Q .ret (⟨[(4, .c (.bool false))], [], []⟩ : LSt U)) ∧ ((bif (bif ((bif (decide ((2 : Int) ≤ (Tree.kind t))) then (decide (((Tree.kind t) : Int) ≤ 7)) else false) != (((Tree.kind (List.getD (Tree.kids t) (Int.toNat x5) Tree.nil)) : Int) == 10)) then true else (bif (((Tree.kind t) : Int) == 9) then (((Tree.kind (List.getD (Tree.kids t) (Int.toNat x5) Tree.nil)) : Int) != 1) else false)) then true else (bif (bif (decide ((2 : Int) ≤ (Tree.kind t))) then (decide (((Tree.kind t) : Int) ≤ 7)) else false) then (!(fits (((Tree.kind t) : Int) - 2) (List.getD (Tree.words (List.getD (Tree.kids t) (Int.toNat x5) Tree.nil)) (Int.toNat 0) (0 : Int)))) else false)) = false → (InR ((x5 : Int) + 1)) ∧ (N0 (head37_0 t d ((x5 : Int) + 1))))))))) ∧ ((decide ((x5 : Int) < ((Tree.kids t).length : Int))) = false → Q .ret (⟨[(4, .c (.bool true))], [], []⟩ : LSt U))) :
    awp cfg (know (know37 N)) (drawOk cfg (know (know37 N))) Try.f37.ntmps lv37 (cd Try.f37 [1, 1, 1, 1, 1, 0, 1, 0, 0]) (head37_0 t d x5) (AExit.then N0 (AExit.inBlock 0 (seqK cfg (know (know37 N)) (drawOk cfg (know (know37 N))) Try.f37.ntmps lv37 (cd Try.f37 [1, 1, 1, 1, 1, 1]) Q))) := by
  have e : (awp cfg (know (know37 N)) (drawOk cfg (know (know37 N))) Try.f37.ntmps lv37 (cd Try.f37 [1, 1, 1, 1, 1, 0, 1, 0, 0]) (head37_0 t d x5) (AExit.then N0 (AExit.inBlock 0 (seqK cfg (know (know37 N)) (drawOk cfg (know (know37 N))) Try.f37.ntmps lv37 (cd Try.f37 [1, 1, 1, 1, 1, 1]) Q)))) = (let zz5 := (decide ((2 : Int) ≤ (Tree.kind t))); let zz4 := (!(fits ((Tree.kind t) - 2) (List.getD (Tree.words (List.getD (Tree.kids t) (Int.toNat x5) Tree.nil)) (Int.toNat 0) (0 : Int)))); let zz3 := (!(rightT (Tree.mk (Tree.kind (List.getD (Tree.kids t) (Int.toNat x5) Tree.nil)) (Tree.words (List.getD (Tree.kids t) (Int.toNat x5) Tree.nil)) (Tree.kids (List.getD (Tree.kids t) (Int.toNat x5) Tree.nil))) ((d : Int) - 1))); let zz2 := (((Tree.kind (List.getD (Tree.kids t) (Int.toNat x5) Tree.nil)) : Int) == 10); let zz1 := (bif zz5 then (decide ((Tree.kind t) ≤ 7)) else false); let zz0 := (bif (zz1 != zz2) then true else (bif ((Tree.kind t) == 9) then (((Tree.kind (List.getD (Tree.kids t) (Int.toNat x5) Tree.nil)) : Int) != 1) else false)); (((decide ((x5 : Int) < ((Tree.kids t).length : Int))) = true → ((0 : Int) ≤ x5 ∧ x5 < ((Tree.kids t).length : Int)) ∧ ((InR ((d : Int) - 1)) ∧ (pre37 ((Tree.mk (Tree.kind (List.getD (Tree.kids t) (Int.toNat x5) Tree.nil)) (Tree.words (List.getD (Tree.kids t) (Int.toNat x5) Tree.nil)) (Tree.kids (List.getD (Tree.kids t) (Int.toNat x5) Tree.nil))), ((d : Int) - 1), ())) ∧ (mu37 ((Tree.mk (Tree.kind (List.getD (Tree.kids t) (Int.toNat x5) Tree.nil)) (Tree.words (List.getD (Tree.kids t) (Int.toNat x5) Tree.nil)) (Tree.kids (List.getD (Tree.kids t) (Int.toNat x5) Tree.nil))), ((d : Int) - 1), ()) < N) ∧ ((zz3 = true → (Q .ret (⟨[(4, .c (.bool false))], [], []⟩ : LSt U))) ∧ (zz3 = false → (TrKR07G (zz5 = true)) ∧ (TrKR07G (zz5 = true)) ∧ ((TrKR07G (zz5 = true))) ∧ ((TrKR07G ((!(zz1 != zz2)) = true)) ∧ (TrKR07G ((!(zz1 != zz2)) = true)) ∧ (TrKR07G ((!(zz1 != zz2)) = true)) ∧ (TrKR07G (((!(zz1 != zz2)) && ((Tree.kind t) == 9)) = true)) ∧ (TrKR07G (((!(zz1 != zz2)) && ((Tree.kind t) == 9)) = true)) ∧ ((!(zz1 != zz2)) = true → (True → (!(zz1 != zz2)) = true)) ∧ ((!(zz1 != zz2)) = true → (((Tree.kind t) == 9) = true → ((!(zz1 != zz2)) && ((Tree.kind t) == 9)) = true)) ∧ (((zz1 != zz2) = false → (!(zz1 != zz2)) = true)) ∧ (TrKR07G ((!zz0) = true)) ∧ (TrKR07G (((!zz0) && zz1) = true)) ∧ (TrKR07G (((!zz0) && zz1) = true)) ∧ (((!zz0) && zz1) = true → InR ((Tree.kind t) - 2)) ∧ (TrKR07G (((!zz0) && zz1) = true)) ∧ (TrKR07G (((!zz0) && zz1) = true)) ∧ (((!zz0) && zz1) = true → (0 : Int) ≤ 0 ∧ 0 < ((Tree.words (List.getD (Tree.kids t) (Int.toNat x5) Tree.nil)).length : Int)) ∧ (TrKR07G (((!zz0) && zz1) = true)) ∧ (TrKR07G (((!zz0) && zz1) = true)) ∧ (TrKR07G (((!zz0) && zz1) = true)) ∧ (((!zz0) && zz1) = true → pre79 (((Tree.kind t) - 2), (List.getD (Tree.words (List.getD (Tree.kids t) (Int.toNat x5) Tree.nil)) (Int.toNat 0) (0 : Int)), ())) ∧ (TrKR07G (((!zz0) && zz1) = true)) ∧ ((!zz0) = true → (True → (!zz0) = true)) ∧ ((!zz0) = true → (zz1 = true → ((!zz0) && zz1) = true)) ∧ ((zz0 = false → (!zz0) = true)) ∧ (((bif zz0 then true else (bif zz1 then zz4 else false)) = true → (Q .ret (⟨[(4, .c (.bool false))], [], []⟩ : LSt U))) ∧ ((bif zz0 then true else (bif zz1 then zz4 else false)) = false → (InR ((x5 : Int) + 1)) ∧ (N0 (head37_0 t d ((x5 : Int) + 1)))))))))) ∧ ((decide ((x5 : Int) < ((Tree.kids t).length : Int))) = false → (Q .ret (⟨[(4, .c (.bool true))], [], []⟩ : LSt U))))) := by kernel_rfl
  exact e.mpr ⟨fun c_26 => ⟨(h.1 c_26).1, ⟨(h.1 c_26).2.1, (h.1 c_26).2.2.1, (h.1 c_26).2.2.2.1, ⟨fun c_27 => ((h.1 c_26).2.2.2.2.1 c_27), fun c_27 => ⟨id, id, (by generalize (decide ((2 : Int) ≤ (Tree.kind t))) = b0; revert b0; decide), ⟨id, id, id, id, id, (by generalize ((bif (decide ((2 : Int) ≤ (Tree.kind t))) then (decide (((Tree.kind t) : Int) ≤ 7)) else false) != (((Tree.kind (List.getD (Tree.kids t) (Int.toNat x5) Tree.nil)) : Int) == 10)) = b0; revert b0; decide), (by generalize ((bif (decide ((2 : Int) ≤ (Tree.kind t))) then (decide (((Tree.kind t) : Int) ≤ 7)) else false) != (((Tree.kind (List.getD (Tree.kids t) (Int.toNat x5) Tree.nil)) : Int) == 10)) = b0; generalize (((Tree.kind t) : Int) == 9) = b1; revert b0 b1; decide), (by generalize ((bif (decide ((2 : Int) ≤ (Tree.kind t))) then (decide (((Tree.kind t) : Int) ≤ 7)) else false) != (((Tree.kind (List.getD (Tree.kids t) (Int.toNat x5) Tree.nil)) : Int) == 10)) = b0; revert b0; decide), id, id, id, ((h.1 c_26).2.2.2.2.2 c_27).1, id, id, ((h.1 c_26).2.2.2.2.2 c_27).2.1, id, id, id, ((h.1 c_26).2.2.2.2.2 c_27).2.2.1, id, (by generalize ((bif (decide ((2 : Int) ≤ (Tree.kind t))) then (decide (((Tree.kind t) : Int) ≤ 7)) else false) != (((Tree.kind (List.getD (Tree.kids t) (Int.toNat x5) Tree.nil)) : Int) == 10)) = b0; generalize (((Tree.kind (List.getD (Tree.kids t) (Int.toNat x5) Tree.nil)) : Int) != 1) = b1; generalize (((Tree.kind t) : Int) == 9) = b2; revert b0 b1 b2; decide), (by generalize ((bif (decide ((2 : Int) ≤ (Tree.kind t))) then (decide (((Tree.kind t) : Int) ≤ 7)) else false) != (((Tree.kind (List.getD (Tree.kids t) (Int.toNat x5) Tree.nil)) : Int) == 10)) = b0; generalize (((Tree.kind (List.getD (Tree.kids t) (Int.toNat x5) Tree.nil)) : Int) != 1) = b1; generalize (decide ((2 : Int) ≤ (Tree.kind t))) = b2; generalize (decide (((Tree.kind t) : Int) ≤ 7)) = b3; generalize (((Tree.kind t) : Int) == 9) = b4; revert b0 b1 b2 b3 b4; decide), (by generalize ((bif (decide ((2 : Int) ≤ (Tree.kind t))) then (decide (((Tree.kind t) : Int) ≤ 7)) else false) != (((Tree.kind (List.getD (Tree.kids t) (Int.toNat x5) Tree.nil)) : Int) == 10)) = b0; generalize (((Tree.kind (List.getD (Tree.kids t) (Int.toNat x5) Tree.nil)) : Int) != 1) = b1; generalize (((Tree.kind t) : Int) == 9) = b2; revert b0 b1 b2; decide), ⟨fun c_28 => (((h.1 c_26).2.2.2.2.2 c_27).2.2.2.1 c_28), fun c_28 => ⟨(((h.1 c_26).2.2.2.2.2 c_27).2.2.2.2 c_28).1, (((h.1 c_26).2.2.2.2.2 c_27).2.2.2.2 c_28).2⟩⟩⟩⟩⟩⟩⟩, fun c_26 => (h.2 c_26)⟩
def Body37 (N : Nat) (t : Tree) (d : Int)  : Prop := awp cfg (know (know37 N)) (drawOk cfg (know (know37 N))) Try.f37.ntmps lv37 (cd Try.f37 []) (entry (args37.can (t, d, ())) []) (EndsQ cfg Try.f37.ntmps Try.f37.results.toList (res37 (t, d, ())) [])
theorem make37 (c79 : Contract Try.prog cfg 79 spec79) (hb : ∀ (N : Nat) (t : Tree) (d : Int) (_ : Unit), pre37 (t, d, ()) → mu37 (t, d, ()) < N + 1 → Body37 N t d) : Contract Try.prog cfg 37 spec37 :=
  contract_rec (μ := mu37) (l := [(79, spec79)]) cfgOk rfl (⟨c79, trivial⟩) lv37 Try.func37 rfl rfl 2 (fun _ => rfl) (by decide) (fun N ⟨t, d, _⟩ => hb N t d ())
end
end Go.AM.Ytpjenobkibfpcaa

namespace Go.AM.Ytpjenobkibfpcaa
open Go.AM Go.Proofs
theorem trim_nil_iff : ∀ (l : List Int), trim l = [] ↔ ∀ i : Nat, l.getD i 0 = 0
  | [] => by simp [trim]
  | x :: r => by
    have ih := trim_nil_iff r
    constructor
    · intro h i
      simp only [trim] at h
      split at h
      · rename_i hr
        split at h
        · cases i with
          | zero => simpa
          | succ i => simpa using (ih.1 hr) i
        · cases h
      · cases h
    · intro h
      have h0 := h 0
      have hr : trim r = [] := ih.2 fun i => by simpa using h (i + 1)
      simp only [trim, hr]
      simp at h0
      simp [h0]
theorem trim_cons (x : Int) (r : List Int) : trim (x :: r) = if trim r = [] ∧ x = 0 then [] else x :: trim r := by
  simp only [trim]
  split
  · rename_i h
    simp only [h]
    split <;> simp_all
  · rename_i h
    simp [h]
theorem trim_eq_iff : ∀ (a b : List Int), trim a = trim b ↔ ∀ i : Nat, a.getD i 0 = b.getD i 0
  | [], b => by
    rw [show trim [] = [] from rfl, eq_comm, trim_nil_iff]
    simp [eq_comm]
  | x :: r, [] => by
    rw [show trim [] = [] from rfl, trim_nil_iff]
    simp
  | x :: r, y :: s => by
    have ih := trim_eq_iff r s
    constructor
    · intro h i
      have key : x = y ∧ trim r = trim s := by
        rw [trim_cons, trim_cons] at h
        split at h <;> split at h <;> simp_all
      cases i with
      | zero => simpa using key.1
      | succ i => simpa using ih.1 key.2 i
    · intro h
      have h0 : x = y := by simpa using h 0
      have hr : trim r = trim s := ih.2 fun i => by simpa using h (i + 1)
      rw [trim_cons, trim_cons, h0, hr]
def Nils (l : List Tree) : Prop := ∀ x ∈ l, x.kind = 0 → x = Tree.nil
theorem trimK_cons (x : Tree) (r : List Tree) : trimK (x :: r) = if trimK r = [] ∧ x.kind = 0 then [] else x :: trimK r := by
  simp only [trimK]
  split
  · rename_i h
    simp only [h]
    split <;> simp_all
  · rename_i h
    simp [h]
theorem trimK_nil_iff : ∀ (l : List Tree), Nils l → (trimK l = [] ↔ ∀ i : Nat, l.getD i Tree.nil = Tree.nil)
  | [], _ => by simp [trimK]
  | x :: r, hn => by
    have ih := trimK_nil_iff r (fun y hy => hn y (List.mem_cons_of_mem _ hy))
    have hx := hn x (List.mem_cons_self ..)
    rw [trimK_cons]
    constructor
    · intro h i
      split at h
      · rename_i hc
        cases i with
        | zero => simpa using hx hc.2
        | succ i => simpa using (ih.1 hc.1) i
      · cases h
    · intro h
      have h0 : x = Tree.nil := by simpa using h 0
      have hr : trimK r = [] := ih.2 fun i => by simpa using h (i + 1)
      rw [if_pos ⟨hr, by rw [h0]; rfl⟩]
theorem trimK_eq_iff : ∀ (a b : List Tree), Nils a → Nils b → (trimK a = trimK b ↔ ∀ i : Nat, a.getD i Tree.nil = b.getD i Tree.nil)
  | [], b, _, hb => by
    rw [show trimK [] = [] from rfl, eq_comm, trimK_nil_iff b hb]
    simp [eq_comm]
  | x :: r, [], ha, _ => by
    rw [show trimK [] = [] from rfl, trimK_nil_iff _ ha]
    simp
  | x :: r, y :: s, ha, hb => by
    have ih := trimK_eq_iff r s (fun y hy => ha y (List.mem_cons_of_mem _ hy)) (fun y hy => hb y (List.mem_cons_of_mem _ hy))
    have hx := ha x (List.mem_cons_self ..)
    have hy := hb y (List.mem_cons_self ..)
    constructor
    · intro h i
      have key : x = y ∧ trimK r = trimK s := by
        rw [trimK_cons, trimK_cons] at h
        split at h <;> split at h
        · rename_i h1 h2
          exact ⟨(hx h1.2).trans (hy h2.2).symm, h1.1.trans h2.1.symm⟩
        · cases h
        · cases h
        · simpa using h
      cases i with
      | zero => simpa using key.1
      | succ i => simpa using ih.1 key.2 i
    · intro h
      have h0 : x = y := by simpa using h 0
      have hr : trimK r = trimK s := ih.2 fun i => by simpa using h (i + 1)
      rw [trimK_cons, trimK_cons, h0, hr]
theorem normT_nil : normT Tree.nil = Tree.nil := by simp [Tree.nil, normT]
theorem normT_kind (t : Tree) : (normT t).kind = t.kind := by
  obtain ⟨k, w, ks⟩ := t
  simp only [normT]
  split
  · rename_i h; simp [h, Tree.nil]
  · split
    · rename_i h; simp [h]
    · rfl
theorem normK_nils : ∀ (l : List Tree), Nils (normK l)
  | [] => by intro x hx; simp [normK] at hx
  | t :: r => by
    intro x hx hk
    simp only [normK, List.mem_cons] at hx
    rcases hx with rfl | hx
    · rw [normT_kind] at hk
      obtain ⟨k, w, ks⟩ := t
      simp only [Tree.kind_mk] at hk
      simp [normT, hk]
    · exact normK_nils r x hx hk
theorem normK_getD : ∀ (l : List Tree) (i : Nat), (normK l).getD i Tree.nil = normT (l.getD i Tree.nil)
  | [], i => by simp [normK, normT_nil]
  | t :: r, 0 => by simp [normK]
  | t :: r, i + 1 => by simpa [normK] using normK_getD r i
theorem normK_eq_iff (a b : List Tree) : normK a = normK b ↔ a.length = b.length ∧ ∀ i : Nat, normT (a.getD i Tree.nil) = normT (b.getD i Tree.nil) := by
  constructor
  · intro h
    refine ⟨by rw [← normK_len a, h, normK_len], fun i => ?_⟩
    rw [← normK_getD, h, normK_getD]
  · rintro ⟨hl, h⟩
    apply List.ext_getElem (by rw [normK_len, normK_len, hl])
    intro i h1 h2
    have := h i
    rw [← normK_getD, ← normK_getD] at this
    simpa [List.getD, h1, h2] using this
theorem normT_eq_iff (a b : Tree) : normT a = normT b ↔ a.kind = b.kind ∧ (a.kind = 0 ∨ (if a.kind = 1 then (∀ i : Nat, a.words.getD i 0 = b.words.getD i 0) else a.words = b.words ∧ a.kids.length = b.kids.length) ∧ ∀ i : Nat, normT (a.kids.getD i Tree.nil) = normT (b.kids.getD i Tree.nil)) := by
  obtain ⟨k, w, ks⟩ := a
  obtain ⟨k', w', ks'⟩ := b
  show _ ↔ k = k' ∧ (k = 0 ∨ (if k = 1 then (∀ i : Nat, w.getD i 0 = w'.getD i 0) else w = w' ∧ ks.length = ks'.length) ∧ ∀ i : Nat, normT (ks.getD i Tree.nil) = normT (ks'.getD i Tree.nil))
  by_cases hk : k = k'
  · subst hk
    simp only [true_and]
    by_cases h0 : k = 0
    · simp [normT, h0]
    · by_cases h1 : k = 1
      · subst h1
        simp only [normT, if_neg h0, if_true, Tree.mk.injEq, true_and, trim_eq_iff, trimK_eq_iff _ _ (normK_nils _) (normK_nils _), normK_getD]
        simp
      · simp only [normT, if_neg h0, if_neg h1, Tree.mk.injEq, true_and, normK_eq_iff]
        constructor
        · rintro ⟨h2, h3, h4⟩; exact .inr ⟨⟨h2, h3⟩, h4⟩
        · rintro (h | ⟨⟨h2, h3⟩, h4⟩)
          · exact absurd h h0
          · exact ⟨h2, h3, h4⟩
  · simp only [hk, false_and, iff_false]
    intro h
    have := congrArg Tree.kind h
    rw [normT_kind, normT_kind] at this
    exact hk this
end Go.AM.Ytpjenobkibfpcaa

namespace Go.AM.Ytpjenobkibfpcaa
open Go.AM Go.Proofs
theorem words_of_eq {a b : Tree} (h : normT a = normT b) (h0 : a.kind ≠ 0) (i : Nat) : a.words.getD i 0 = b.words.getD i 0 := by
  obtain ⟨_, h2⟩ := (normT_eq_iff a b).1 h
  rcases h2 with h2 | ⟨h2, _⟩
  · exact absurd h2 h0
  · split at h2
    · exact h2 i
    · rw [h2.1]
theorem kids_of_eq {a b : Tree} (h : normT a = normT b) (h0 : a.kind ≠ 0) (i : Nat) : normT (a.kids.getD i Tree.nil) = normT (b.kids.getD i Tree.nil) := by
  obtain ⟨_, h2⟩ := (normT_eq_iff a b).1 h
  rcases h2 with h2 | ⟨_, h2⟩
  · exact absurd h2 h0
  · exact h2 i
theorem kidAt_mass (t : Tree) (i : Int) : mass (kidAt t i) ≤ mass t ∧ (i < t.kids.length → 0 ≤ i → mass (kidAt t i) < mass t) := by
  obtain ⟨k, w, ks⟩ := t
  unfold kidAt
  have h1 : mass Tree.nil = 1 := by simp [Tree.nil, mass, massK]
  split
  · simp only [h1, mass]; omega
  · simp only [Tree.kids_mk]
    by_cases hi : i.toNat < ks.length
    · have := massK_get hi
      simp only [mass]; omega
    · rw [List.getD, List.getElem?_eq_none (by omega)]
      simp only [Option.getD_none, h1, mass]; omega
theorem c106 : Contract Try.prog cfg 106 spec106 := by
  refine make106 c148 c149 c91 ?_
  rintro N a b _ hp hN
  have la : a.words.length + a.kids.length < mass a := by obtain ⟨k, w, ks⟩ := a; have := massK_len ks; simp only [mass, Tree.words_mk, Tree.kids_mk]; omega
  have lb : b.words.length + b.kids.length < mass b := by obtain ⟨k, w, ks⟩ := b; have := massK_len ks; simp only [mass, Tree.words_mk, Tree.kids_mk]; omega
  simp only [pre106, mu106] at hp hN
  have no : ¬ normT a = normT b → EndsQ cfg Try.f106.ntmps Try.f106.results.toList (res106 (a, b, ())) [] .ret (⟨[(4, .c (.bool false))], [], []⟩ : LSt U) := by
    intro h
    have e : sameT (normT a) (normT b) = false := sameT_false.2 h
    simp only [res106, e]
    exact ⟨⟨rfl, ⟨rfl, trivial⟩, trivial⟩, trivial⟩
  refine vc106 N _ _ _ ?_; (try simp only [vcT, forall_eq])
  (simp only [vcS]); (try simp only [vcT])
  refine ⟨fun hc => ?_, fun hc => ?_⟩
  · have e : sameT (normT a) (normT b) = (a.kind == b.kind) := by
      by_cases hk : a.kind = b.kind
      · have h0 : a.kind = 0 := by rcases hc with h | h; exact absurd hk h; exact h
        rw [sameT_true.2 ((normT_eq_iff a b).2 ⟨hk, .inl h0⟩)]
        simp [hk]
      · rw [sameT_false.2 (fun h => hk ((normT_eq_iff a b).1 h).1)]
        simp [hk]
    simp only [res106, e]
    exact ⟨⟨rfl, ⟨rfl, trivial⟩, trivial⟩, trivial⟩
  · refine ⟨fun _ => by simp only [pre148]; omega, fun h h' => ⟨h, h'⟩, fun hd => no ?_, fun hd => ?_⟩
    · intro h
      obtain ⟨_, h2⟩ := (normT_eq_iff a b).1 h
      rcases h2 with h2 | ⟨h2, _⟩
      · exact hc.2 h2
      · rw [if_neg hd.1] at h2
        rcases hd.2 with h3 | h3
        · exact h3 (by omega)
        · exact h3 h2.1
    · refine loop_rule (ι := Int) (fun p => head106_0 a b p) (fun p => 0 ≤ p ∧ p ≤ 2000000000000 ∧ ∀ j : Nat, j < p.toNat → a.words.getD j 0 = b.words.getD j 0) (fun p => (2000000000000 - p).toNat) 0 rfl ⟨by omega, by omega, fun j hj => by simp at hj⟩ ?_
      rintro i ⟨h1, h2, h3⟩
      refine vc106_l0 N _ _ _ _ _ ?_; (try simp only [vcT, forall_eq])
      (simp only [vcS]); (try simp only [vcT])
      have wa : ∀ t : Tree, wordAt t i = t.words.getD i.toNat 0 := fun t => by unfold wordAt; rw [if_neg (by omega)]
      refine ⟨fun hi => ⟨trivial, trivial, fun hn => no fun h => hn ?_, fun he => ⟨?_, ?_⟩⟩, fun hi => ?_⟩
      · rw [wa, wa]
        exact words_of_eq h hc.2 _
      · unfold InR; split at hi <;> omega
      · refine ⟨i + 1, rfl, ⟨by omega, by split at hi <;> omega, fun j hj => ?_⟩, by split at hi <;> omega⟩
        by_cases hj' : j < i.toNat
        · exact h3 j hj'
        · have : j = i.toNat := by omega
          rw [this, ← wa, ← wa]
          exact he
      · have hw : ∀ j : Nat, a.words.getD j 0 = b.words.getD j 0 := fun j => by
          by_cases hj : j < i.toNat
          · exact h3 j hj
          · split at hi <;> rw [List.getD, List.getD, List.getElem?_eq_none (by omega), List.getElem?_eq_none (by omega)]
        refine loop_rule (ι := Int) (fun p => head106_1 a b p) (fun p => 0 ≤ p ∧ p ≤ 2000000000000 ∧ ∀ j : Nat, j < p.toNat → normT (a.kids.getD j Tree.nil) = normT (b.kids.getD j Tree.nil)) (fun p => (2000000000000 - p).toNat) 0 rfl ⟨by omega, by omega, fun j hj => by simp at hj⟩ ?_
        rintro q ⟨h5, h6, h7⟩
        refine vc106_l1 N _ _ _ _ _ ?_; (try simp only [vcT, forall_eq])
        (simp only [vcS]); (try simp only [vcT])
        have ka : ∀ t : Tree, kidAt t q = t.kids.getD q.toNat Tree.nil := fun t => by unfold kidAt; rw [if_neg (by omega)]
        have ma := kidAt_mass a q
        have mb := kidAt_mass b q
        try (simp only [Tree.eta, Edit.eta, Tree.kind_mk, Tree.words_mk, Tree.kids_mk])
        refine ⟨fun hq => ⟨trivial, trivial, ?_, ?_, fun hn => no fun h => ?_, fun he => ⟨?_, ?_⟩⟩, fun hq => ?_⟩
        · simp only [pre106]; omega
        · simp only [mu106]; split at hq <;> omega
        · rw [sameT_false] at hn
          apply hn
          rw [ka, ka]
          exact kids_of_eq h hc.2 _
        · unfold InR; split at hq <;> omega
        · refine ⟨q + 1, rfl, ⟨by omega, by split at hq <;> omega, fun j hj => ?_⟩, by split at hq <;> omega⟩
          by_cases hj' : j < q.toNat
          · exact h7 j hj'
          · have : j = q.toNat := by omega
            rw [this, ← ka, ← ka]
            exact sameT_true.1 he
        · have hk : ∀ j : Nat, normT (a.kids.getD j Tree.nil) = normT (b.kids.getD j Tree.nil) := fun j => by
            by_cases hj : j < q.toNat
            · exact h7 j hj
            · split at hq <;> rw [List.getD, List.getD, List.getElem?_eq_none (by omega), List.getElem?_eq_none (by omega)]
          have e : sameT (normT a) (normT b) = true := by
            rw [sameT_true, normT_eq_iff]
            refine ⟨hc.1, .inr ⟨?_, hk⟩⟩
            split
            · exact hw
            · rename_i h1
              rcases hd with hd | hd
              · exact absurd hd h1
              · exact ⟨hd.2, by have := hd.1; omega⟩
          simp only [res106, e]
          exact ⟨⟨rfl, ⟨rfl, trivial⟩, trivial⟩, trivial⟩
end Go.AM.Ytpjenobkibfpcaa

namespace Go.AM.Ytpjenobkibfpcaa
open Go.AM Go.Proofs
theorem ends_bool {n k : Nat} {rs : List ResultVar} {b b' : Bool} (hr : rs = [ResultVar.tmp k]) (h : b = b') : EndsQ cfg n rs (.c (.bool b')) [] .ret (⟨[(k, .c (.bool b))], [], []⟩ : LSt U) := by
  subst hr h
  have hk : Nat.beq k k = true := Nat.beq_refl k
  simp [EndsQ, Ends, EndsL, LsEnd, resAll, resOne, LSt.toF, look, hk, partsV, resTok, passC, passC1, leR, leL, leC, XEnd]
theorem ends_int {n k : Nat} {rs : List ResultVar} {K : IntKind} {b b' : Int} (hr : rs = [ResultVar.tmp k]) (h : b = b') : EndsQ cfg n rs (.c (.int K b')) [] .ret (⟨[(k, .c (.int K b))], [], []⟩ : LSt U) := by
  subst hr h
  have hk : Nat.beq k k = true := Nat.beq_refl k
  simp [EndsQ, Ends, EndsL, LsEnd, resAll, resOne, LSt.toF, look, hk, partsV, resTok, passC, passC1, leR, leL, leC, XEnd]
theorem c116 : Contract Try.prog cfg 116 spec116 := by
  refine make116 ?_
  intro c _ _
  refine vc116 _ _ ?_
  (simp only [vcS])
  refine ⟨fun h => ends_int rfl ?_, fun h => ⟨fun h => ends_int rfl ?_, fun h => ⟨fun h => ends_int rfl ?_, fun h => ⟨fun h => ends_int rfl ?_, fun h => ⟨fun h => ends_int rfl ?_, fun h => ⟨fun h => ends_int rfl ?_, fun h => ends_int rfl ?_⟩⟩⟩⟩⟩⟩ <;> simp only [wd] <;> simp [*]
theorem wd_le (c : Int) : -1 ≤ wd c ∧ wd c ≤ 64 := by
  unfold wd
  repeat' split
  all_goals omega
theorem wrap64_div (n : Int) (h0 : 0 ≤ n) (h1 : n < 18446744073709551616) : IntKind.wrap .u64 (Int.tdiv n 2) = n / 2 := by
  rw [Int.tdiv_eq_ediv_of_nonneg h0]
  simp [IntKind.wrap, IntKind.signed, IntKind.bits]
  omega
theorem pow_half {w : Nat} {n m : Int} (h : 0 ≤ n) : (n / 2 < 2 ^ w) ↔ n < 2 ^ (w + 1) := by
  have : (2 : Int) ^ (w + 1) = 2 ^ w * 2 := by rw [Int.pow_succ]
  omega
theorem c79 : Contract Try.prog cfg 79 spec79 := by
  refine make79 c116 ?_
  intro c n _ hp
  simp only [pre79] at hp
  have hw := wd_le c
  refine vc79 _ _ _ ?_
  (simp only [vcS])
  refine ⟨trivial, fun h => ends_bool rfl ?_, fun h => ?_⟩
  · simp only [fits]
    simp
    omega
  · refine loop_rule (ι := Int × Int) (fun p => head79_0 c n p.1 p.2) (fun p => 0 ≤ p.2 ∧ p.2 ≤ wd c ∧ 0 ≤ p.1 ∧ p.1 < 18446744073709551616 ∧ (n < 2 ^ (wd c).toNat ↔ p.1 < 2 ^ (wd c - p.2).toNat)) (fun p => (wd c - p.2).toNat) (n, 0) rfl ⟨by dsimp only; omega, by dsimp only; omega, by dsimp only; omega, by dsimp only; omega, by simp⟩ ?_
    rintro ⟨m, i⟩ ⟨h1, h2, h3, h4, h5⟩
    dsimp only at *
    refine vc79_l0 _ _ _ _ _ _ ?_
    (simp only [vcS])
    refine ⟨fun hc => ⟨by omega, by unfold InR; omega, (IntKind.wrap .u64 (Int.tdiv m 2), i + 1), rfl, ?_, by dsimp only; omega⟩, fun hc => ends_bool rfl ?_⟩
    · rw [wrap64_div m h3 h4]
      refine ⟨by dsimp only; omega, by dsimp only; omega, by dsimp only; omega, by dsimp only; omega, ?_⟩
      dsimp only
      rw [h5, show (wd c - i).toNat = (wd c - (i + 1)).toNat + 1 by omega]
      exact (pow_half (m := 0) h3).symm
    · have e : (wd c - i).toNat = 0 := by omega
      rw [e] at h5
      simp only [fits]
      rw [Bool.eq_iff_iff]
      simp
      omega
theorem rng_word {t : Tree} (h : rng t) {i : Nat} (hi : i < t.words.length) : 0 ≤ t.words.getD i 0 ∧ t.words.getD i 0 < 18446744073709551616 := by
  obtain ⟨k, w, ks⟩ := t
  simp only [rng] at h
  simp only [Tree.words_mk] at *
  have hg : w.getD i 0 ∈ w := by
    simp only [List.getD, List.getElem?_eq_getElem hi, Option.getD_some]
    exact List.getElem_mem hi
  exact h.2.1 _ hg
theorem rightK_drop {l : Int} {ks : List Tree} {i : Int} {d : Int} (h0 : 0 ≤ i) (h : i < ks.length) :
    rightK l (ks.drop i.toNat) d = ((kidB l (ks.getD i.toNat Tree.nil) && rightT (ks.getD i.toNat Tree.nil) d) && rightK l (ks.drop (i + 1).toNat) d) := by
  have e : (i + 1).toNat = i.toNat + 1 := by omega
  rw [List.drop_eq_getElem_cons (by omega), e]
  simp only [rightK, List.getD, List.getElem?_eq_getElem (show i.toNat < ks.length by omega), Option.getD_some]
theorem rngK_get : ∀ {ks : List Tree} {i : Nat}, rngK ks → i < ks.length → rng (ks.getD i Tree.nil)
  | t :: _, 0, h, _ => by simp only [rngK] at h; exact h.1
  | _ :: r, i + 1, h, hi => by simp only [rngK] at h; exact rngK_get (ks := r) (i := i) h.2 (by simpa using hi)
theorem rightT_atom {y : Tree} {d : Int} (h : rightT y d = true) (hk : y.kind = 10) : y.words.length = 1 ∧ y.kids.length = 0 := by
  obtain ⟨k, w, ks⟩ := y
  simp only [Tree.kind_mk] at hk
  subst hk
  simpa [rightT] using h
theorem c37 : Contract Try.prog cfg 37 spec37 := by
  refine make37 c79 ?_
  rintro N ⟨k, ws, ks⟩ d _ hp hN
  simp only [pre37, mu37, mass, rng] at hp hN
  refine vc37 N _ _ _ ?_
  (simp only [vcS])
  (simp only [Tree.eta, Edit.eta, Tree.kind_mk, Tree.words_mk, Tree.kids_mk])
  refine ⟨fun h0 => ends_bool rfl ?_, fun h0 => ⟨fun h10 => ends_bool rfl ?_, fun h10 => ⟨fun hc => ends_bool rfl ?_, fun hc => ⟨fun hw => ends_bool rfl ?_, fun hw => ?_⟩⟩⟩⟩
  · simp only [rightT, if_pos h0]
    rw [Bool.eq_iff_iff]; (simp only [vcS]); omega
  · simp only [rightT, if_neg h0, if_pos h10]
    rw [Bool.eq_iff_iff]; (simp only [vcS]); omega
  · simp only [rightT, if_neg h0, if_neg h10]
    split
    · rfl
    · split
      · rw [decide_eq_false (by omega)]; rfl
      · have : ¬(2 ≤ k ∧ k ≤ 9 ∧ ws.length = 0 ∧ ks.length < 1048576) := by omega
        rw [decide_eq_false this]; rfl
  · simp only [rightT, if_neg h0, if_neg h10]
    rw [if_neg (by omega), if_neg (by omega)]
    have : ¬(2 ≤ k ∧ k ≤ 9 ∧ ws.length = 0 ∧ ks.length < 1048576) := by omega
    rw [decide_eq_false this]; rfl
  · have hb : rightT (.mk k ws ks) d = rightK k ks (d - 1) := by
      simp only [rightT, if_neg h0, if_neg h10]
      rw [if_neg (by omega)]
      split
      · rename_i h1
        rw [decide_eq_true (by omega), h1]; rfl
      · have : 2 ≤ k ∧ k ≤ 9 ∧ ws.length = 0 ∧ ks.length < 1048576 := by omega
        rw [decide_eq_true this]; rfl
    refine loop_rule (ι := Int) (fun p => head37_0 (.mk k ws ks) d p) (fun p => 0 ≤ p ∧ p ≤ ks.length ∧ rightT (.mk k ws ks) d = rightK k (ks.drop p.toNat) (d - 1)) (fun p => ((ks.length : Int) - p).toNat) 0 rfl ⟨by omega, by omega, by simpa using hb⟩ ?_
    rintro i ⟨h1, h2, h3⟩
    refine vc37_l0 N _ _ _ _ _ ?_
    (simp only [vcS])
    (simp only [Tree.eta, Edit.eta, Tree.kind_mk, Tree.words_mk, Tree.kids_mk])
    refine ⟨fun hi => ?_, fun hi => ?_⟩
    · have hd := rightK_drop (l := k) (d := d - 1) h1 hi
      have hm := massK_get (ks := ks) (i := i.toNat) (by omega)
      have hr := rngK_get (i := i.toNat) hp.2.1.2.2 (by omega)
      rw [hd] at h3
      have hlen := massK_len ks
      generalize ks.getD i.toNat Tree.nil = y at *
      have hpre : pre37 (y, d - 1, ()) := ⟨by dsimp only; omega, hr, by dsimp only; omega, by dsimp only; omega⟩
      have hmu : mu37 (y, d - 1, ()) < N := by simp only [mu37]; omega
      have hin : InR (d - 1) := by unfold InR; omega
      refine ⟨⟨h1, hi⟩, hin, hpre, hmu, fun hf => ends_bool rfl ?_, fun hf => ?_⟩
      · rw [h3, hf]; simp
      · have hdata : ((bif decide (2 ≤ k) then decide (k ≤ 7) else false) = (y.kind == 10)) ↔ ((2 ≤ k ∧ k ≤ 7) ↔ y.kind = 10) := by
          rw [Bool.eq_iff_iff]; (simp only [vcS])
        have hat := rightT_atom hf
        have hkb : kidB k y = true ↔ (((2 ≤ k ∧ k ≤ 7) ↔ y.kind = 10) ∧ (¬k = 9 ∨ y.kind = 1)) ∧ ((¬2 ≤ k ∨ ¬k ≤ 7) ∨ fits (k - 2) (y.words.getD 0 0) = true) := by
          unfold kidB
          by_cases hk : 2 ≤ k ∧ k ≤ 7
          · rw [if_pos hk]
            (simp only [vcS])
            constructor
            · rintro ⟨h4, h5⟩; exact ⟨⟨by omega, by omega⟩, .inr h5⟩
            · rintro ⟨⟨h4, _⟩, h5⟩
              have := hat (by omega)
              exact ⟨by omega, by rcases h5 with h5 | h5; omega; exact h5⟩
          · rw [if_neg hk]
            by_cases h9 : k = 9
            · rw [if_pos h9]
              (simp only [vcS])
              constructor
              · intro h4; exact ⟨⟨by omega, by omega⟩, .inl (by omega)⟩
              · rintro ⟨⟨_, h4⟩, _⟩; omega
            · rw [if_neg h9]
              (simp only [vcS])
              constructor
              · intro h4; exact ⟨⟨by omega, by omega⟩, .inl (by omega)⟩
              · rintro ⟨⟨h4, _⟩, _⟩; omega
        have hone : ∀ (h4 : (((bif decide (2 ≤ k) then decide (k ≤ 7) else false) = (y.kind == 10) ∧ (¬k = 9 ∨ y.kind = 1)) ∧ 2 ≤ k ∧ k ≤ 7)), y.words.length = 1 := fun h4 => (hat ((hdata.1 h4.1.1).1 h4.2)).1
        simp only [Int.toNat_zero]
        refine ⟨fun h4 => by unfold InR; omega, fun h4 => by have := hone h4; omega, fun h4 => rng_word hr (by have := hone h4; omega), fun h4 => ends_bool rfl ?_, fun h4 => ⟨by unfold InR; omega, i + 1, rfl, ⟨by omega, by omega, ?_⟩, by omega⟩⟩
        · have hno : kidB k y = false := by
            cases hkk : kidB k y with
            | false => rfl
            | true =>
              exfalso
              obtain ⟨h5, h6⟩ := hkb.1 hkk
              rcases h4 with h4 | ⟨h4, h7⟩
              · rcases h4 with h4 | h4
                · exact h4 (hdata.2 h5.1)
                · omega
              · rcases h6 with h6 | h6
                · omega
                · rw [h7] at h6; cases h6
          rw [h3, hno]; rfl
        · rw [h3, hkb.2 ⟨⟨hdata.1 h4.1.1, h4.1.2⟩, h4.2⟩, hf]; rfl
    · rw [List.drop_eq_nil_of_le (by omega)] at h3
      simp only [rightK] at h3
      exact ends_bool rfl h3.symm
end Go.AM.Ytpjenobkibfpcaa
