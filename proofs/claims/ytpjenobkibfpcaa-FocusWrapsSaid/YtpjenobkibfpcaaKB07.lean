import Derived.Test.YtpjenobkibfpcaaCmY
import Derived.Test.YtpjenobkibfpcaaChecked
import Derived.Test.YtpjenobkibfpcaaRows
import Derived.Test.YtpjenobkibfpcaaCmX
import Derived.Test.YtpjenobkibfpcaaCmXE
import Derived.ProofKit
import Derived.Test.YtpjenobkibfpcaaKD07
set_option linter.unusedSimpArgs false
set_option linter.unusedVariables false
namespace Go.AM.Ytpjenobkibfpcaa
open Go.AM Go.Proofs
def el : Ty → TypeId
  | .u64 => 40
  | .u8 => 5
  | .int => 3
  | .tree => 25
  | .wedit => 42
  | .edit => 31
  | .kid => 84
  | .op => 82
  | .piece => 150
  | .unit => 164
  | .pair => 166
  | .step => 58
  | .deed => 70
def tb : Tables U :=
  { el := el
    sl := [(22, .u64), (23, .tree), (26, .step), (27, .wedit), (28, .kid), (29, .op), (64, .edit), (94, .u8), (146, .piece), (153, .int), (158, .pair), (161, .unit)]
    var := [(2, false, [.int .i64 0]),
      (3, false, [.int .i64 0]),
      (4, false, [.bool false]),
      (5, false, [.int .u8 0]),
      (6, false, [.int .u8 0]),
      (7, true, [.int .i64 0, .int .i64 0, .bool false, .int .u8 0]),
      (8, true, [.int .i64 0, .int .i64 0, .bool false, .int .u8 0]),
      (12, false, [.int .u64 0]),
      (15, false, [.nilp]),
      (16, false, [.nilp]),
      (17, false, [.nilp]),
      (18, true, [.nilp]),
      (19, true, [.nilp]),
      (21, false, [.int .i32 0]),
      (22, false, [.nils]),
      (23, false, [.nils]),
      (24, true, [.int .i64 0, .nils, .nils]),
      (25, true, [.int .i64 0, .nils, .nils]),
      (26, false, [.nils]),
      (27, false, [.nils]),
      (28, false, [.nils]),
      (29, false, [.nils]),
      (30, true, [.int .i64 0, .int .i64 0, .nils, .nils, .int .i64 0, .nils, .nils, .nils, .nils, .int .i64 0, .nils]),
      (31, true, [.int .i64 0, .int .i64 0, .nils, .nils, .int .i64 0, .nils, .nils, .nils, .nils, .int .i64 0, .nils]),
      (40, false, [.int .u64 0]),
      (41, true, [.int .i64 0, .int .u8 0, .int .u64 0, .int .u64 0]),
      (42, true, [.int .i64 0, .int .u8 0, .int .u64 0, .int .u64 0]),
      (57, true, [.int .i64 0, .int .i64 0]),
      (58, true, [.int .i64 0, .int .i64 0]),
      (60, false, [.int .i64 0]),
      (64, false, [.nils]),
      (66, false, [.nilp]),
      (69, true, [.int .i64 0, .int .i64 0, .int .i64 0, .int .i64 0, .nils, .nils, .int .i64 0, .nils, .nils, .nils, .nils, .int .i64 0, .nils]),
      (70, true, [.int .i64 0, .int .i64 0, .int .i64 0, .int .i64 0, .nils, .nils, .int .i64 0, .nils, .nils, .nils, .nils, .int .i64 0, .nils]),
      (81, true, [.int .i64 0, .int .i64 0, .nils, .int .i64 0, .int .i64 0, .nils, .nils, .int .i64 0, .nils, .nils, .nils, .nils, .int .i64 0, .nils]),
      (82, true, [.int .i64 0, .int .i64 0, .nils, .int .i64 0, .int .i64 0, .nils, .nils, .int .i64 0, .nils, .nils, .nils, .nils, .int .i64 0, .nils]),
      (83, true, [.int .i64 0, .int .i64 0, .int .i64 0, .nils, .nils, .int .i64 0, .nils, .nils, .nils, .nils, .int .i64 0, .nils]),
      (84, true, [.int .i64 0, .int .i64 0, .int .i64 0, .nils, .nils, .int .i64 0, .nils, .nils, .nils, .nils, .int .i64 0, .nils]),
      (90, true, [.int .u8 0, .int .u8 0, .int .u8 0, .int .u8 0, .int .u8 0, .int .u8 0, .int .u8 0, .int .u8 0]),
      (94, false, [.nils]),
      (101, false, [.nilp]),
      (102, true, [.bool false, .bool false]),
      (103, true, [.bool false, .bool false]),
      (108, true, [.int .i64 0, .nils, .nils, .nils, .nils]),
      (109, true, [.int .i64 0, .nils, .nils, .nils, .nils]),
      (135, false, [.nilp]),
      (136, true, [.nils, .nils, .nils]),
      (137, true, [.nils, .nils, .nils]),
      (140, false, [.nilp]),
      (146, false, [.nils]),
      (149, true, [.int .i64 0, .int .i64 0, .int .i64 0, .nils, .int .i64 0, .int .i64 0, .nils, .nils, .int .i64 0, .nils, .nils, .nils, .nils, .int .i64 0, .nils, .int .i64 0, .int .i64 0, .nils, .int .i64 0, .int .i64 0, .nils, .nils, .int .i64 0, .nils, .nils, .nils, .nils, .int .i64 0, .nils]),
      (150, true, [.int .i64 0, .int .i64 0, .int .i64 0, .nils, .int .i64 0, .int .i64 0, .nils, .nils, .int .i64 0, .nils, .nils, .nils, .nils, .int .i64 0, .nils, .int .i64 0, .int .i64 0, .nils, .int .i64 0, .int .i64 0, .nils, .nils, .int .i64 0, .nils, .nils, .nils, .nils, .int .i64 0, .nils]),
      (153, false, [.nils]),
      (158, false, [.nils]),
      (161, false, [.nils]),
      (163, true, [.int .i64 0, .int .i64 0, .int .i64 0, .nils, .nils, .int .i64 0, .int .i64 0, .nils, .nils, .int .i64 0, .nils, .nils, .nils, .nils, .int .i64 0, .nils, .bool false]),
      (164, true, [.int .i64 0, .int .i64 0, .int .i64 0, .nils, .nils, .int .i64 0, .int .i64 0, .nils, .nils, .int .i64 0, .nils, .nils, .nils, .nils, .int .i64 0, .nils, .bool false]),
      (165, true, [.int .i64 0, .int .i64 0, .int .i64 0, .int .i64 0, .nils, .nils, .int .i64 0, .int .i64 0, .nils, .nils, .int .i64 0, .nils, .nils, .nils, .nils, .int .i64 0, .nils, .bool false, .int .i64 0, .int .i64 0, .int .i64 0, .nils, .nils, .int .i64 0, .int .i64 0, .nils, .nils, .int .i64 0, .nils, .nils, .nils, .nils, .int .i64 0, .nils, .bool false]),
      (166, true, [.int .i64 0, .int .i64 0, .int .i64 0, .int .i64 0, .nils, .nils, .int .i64 0, .int .i64 0, .nils, .nils, .int .i64 0, .nils, .nils, .nils, .nils, .int .i64 0, .nils, .bool false, .int .i64 0, .int .i64 0, .int .i64 0, .nils, .nils, .int .i64 0, .int .i64 0, .nils, .nils, .int .i64 0, .nils, .nils, .nils, .nils, .int .i64 0, .nils, .bool false]),
      (176, false, [.nilp]),
      (177, true, [.nilp, .nils, .nils, .nils, .nils]),
      (178, true, [.nilp, .nils, .nils, .nils, .nils]),
      (186, false, [.nilp]),
      (187, true, [.nils, .int .i64 0]),
      (188, true, [.nils, .int .i64 0]),
      (206, true, [.int .i64 0, .int .i64 0, .int .i64 0, .int .i64 0, .int .i64 0, .int .i64 0]),
      (214, false, [.int .u32 0]),
      (215, false, [.int .u8 0]),
      (216, false, [.int .u8 0]),
      (218, false, [.nilp]),
      (219, false, [.int .i32 0]),
      (220, false, [.int .i32 0])]
    fld := [(7, 0, 0, 2), (7, 1, 1, 3), (7, 2, 2, 4), (7, 3, 3, 6), (8, 0, 0, 2), (8, 1, 1, 3), (8, 2, 2, 4), (8, 3, 3, 6), (18, 0, 0, 17), (19, 0, 0, 17), (24, 0, 0, 3), (24, 1, 1, 22), (24, 2, 2, 23), (25, 0, 0, 3), (25, 1, 1, 22), (25, 2, 2, 23), (30, 0, 0, 3), (30, 1, 1, 25), (30, 2, 4, 25), (30, 3, 7, 27), (30, 4, 8, 28), (30, 5, 9, 3), (30, 6, 10, 29), (31, 0, 0, 3), (31, 1, 1, 25), (31, 2, 4, 25), (31, 3, 7, 27), (31, 4, 8, 28), (31, 5, 9, 3), (31, 6, 10, 29), (41, 0, 0, 3), (41, 1, 1, 5), (41, 2, 2, 40), (41, 3, 3, 40), (42, 0, 0, 3), (42, 1, 1, 5), (42, 2, 2, 40), (42, 3, 3, 40), (57, 0, 0, 3), (57, 1, 1, 3), (58, 0, 0, 3), (58, 1, 1, 3), (69, 0, 0, 3), (69, 1, 1, 3), (69, 2, 2, 31), (70, 0, 0, 3), (70, 1, 1, 3), (70, 2, 2, 31), (81, 0, 0, 3), (81, 1, 1, 3), (81, 2, 2, 23), (81, 3, 3, 31), (82, 0, 0, 3), (82, 1, 1, 3), (82, 2, 2, 23), (82, 3, 3, 31), (83, 0, 0, 3), (83, 1, 1, 31), (84, 0, 0, 3), (84, 1, 1, 31), (102, 0, 0, 4), (102, 1, 1, 4), (103, 0, 0, 4), (103, 1, 1, 4), (108, 0, 0, 25), (108, 1, 3, 64), (108, 2, 4, 64), (109, 0, 0, 25), (109, 1, 3, 64), (109, 2, 4, 64), (136, 0, 0, 29), (136, 1, 1, 23), (136, 2, 2, 23), (137, 0, 0, 29), (137, 1, 1, 23), (137, 2, 2, 23), (149, 0, 0, 3), (149, 1, 1, 82), (149, 2, 15, 82), (150, 0, 0, 3), (150, 1, 1, 82), (150, 2, 15, 82), (163, 0, 0, 3), (163, 1, 1, 3), (163, 2, 2, 25), (163, 3, 5, 31), (163, 4, 16, 4), (164, 0, 0, 3), (164, 1, 1, 3), (164, 2, 2, 25), (164, 3, 5, 31), (164, 4, 16, 4), (165, 0, 0, 3), (165, 1, 1, 164), (165, 2, 18, 164), (166, 0, 0, 3), (166, 1, 1, 164), (166, 2, 18, 164), (177, 0, 0, 101), (177, 1, 1, 29), (177, 2, 2, 29), (177, 3, 3, 23), (177, 4, 4, 23), (178, 0, 0, 101), (178, 1, 1, 29), (178, 2, 2, 29), (178, 3, 3, 23), (178, 4, 4, 23), (187, 0, 0, 29), (187, 1, 1, 3), (188, 0, 0, 29), (188, 1, 1, 3)]
    arr := [(90, 8, 5), (206, 6, 3)]
    eqs := [41, 42, 57, 58] }
def cfg : Cfg U := tb.cfg K
theorem varOk : tb.var.all (varB Try.prog) = true := by kernel_rfl
theorem slOk : tb.sl.all (slB Try.prog tb.el) = true := by kernel_rfl
theorem fldOk : tb.fld.all (fldB Try.prog) = true := by kernel_rfl
theorem arrOk : tb.arr.all (arrB Try.prog) = true := by kernel_rfl
theorem elOk : ∀ t, elB Try.prog K tb t = true := by
  intro t
  cases t
  · kernel_rfl
  · kernel_rfl
  · kernel_rfl
  · kernel_rfl
  · kernel_rfl
  · kernel_rfl
  · kernel_rfl
  · kernel_rfl
  · kernel_rfl
  · kernel_rfl
  · kernel_rfl
  · kernel_rfl
  · kernel_rfl
theorem cfgOk : CfgOk Try.prog cfg := tables_ok K_ok varOk slOk fldOk arrOk elOk (by kernel_rfl) (by kernel_rfl)
end Go.AM.Ytpjenobkibfpcaa

namespace Go.AM.Ytpjenobkibfpcaa
open Go.AM Go.Proofs Go.Proofs.Ytpjenobkibfpcaa Go.ChangeShapes Go.WideShapes Go.RowKit
theorem own : ownKnob Try.prog.godebug = none := by kernel_rfl
theorem laidOut : laidOutB Try.prog = true := by kernel_rfl
theorem treeTypes : TreeTypes cfg := ⟨rfl, rfl, ⟨_, rfl⟩, ⟨_, rfl⟩, ⟨_, rfl, rfl⟩, ⟨_, _, rfl, rfl⟩, ⟨_, _, rfl, rfl, rfl⟩, ⟨_, _, rfl, rfl, rfl⟩⟩
theorem editTypes : EditTypes cfg := ⟨⟨_, rfl, rfl⟩, ⟨_, _, rfl, rfl⟩, ⟨_, _, rfl, rfl⟩, ⟨_, _, rfl, rfl⟩, ⟨_, _, rfl, rfl⟩, ⟨_, rfl, rfl⟩, ⟨_, _, rfl, rfl⟩, rfl, ⟨_, rfl, rfl⟩, ⟨_, _, rfl, rfl⟩, ⟨_, _, rfl, rfl⟩, ⟨_, _, rfl, rfl, rfl⟩, rfl, ⟨_, rfl, rfl⟩, ⟨_, _, rfl, rfl⟩, rfl, rfl, ⟨_, _, rfl, rfl, rfl⟩, ⟨_, _, rfl, rfl, rfl⟩, ⟨_, _, rfl, rfl⟩, ⟨_, _, rfl, rfl, rfl⟩⟩
theorem argTree {H : Type} {henc : TypeId × Value → H} : ArgR henc Try.prog cfg (aEl .tree) 25 inT := argR_el cfgOk rfl ⟨_, _, rfl⟩ (fun _ n cs h => rd_tree cfgOk treeTypes n cs h)
theorem argEdit {H : Type} {henc : TypeId × Value → H} : ArgR henc Try.prog cfg (aEl .edit) 31 inE := argR_el cfgOk rfl ⟨_, _, rfl⟩ (fun _ n cs h => rd_edit cfgOk treeTypes editTypes n cs h)
end Go.AM.Ytpjenobkibfpcaa

namespace Go.AM.Ytpjenobkibfpcaa
open Go.AM Go.Proofs Go.Proofs.Ytpjenobkibfpcaa Go.ChangeShapes Go.WideShapes Go.RowKit
def inS (s : PStep) : Prop := (IntKind.min .i64 ≤ s.kind ∧ s.kind ≤ IntKind.max .i64) ∧ IntKind.min .i64 ≤ s.at_ ∧ s.at_ ≤ IntKind.max .i64
theorem rd_step {H : Type} {henc : TypeId × Value → H} {w : World} {n : Nat} {cs : List Value} (h : Rdd henc Try.prog w n (cfg.elT .step) cs) : ∃ e : PStep, RelS cfg w.cell? cs (cfg.enc .step e) ∧ inS e := by
  obtain ⟨m, rfl, hl, r0⟩ := rd_fld cfgOk (t := cfg.elT .step) (i := 0) (off := 0) (ft := 3) (ag := false) (zs := [.int .i64 0]) rfl rfl h
  obtain ⟨m', e', _, r1⟩ := rd_fld cfgOk (t := cfg.elT .step) (i := 1) (off := 1) (ft := 3) (ag := false) (zs := [.int .i64 0]) rfl rfl h
  cases e'
  have hl2 : cs.length = 2 := by rw [hl, cellsOf_var cfgOk (t := cfg.elT .step) (ag := true) (zs := [.int .i64 0, .int .i64 0]) rfl]; rfl
  obtain ⟨a, a1, a2⟩ := rd_int cfgOk (k := .i64) (n0 := 0) rfl r0
  obtain ⟨b, b1, b2⟩ := rd_int cfgOk (k := .i64) (n0 := 0) rfl r1
  exact ⟨⟨a, b⟩, a1.glue rfl (by simp; omega) (b1.glue rfl (by simp; omega) (RelS.done (n := 2) hl2)), a2, b2⟩
theorem argSStep {H : Type} {henc : TypeId × Value → H} : ArgR henc Try.prog cfg (aSl .step) 26 (fun l => l.length * cfg.bytes .step ≤ reachBytes ∧ ∀ e ∈ l, inS e) :=
  argR_sl cfgOk rfl (fun _ n cs h => rd_step h)
theorem inSteps {l : List PStep} (h : l.length * cfg.bytes .step ≤ reachBytes ∧ ∀ e ∈ l, inS e) : ∀ s ∈ l, isI s.kind ∧ isI s.at_ := fun s hs => h.2 s hs
end Go.AM.Ytpjenobkibfpcaa

namespace Go.AM.Ytpjenobkibfpcaa
open Go.AM Go.Proofs
def args78 : ArgL (Tree × Int × Int × Unit) := (.cons (aEl .tree) (.cons (aInt .i64) (.cons (aInt .i64) .nil)))
def pre78 (a : Tree × Int × Int × Unit) : Prop := small a.1 ∧ 0 ≤ a.2.1 ∧ a.2.1 ≤ 4611686018427387904 ∧ -1 ≤ a.2.2.1 ∧ a.2.2.1 ≤ 4611686018427387904
def mu78 (a : Tree × Int × Int × Unit) : Nat := mass a.1
noncomputable def res78 (a : Tree × Int × Int × Unit) : V U := .c (.int .i64 (shallow a.1 a.2.1 a.2.2.1))
noncomputable def spec78 : Fs U := fs args78 (fun a => [pre78 a]) res78
def args36 : ArgL (Tree × Unit) := (.cons (aEl .tree) .nil)
def pre36 (a : Tree × Unit) : Prop := small a.1
noncomputable def res36 (a : Tree × Unit) : V U := .c (.bool (decide (0 ≤ shallow a.1 80 3000)))
noncomputable def spec36 : Fs U := fs args36 (fun a => [pre36 a]) res36
def args75 : ArgL (List Int × List Int × Unit) := (.cons (aSl .u64) (.cons (aSl .u64) .nil))
def pre75 (a : List Int × List Int × Unit) : Prop := a.1.length ≤ 1000000000000
noncomputable def res75 (a : List Int × List Int × Unit) : V U := .c (.bool (decide (a.1 = a.2.1)))
noncomputable def spec75 : Fs U := fs args75 (fun a => [pre75 a]) res75
def args84 : ArgL (List Int × Unit) := (.cons (aSl .u64) .nil)
def pre84 (a : List Int × Unit) : Prop := a.1.length ≤ 1000000000000
noncomputable def res84 (a : List Int × Unit) : V U := .c (.slice (U := U) .u64 (trim a.1) .unk)
noncomputable def spec84 : Fs U := fs args84 (fun a => [pre84 a]) res84
def args109 : ArgL (List Int × Unit) := (.cons (aSl .u64) .nil)
def pre109 (a : List Int × Unit) : Prop := a.1.length ≤ 1000000000000
noncomputable def res109 (a : List Int × Unit) : V U := .c (.slice (U := U) .u64 a.1 .unk)
noncomputable def spec109 : Fs U := fs args109 (fun a => [pre109 a]) res109
def args91 : ArgL (Tree × Int × Unit) := (.cons (aEl .tree) (.cons (aInt .i64) .nil))
def pre91 (a : Tree × Int × Unit) : Prop := True
noncomputable def res91 (a : Tree × Int × Unit) : V U := .agg [.int .i64 (Tree.kind (kidAt a.1 a.2.1)), .slice (U := U) .u64 (Tree.words (kidAt a.1 a.2.1)) .unk, .slice (U := U) .tree (Tree.kids (kidAt a.1 a.2.1)) .unk]
noncomputable def spec91 : Fs U := fs args91 (fun a => [pre91 a]) res91
def args45 : ArgL (Tree × Unit) := (.cons (aEl .tree) .nil)
def pre45 (a : Tree × Unit) : Prop := mass a.1 ≤ 1000000000000
def mu45 (a : Tree × Unit) : Nat := mass a.1
noncomputable def res45 (a : Tree × Unit) : V U := .agg [.int .i64 (Tree.kind (normT a.1)), .slice (U := U) .u64 (Tree.words (normT a.1)) .unk, .slice (U := U) .tree (Tree.kids (normT a.1)) .unk]
noncomputable def spec45 : Fs U := fs args45 (fun a => [pre45 a]) res45
def args71 : ArgL (Tree × Unit) := (.cons (aEl .tree) .nil)
def pre71 (a : Tree × Unit) : Prop := mass a.1 ≤ 1000000000000
def mu71 (a : Tree × Unit) : Nat := mass a.1
noncomputable def res71 (a : Tree × Unit) : V U := .agg [.int .i64 (Tree.kind (normT a.1)), .slice (U := U) .u64 (Tree.words (normT a.1)) .unk, .slice (U := U) .tree (Tree.kids (normT a.1)) .unk]
noncomputable def spec71 : Fs U := fs args71 (fun a => [pre71 a]) res71
def args29 : ArgL (Tree × Tree × Unit) := (.cons (aEl .tree) (.cons (aEl .tree) .nil))
def pre29 (a : Tree × Tree × Unit) : Prop := mass a.1 ≤ 1000000000000
def mu29 (a : Tree × Tree × Unit) : Nat := mass a.1
noncomputable def res29 (a : Tree × Tree × Unit) : V U := .c (.bool (sameT a.1 a.2.1))
noncomputable def spec29 : Fs U := fs args29 (fun a => [pre29 a]) res29
noncomputable def know78 (N : Nat) : List (FuncId × Fs U) := (78, fs args78 (fun a => [pre78 a, mu78 a < N]) res78) :: []
def lv78 : Lives U := fun i => match i with
  | 0 => ([(1, []), (2, []), (3, [])], [((.loc 3), [])])
  | 1 => ([(1, []), (2, []), (3, [])], [((.loc 3), [])])
  | 2 => ([(1, []), (2, []), (3, []), (19, [])], [((.loc 3), [])])
  | 3 => ([(6, [])], [])
  | 4 => ([(1, []), (2, []), (3, []), (7, [])], [((.loc 3), [])])
  | 5 => ([(1, []), (2, []), (3, []), (7, []), (28, [])], [((.loc 3), [])])
  | 6 => ([(1, []), (2, []), (3, []), (7, [])], [((.loc 3), [])])
  | 7 => ([(1, []), (2, []), (3, []), (7, [])], [((.loc 3), [])])
  | 8 => ([(6, [])], [])
  | _ => ([], [])
noncomputable def head78_0 (t : Tree) (d : Int) (l : Int) (x2 : Int) (x7 : Int) : LSt U := (⟨[(1, .c (.int .i64 d)), (2, .c (.int .i64 x2)), (3, .ptr (.loc 3) 0), (7, .c (.int .i64 x7))], [((.loc 3), [.int .i64 (Tree.kind t), .slice (U := U) .u64 (Tree.words t) .unk, .slice (U := U) .tree (Tree.kids t) .unk])], []⟩ : LSt U)
noncomputable abbrev A78 (N : Nat) (p : List Nat) := awp cfg (know (know78 N)) (drawOk cfg (know (know78 N))) Try.f78.ntmps lv78 (cd Try.f78 p)
noncomputable abbrev S78 (N : Nat) (p : List Nat) := seqK cfg (know (know78 N)) (drawOk cfg (know (know78 N))) Try.f78.ntmps lv78 (cd Try.f78 p)
theorem vc78 (N : Nat) (t : Tree) (d : Int) (l : Int) (Q : AExit → LSt U → Prop) (h : ((InR ((l : Int) - 1)) ∧ (InR ((((l : Int) - 1) : Int) - ((Tree.words t).length : Int))) ∧ ((Tr ((!((d : Int) == 0)) = true)) ∧ ((((d : Int) == 0) = false → (!((d : Int) == 0)) = true)) ∧ (((bif ((d : Int) == 0) then true else (decide ((((((l : Int) - 1) : Int) - ((Tree.words t).length : Int)) : Int) < 0))) = true → (Q .ret (⟨[(6, .c (.int .i64 (-1)))], [], []⟩ : LSt U))) ∧ ((bif ((d : Int) == 0) then true else (decide ((((((l : Int) - 1) : Int) - ((Tree.words t).length : Int)) : Int) < 0))) = false → (LoopWp (A78 N [1, 1, 1, 0, 1, 0, 0]) (head78_0 t d l ((((l : Int) - 1) : Int) - ((Tree.words t).length : Int)) 0) (AExit.inBlock 0 (S78 N [1, 1, 1, 1] Q)))))))) :
    A78 N [] (⟨[(0, .agg [.int .i64 (Tree.kind t), .slice (U := U) .u64 (Tree.words t) .unk, .slice (U := U) .tree (Tree.kids t) .unk]), (1, .c (.int .i64 d)), (2, .c (.int .i64 l))], [], []⟩ : LSt U) Q :=
  Eq.mpr (by kernel_rfl) h
theorem vc78_l0 (N : Nat) (t : Tree) (d : Int) (l : Int) (x2 : Int) (x7 : Int) (N0 : LSt U → Prop) (Q : AExit → LSt U → Prop) (h : (Tr ((decide ((x7 : Int) < ((Tree.kids t).length : Int))) = true)) ∧ ((Tr ((decide ((x7 : Int) < ((Tree.kids t).length : Int))) = true))) ∧ (((bif (decide ((x7 : Int) < ((Tree.kids t).length : Int))) then (decide ((0 : Int) ≤ x2)) else false) = true → ((0 : Int) ≤ x7 ∧ x7 < ((Tree.kids t).length : Int)) ∧ (InR ((d : Int) - 1)) ∧ (pre78 ((Tree.mk (Tree.kind (List.getD (Tree.kids t) (Int.toNat x7) Tree.nil)) (Tree.words (List.getD (Tree.kids t) (Int.toNat x7) Tree.nil)) (Tree.kids (List.getD (Tree.kids t) (Int.toNat x7) Tree.nil))), ((d : Int) - 1), x2, ())) ∧ (mu78 ((Tree.mk (Tree.kind (List.getD (Tree.kids t) (Int.toNat x7) Tree.nil)) (Tree.words (List.getD (Tree.kids t) (Int.toNat x7) Tree.nil)) (Tree.kids (List.getD (Tree.kids t) (Int.toNat x7) Tree.nil))), ((d : Int) - 1), x2, ()) < N) ∧ ((InR ((x7 : Int) + 1)) ∧ (N0 (head78_0 t d l (shallow (Tree.mk (Tree.kind (List.getD (Tree.kids t) (Int.toNat x7) Tree.nil)) (Tree.words (List.getD (Tree.kids t) (Int.toNat x7) Tree.nil)) (Tree.kids (List.getD (Tree.kids t) (Int.toNat x7) Tree.nil))) ((d : Int) - 1) x2) ((x7 : Int) + 1))))) ∧ ((bif (decide ((x7 : Int) < ((Tree.kids t).length : Int))) then (decide ((0 : Int) ≤ x2)) else false) = false → (Q .ret (⟨[(6, .c (.int .i64 x2))], [], []⟩ : LSt U))))) :
    A78 N [1, 1, 1, 0, 1, 0, 0] (head78_0 t d l x2 x7) (AExit.then N0 (AExit.inBlock 0 (S78 N [1, 1, 1, 1] Q))) :=
  Eq.mpr (by kernel_rfl) h
def Body78 (N : Nat) (t : Tree) (d : Int) (l : Int)  : Prop := awp cfg (know (know78 N)) (drawOk cfg (know (know78 N))) Try.f78.ntmps lv78 (cd Try.f78 []) (entry (args78.can (t, d, l, ())) []) (EndsQ cfg Try.f78.ntmps Try.f78.results.toList (res78 (t, d, l, ())) [])
theorem make78 (hb : ∀ (N : Nat) (t : Tree) (d : Int) (l : Int) (_ : Unit), pre78 (t, d, l, ()) → mu78 (t, d, l, ()) < N + 1 → Body78 N t d l) : Contract Try.prog cfg 78 spec78 :=
  contract_rec (μ := mu78) (l := []) cfgOk rfl (trivial) lv78 Try.func78 rfl rfl 3 (fun _ => rfl) (by decide) (fun N ⟨t, d, l, _⟩ => hb N t d l ())
noncomputable def know36 : List (FuncId × Fs U) := [(78, spec78)]
def lv36 : Lives U := fun i => match i with
  | 0 => ([(1, [])], [((.loc 1), [])])
  | 1 => ([(2, [])], [])
  | _ => ([], [])
noncomputable abbrev A36 (p : List Nat) := awp cfg (know know36) (drawOk cfg (know know36)) Try.f36.ntmps lv36 (cd Try.f36 p)
theorem vc36 (t : Tree) (Q : AExit → LSt U → Prop) (h : ((pre78 ((Tree.mk (Tree.kind t) (Tree.words t) (Tree.kids t)), 80, 3000, ())) ∧ (Q .ret (⟨[(2, .c (.bool (decide ((0 : Int) ≤ (shallow (Tree.mk (Tree.kind t) (Tree.words t) (Tree.kids t)) 80 3000)))))], [], []⟩ : LSt U)))) :
    A36 [] (⟨[(0, .agg [.int .i64 (Tree.kind t), .slice (U := U) .u64 (Tree.words t) .unk, .slice (U := U) .tree (Tree.kids t) .unk])], [], []⟩ : LSt U) Q :=
  Eq.mpr (by kernel_rfl) h
def Body36 (t : Tree)  : Prop := awp cfg (know (know36)) (drawOk cfg (know (know36))) Try.f36.ntmps lv36 (cd Try.f36 []) (entry (args36.can (t, ())) []) (EndsQ cfg Try.f36.ntmps Try.f36.results.toList (res36 (t, ())) [])
theorem make36 (c78 : Contract Try.prog cfg 78 spec78) (hb : ∀ (t : Tree) (_ : Unit), pre36 (t, ()) → Body36 t) : Contract Try.prog cfg 36 spec36 :=
  contract_flat (l := [(78, spec78)]) cfgOk rfl (⟨c78, trivial⟩) lv36 Try.func36 rfl rfl 1 (fun _ => rfl) (by decide) (fun ⟨t, _⟩ => hb t ())
noncomputable def know75 : List (FuncId × Fs U) := []
def lv75 : Lives U := fun i => match i with
  | 0 => ([(0, []), (1, [])], [])
  | 1 => ([(0, []), (1, []), (10, [])], [])
  | 2 => ([(4, [])], [])
  | 3 => ([(0, []), (1, []), (5, [])], [])
  | 4 => ([(0, []), (1, []), (5, []), (14, [])], [])
  | 5 => ([(0, []), (1, []), (5, [])], [])
  | 6 => ([(0, []), (1, []), (5, []), (25, [])], [])
  | 7 => ([(4, [])], [])
  | 8 => ([(4, [])], [])
  | _ => ([], [])
noncomputable def head75_0 (a : List Int) (b : List Int) (x5 : Int) : LSt U := (⟨[(0, .c (.slice (U := U) .u64 a .unk)), (1, .c (.slice (U := U) .u64 b .unk)), (5, .c (.int .i64 x5))], [], []⟩ : LSt U)
noncomputable abbrev A75 (p : List Nat) := awp cfg (know know75) (drawOk cfg (know know75)) Try.f75.ntmps lv75 (cd Try.f75 p)
noncomputable abbrev S75 (p : List Nat) := seqK cfg (know know75) (drawOk cfg (know know75)) Try.f75.ntmps lv75 (cd Try.f75 p)
theorem vc75 (a : List Int) (b : List Int) (Q : AExit → LSt U → Prop) (h : ((((((a.length : Int) : Int) != (b.length : Int)) = true → (Q .ret (⟨[(4, .c (.bool false))], [], []⟩ : LSt U))) ∧ ((((a.length : Int) : Int) != (b.length : Int)) = false → (LoopWp (A75 [1, 1, 0, 1, 0, 0]) (head75_0 a b 0) (AExit.inBlock 0 (S75 [1, 1, 1] Q))))))) :
    A75 [] (⟨[(0, .c (.slice (U := U) .u64 a .unk)), (1, .c (.slice (U := U) .u64 b .unk))], [], []⟩ : LSt U) Q :=
  Eq.mpr (by kernel_rfl) h
theorem vc75_l0 (a : List Int) (b : List Int) (x5 : Int) (N0 : LSt U → Prop) (Q : AExit → LSt U → Prop) (h : (((decide ((x5 : Int) < (a.length : Int))) = true → ((0 : Int) ≤ x5 ∧ x5 < (a.length : Int)) ∧ ((0 : Int) ≤ x5 ∧ x5 < (b.length : Int)) ∧ (((((List.getD a (Int.toNat x5) (0 : Int)) : Int) != (List.getD b (Int.toNat x5) (0 : Int))) = true → (Q .ret (⟨[(4, .c (.bool false))], [], []⟩ : LSt U))) ∧ ((((List.getD a (Int.toNat x5) (0 : Int)) : Int) != (List.getD b (Int.toNat x5) (0 : Int))) = false → (InR ((x5 : Int) + 1)) ∧ (N0 (head75_0 a b ((x5 : Int) + 1)))))) ∧ ((decide ((x5 : Int) < (a.length : Int))) = false → (Q .ret (⟨[(4, .c (.bool true))], [], []⟩ : LSt U))))) :
    A75 [1, 1, 0, 1, 0, 0] (head75_0 a b x5) (AExit.then N0 (AExit.inBlock 0 (S75 [1, 1, 1] Q))) :=
  Eq.mpr (by kernel_rfl) h
def Body75 (a : List Int) (b : List Int)  : Prop := awp cfg (know (know75)) (drawOk cfg (know (know75))) Try.f75.ntmps lv75 (cd Try.f75 []) (entry (args75.can (a, b, ())) []) (EndsQ cfg Try.f75.ntmps Try.f75.results.toList (res75 (a, b, ())) [])
theorem make75 (hb : ∀ (a : List Int) (b : List Int) (_ : Unit), pre75 (a, b, ()) → Body75 a b) : Contract Try.prog cfg 75 spec75 :=
  contract_flat (l := []) cfgOk rfl (trivial) lv75 Try.func75 rfl rfl 2 (fun _ => rfl) (by decide) (fun ⟨a, b, _⟩ => hb a b ())
noncomputable def know84 : List (FuncId × Fs U) := []
def lv84 : Lives U := fun i => match i with
  | 0 => ([(0, [])], [])
  | 1 => ([(0, []), (3, [])], [])
  | 2 => ([(0, []), (3, []), (16, [])], [])
  | 3 => ([(0, []), (3, [])], [])
  | 4 => ([(0, []), (3, []), (4, [])], [])
  | 5 => ([(2, [])], [])
  | _ => ([], [])
noncomputable def head84_0 (l : List Int) (x3 : Int) : LSt U := (⟨[(0, .c (.slice (U := U) .u64 l .unk)), (3, .c (.int .i64 x3))], [], []⟩ : LSt U)
noncomputable abbrev A84 (p : List Nat) := awp cfg (know know84) (drawOk cfg (know know84)) Try.f84.ntmps lv84 (cd Try.f84 p)
noncomputable abbrev S84 (p : List Nat) := seqK cfg (know know84) (drawOk cfg (know know84)) Try.f84.ntmps lv84 (cd Try.f84 p)
theorem vc84 (l : List Int) (Q : AExit → LSt U → Prop) (h : ((LoopWp (A84 [1, 1, 0, 0, 0]) (head84_0 l (l.length : Int)) (AExit.inBlock 0 (S84 [1, 1, 1] Q))))) :
    A84 [] (⟨[(0, .c (.slice (U := U) .u64 l .unk))], [], []⟩ : LSt U) Q :=
  Eq.mpr (by kernel_rfl) h
theorem vc84_l0 (l : List Int) (x3 : Int) (N0 : LSt U → Prop) (Q : AExit → LSt U → Prop) (h : (Tr ((decide ((0 : Int) < x3)) = true)) ∧ ((decide ((0 : Int) < x3)) = true → InR ((x3 : Int) - 1)) ∧ (Tr ((decide ((0 : Int) < x3)) = true)) ∧ (Tr ((decide ((0 : Int) < x3)) = true)) ∧ ((decide ((0 : Int) < x3)) = true → (0 : Int) ≤ ((x3 : Int) - 1) ∧ ((x3 : Int) - 1) < (l.length : Int)) ∧ (Tr ((decide ((0 : Int) < x3)) = true)) ∧ (Tr ((decide ((0 : Int) < x3)) = true)) ∧ ((Tr ((decide ((0 : Int) < x3)) = true))) ∧ (((bif (decide ((0 : Int) < x3)) then (((List.getD l (Int.toNat ((x3 : Int) - 1)) (0 : Int)) : Int) == 0) else false) = true → (InR ((x3 : Int) - 1)) ∧ (N0 (head84_0 l ((x3 : Int) - 1)))) ∧ ((bif (decide ((0 : Int) < x3)) then (((List.getD l (Int.toNat ((x3 : Int) - 1)) (0 : Int)) : Int) == 0) else false) = false → (((0 : Int) ≤ x3 ∧ x3 ≤ (l.length : Int)) ∧ ((([] : List Int).length + (List.take (Int.toNat x3) l).length) * 8 ≤ 140737488355328) ∧ (Q .ret (⟨[(2, .c (.slice (U := U) .u64 (([] : List Int) ++ (List.take (Int.toNat x3) l)) (.own (.e 2 0))))], [], []⟩ : LSt U)))))) :
    A84 [1, 1, 0, 0, 0] (head84_0 l x3) (AExit.then N0 (AExit.inBlock 0 (S84 [1, 1, 1] Q))) :=
  Eq.mpr (by kernel_rfl) h
def Body84 (l : List Int)  : Prop := awp cfg (know (know84)) (drawOk cfg (know (know84))) Try.f84.ntmps lv84 (cd Try.f84 []) (entry (args84.can (l, ())) []) (EndsQ cfg Try.f84.ntmps Try.f84.results.toList (res84 (l, ())) [])
theorem make84 (hb : ∀ (l : List Int) (_ : Unit), pre84 (l, ()) → Body84 l) : Contract Try.prog cfg 84 spec84 :=
  contract_flat (l := []) cfgOk rfl (trivial) lv84 Try.func84 rfl rfl 1 (fun _ => rfl) (by decide) (fun ⟨l, _⟩ => hb l ())
noncomputable def know109 : List (FuncId × Fs U) := []
def lv109 : Lives U := fun i => match i with
  | 0 => ([(0, [])], [])
  | 1 => ([(0, []), (4, [])], [])
  | 2 => ([(2, [])], [])
  | 3 => ([(2, [])], [])
  | _ => ([], [])
noncomputable abbrev A109 (p : List Nat) := awp cfg (know know109) (drawOk cfg (know know109)) Try.f109.ntmps lv109 (cd Try.f109 p)
theorem vc109 (l : List Int) (Q : AExit → LSt U → Prop) (h : ((((l = []) → (Q .ret (⟨[(2, .c (.nils))], [], []⟩ : LSt U))) ∧ ((True) → ((([] : List Int).length + l.length) * 8 ≤ 140737488355328) ∧ (Q .ret (⟨[(2, .c (.slice (U := U) .u64 (([] : List Int) ++ l) (.own (.e 2 0))))], [], []⟩ : LSt U)))))) :
    A109 [] (⟨[(0, .c (.slice (U := U) .u64 l .unk))], [], []⟩ : LSt U) Q :=
  Eq.mpr (by kernel_rfl) h
def Body109 (l : List Int)  : Prop := awp cfg (know (know109)) (drawOk cfg (know (know109))) Try.f109.ntmps lv109 (cd Try.f109 []) (entry (args109.can (l, ())) []) (EndsQ cfg Try.f109.ntmps Try.f109.results.toList (res109 (l, ())) [])
theorem make109 (hb : ∀ (l : List Int) (_ : Unit), pre109 (l, ()) → Body109 l) : Contract Try.prog cfg 109 spec109 :=
  contract_flat (l := []) cfgOk rfl (trivial) lv109 Try.func109 rfl rfl 1 (fun _ => rfl) (by decide) (fun ⟨l, _⟩ => hb l ())
noncomputable def know91 : List (FuncId × Fs U) := []
def lv91 : Lives U := fun i => match i with
  | 0 => ([(1, []), (2, []), (4, [])], [((.loc 2), []), ((.loc 4), [])])
  | 1 => ([(1, []), (2, []), (4, []), (13, [])], [((.loc 2), []), ((.loc 4), [])])
  | 2 => ([(4, [])], [((.loc 4), [])])
  | 3 => ([(4, [])], [((.loc 4), [])])
  | _ => ([], [])
noncomputable abbrev A91 (p : List Nat) := awp cfg (know know91) (drawOk cfg (know know91)) Try.f91.ntmps lv91 (cd Try.f91 p)
theorem vc91 (t : Tree) (i : Int) (Q : AExit → LSt U → Prop) (h : ((Tr ((!(decide ((i : Int) < 0))) = true)) ∧ (Tr ((!(decide ((i : Int) < 0))) = true)) ∧ (Tr ((!(decide ((i : Int) < 0))) = true)) ∧ (Tr ((!(decide ((i : Int) < 0))) = true)) ∧ (((decide ((i : Int) < 0)) = false → (!(decide ((i : Int) < 0))) = true)) ∧ (((bif (decide ((i : Int) < 0)) then true else (decide ((((Tree.kids t).length : Int) : Int) ≤ i))) = true → (Q .ret (⟨[(4, .ptr (.loc 4) 0)], [((.loc 4), [.int .i64 0, .nils, .nils])], []⟩ : LSt U))) ∧ ((bif (decide ((i : Int) < 0)) then true else (decide ((((Tree.kids t).length : Int) : Int) ≤ i))) = false → ((0 : Int) ≤ i ∧ i < ((Tree.kids t).length : Int)) ∧ (Q .ret (⟨[(4, .ptr (.loc 4) 0)], [((.loc 4), [.int .i64 (Tree.kind (List.getD (Tree.kids t) (Int.toNat i) Tree.nil)), .slice (U := U) .u64 (Tree.words (List.getD (Tree.kids t) (Int.toNat i) Tree.nil)) .unk, .slice (U := U) .tree (Tree.kids (List.getD (Tree.kids t) (Int.toNat i) Tree.nil)) .unk])], []⟩ : LSt U)))))) :
    A91 [] (⟨[(0, .agg [.int .i64 (Tree.kind t), .slice (U := U) .u64 (Tree.words t) .unk, .slice (U := U) .tree (Tree.kids t) .unk]), (1, .c (.int .i64 i))], [], []⟩ : LSt U) Q :=
  Eq.mpr (by kernel_rfl) h
def Body91 (t : Tree) (i : Int)  : Prop := awp cfg (know (know91)) (drawOk cfg (know (know91))) Try.f91.ntmps lv91 (cd Try.f91 []) (entry (args91.can (t, i, ())) []) (EndsQ cfg Try.f91.ntmps Try.f91.results.toList (res91 (t, i, ())) [])
theorem make91 (hb : ∀ (t : Tree) (i : Int) (_ : Unit), pre91 (t, i, ()) → Body91 t i) : Contract Try.prog cfg 91 spec91 :=
  contract_flat (l := []) cfgOk rfl (trivial) lv91 Try.func91 rfl rfl 2 (fun _ => rfl) (by decide) (fun ⟨t, i, _⟩ => hb t i ())
noncomputable def know45 (N : Nat) : List (FuncId × Fs U) := (45, fs args45 (fun a => [pre45 a, mu45 a < N]) res45) :: [(84, spec84)]
def lv45 : Lives U := fun i => match i with
  | 0 => ([(1, []), (2, [])], [((.loc 1), []), ((.loc 2), [])])
  | 1 => ([(1, []), (2, []), (10, [])], [((.loc 1), []), ((.loc 2), [])])
  | 2 => ([(2, [])], [((.loc 2), [])])
  | 3 => ([(1, []), (2, []), (3, [])], [((.loc 1), []), ((.loc 2), [])])
  | 4 => ([(1, []), (2, []), (3, []), (4, [])], [((.loc 1), []), ((.loc 2), [])])
  | 5 => ([(1, []), (2, []), (3, [.own .tree]), (4, []), (5, [])], [((.loc 1), []), ((.loc 2), [])])
  | 6 => ([(1, []), (2, []), (3, []), (4, []), (5, []), (16, [])], [((.loc 1), []), ((.loc 2), [])])
  | 7 => ([(1, []), (2, []), (3, [.own .tree]), (4, []), (5, [])], [((.loc 1), []), ((.loc 2), [])])
  | 8 => ([(1, []), (2, []), (3, []), (4, []), (5, []), (6, [])], [((.loc 1), []), ((.loc 2), []), ((.loc 6), [])])
  | 9 => ([(1, []), (2, []), (3, []), (4, []), (5, []), (6, [])], [((.loc 1), []), ((.loc 2), []), ((.loc 6), [])])
  | 10 => ([(1, []), (2, []), (3, []), (4, []), (5, []), (31, [])], [((.loc 1), []), ((.loc 2), [])])
  | 11 => ([(1, []), (2, []), (3, []), (4, []), (5, [])], [((.loc 1), []), ((.loc 2), [])])
  | 12 => ([(1, []), (2, []), (3, []), (4, []), (36, [])], [((.loc 1), []), ((.loc 2), [])])
  | 13 => ([(2, [])], [((.loc 2), [])])
  | 14 => ([(1, []), (2, []), (3, []), (7, [])], [((.loc 1), []), ((.loc 2), [])])
  | 15 => ([(1, []), (2, []), (3, []), (7, [])], [((.loc 1), []), ((.loc 2), [])])
  | 16 => ([(2, [])], [((.loc 2), [])])
  | _ => ([], [])
noncomputable def head45_0 (t : Tree) (x4 : Int) (x5 : Int) (x3 : List Tree) : LSt U := (⟨[(1, .ptr (.loc 1) 0), (2, .ptr (.loc 2) 0), (3, .c (.slice (U := U) .tree x3 (.own (.e 3 0)))), (4, .c (.int .i64 x4)), (5, .c (.int .i64 x5))], [((.loc 1), [.int .i64 (Tree.kind t), .slice (U := U) .u64 (Tree.words t) .unk, .slice (U := U) .tree (Tree.kids t) .unk]), ((.loc 2), [.int .i64 0, .nils, .nils])], []⟩ : LSt U)
noncomputable abbrev A45 (N : Nat) (p : List Nat) := awp cfg (know (know45 N)) (drawOk cfg (know (know45 N))) Try.f45.ntmps lv45 (cd Try.f45 p)
noncomputable abbrev S45 (N : Nat) (p : List Nat) := seqK cfg (know (know45 N)) (drawOk cfg (know (know45 N))) Try.f45.ntmps lv45 (cd Try.f45 p)
theorem vc45 (N : Nat) (t : Tree) (Q : AExit → LSt U → Prop) (h : ((((((Tree.kind t) : Int) == 0) = true → (Q .ret (⟨[(2, .ptr (.loc 2) 0)], [((.loc 2), [.int .i64 0, .nils, .nils])], []⟩ : LSt U))) ∧ ((((Tree.kind t) : Int) == 0) = false → (((LoopWp (A45 N [1, 1, 1, 1, 0, 1, 0, 0]) (head45_0 t 0 0 ([])) (AExit.inBlock 0 (S45 N [1, 1, 1, 1, 1] Q))))))))) :
    A45 N [] (⟨[(0, .agg [.int .i64 (Tree.kind t), .slice (U := U) .u64 (Tree.words t) .unk, .slice (U := U) .tree (Tree.kids t) .unk])], [], []⟩ : LSt U) Q :=
  Eq.mpr (by kernel_rfl) h
theorem vc45_l0 (N : Nat) (t : Tree) (x4 : Int) (x5 : Int) (x3 : List Tree) (N0 : LSt U → Prop) (Q : AExit → LSt U → Prop) (h : ∀ y_1, y_1 = (List.getD (Tree.kids t) (Int.toNat x5) Tree.nil) → ∀ y_2, y_2 = (y_1) → ∀ y_3, y_3 = ((normT y_2)) → (((decide ((x5 : Int) < ((Tree.kids t).length : Int))) = true → ((0 : Int) ≤ x5 ∧ x5 < ((Tree.kids t).length : Int)) ∧ (pre45 (y_2, ())) ∧ (mu45 (y_2, ()) < N) ∧ (((x3.length + ([y_3]).length) * 56 ≤ 140737488355328) ∧ ((((((Tree.kind (normT y_2)) : Int) != 0) = true → (InR ((x5 : Int) + 1)) ∧ ((InR ((x5 : Int) + 1)) ∧ (N0 (head45_0 t ((x5 : Int) + 1) ((x5 : Int) + 1) (x3 ++ ([y_3])))))) ∧ ((((Tree.kind (normT y_2)) : Int) != 0) = false → (InR ((x5 : Int) + 1)) ∧ (N0 (head45_0 t x4 ((x5 : Int) + 1) (x3 ++ ([y_3]))))))))) ∧ ((decide ((x5 : Int) < ((Tree.kids t).length : Int))) = false → (((((Tree.kind t) : Int) == 1) = true → (pre84 ((Tree.words t), ())) ∧ ((0 : Int) ≤ x4 ∧ x4 ≤ (x3.length : Int)) ∧ (Q .ret (⟨[(2, .ptr (.loc 2) 0)], [((.loc 2), [.int .i64 1, .slice (U := U) .u64 (trim (Tree.words t)) .unk, .slice (U := U) .tree (List.take (Int.toNat x4) x3) .unk])], []⟩ : LSt U))) ∧ ((((Tree.kind t) : Int) == 1) = false → (((([] : List Int).length + (Tree.words t).length) * 8 ≤ 140737488355328) ∧ ((Q .ret (⟨[(2, .ptr (.loc 2) 0)], [((.loc 2), [.int .i64 (Tree.kind t), .slice (U := U) .u64 (([] : List Int) ++ (Tree.words t)) (.own (.l 2 1)), .slice (U := U) .tree x3 (.own (.l 2 2))])], []⟩ : LSt U))))))))) :
    A45 N [1, 1, 1, 1, 0, 1, 0, 0] (head45_0 t x4 x5 x3) (AExit.then N0 (AExit.inBlock 0 (S45 N [1, 1, 1, 1, 1] Q))) :=
  Eq.mpr (by kernel_rfl) (h _ rfl _ (reTree_eq _) _ (reTree_eq _))
def Body45 (N : Nat) (t : Tree)  : Prop := awp cfg (know (know45 N)) (drawOk cfg (know (know45 N))) Try.f45.ntmps lv45 (cd Try.f45 []) (entry (args45.can (t, ())) []) (EndsQ cfg Try.f45.ntmps Try.f45.results.toList (res45 (t, ())) [])
theorem make45 (c84 : Contract Try.prog cfg 84 spec84) (hb : ∀ (N : Nat) (t : Tree) (_ : Unit), pre45 (t, ()) → mu45 (t, ()) < N + 1 → Body45 N t) : Contract Try.prog cfg 45 spec45 :=
  contract_rec (μ := mu45) (l := [(84, spec84)]) cfgOk rfl (⟨c84, trivial⟩) lv45 Try.func45 rfl rfl 1 (fun _ => rfl) (by decide) (fun N ⟨t, _⟩ => hb N t ())
noncomputable def know71 (N : Nat) : List (FuncId × Fs U) := (71, fs args71 (fun a => [pre71 a, mu71 a < N]) res71) :: [(109, spec109)]
def lv71 : Lives U := fun i => match i with
  | 0 => ([(1, []), (2, [])], [((.loc 1), []), ((.loc 2), [])])
  | 1 => ([(1, []), (2, []), (8, [])], [((.loc 1), []), ((.loc 2), [])])
  | 2 => ([(2, [])], [((.loc 2), [])])
  | 3 => ([(1, []), (2, []), (3, [])], [((.loc 1), []), ((.loc 2), []), ((.loc 3), [])])
  | 4 => ([(1, []), (2, []), (3, []), (17, []), (18, []), (19, [])], [((.loc 1), []), ((.loc 2), []), ((.loc 3), [.any, .any, .own .tree])])
  | 5 => ([(1, []), (2, []), (3, []), (17, []), (18, []), (19, []), (20, [])], [((.loc 1), []), ((.loc 2), []), ((.loc 3), [])])
  | 6 => ([(1, []), (2, []), (3, []), (5, []), (17, []), (18, []), (19, [])], [((.loc 1), []), ((.loc 2), []), ((.loc 3), []), ((.loc 5), [])])
  | 7 => ([(1, []), (2, []), (3, []), (17, []), (18, []), (19, [])], [((.loc 1), []), ((.loc 2), []), ((.loc 3), [])])
  | 8 => ([(1, []), (2, []), (3, []), (17, []), (18, []), (19, [])], [((.loc 1), []), ((.loc 2), []), ((.loc 3), [.any, .any, .own .tree])])
  | 9 => ([(2, []), (3, []), (33, [])], [((.loc 2), []), ((.loc 3), [.any, .any, .unk .tree])])
  | 10 => ([(2, []), (3, []), (33, []), (48, [])], [((.loc 2), []), ((.loc 3), [.any, .any, .unk .tree])])
  | 11 => ([(2, []), (3, []), (33, [])], [((.loc 2), []), ((.loc 3), [.any, .any, .unk .tree])])
  | 12 => ([(2, []), (3, []), (33, []), (48, []), (72, [])], [((.loc 2), []), ((.loc 3), [])])
  | 13 => ([(2, []), (3, []), (33, []), (48, [])], [((.loc 2), []), ((.loc 3), [.any, .any, .unk .tree])])
  | 14 => ([(2, [])], [((.loc 2), [])])
  | _ => ([], [])
noncomputable def head71_0 (t : Tree) (x19 : Int) (ml3_2 : List Tree) : LSt U := (⟨[(1, .ptr (.loc 1) 0), (2, .ptr (.loc 2) 0), (3, .ptr (.loc 3) 0), (17, .c (.slice (U := U) .tree (Tree.kids t) .unk)), (18, .c (.int .i64 ((Tree.kids t).length : Int))), (19, .c (.int .i64 x19))], [((.loc 1), [.int .i64 (Tree.kind t), .slice (U := U) .u64 (Tree.words t) .unk, .slice (U := U) .tree (Tree.kids t) .unk]), ((.loc 2), [.int .i64 0, .nils, .nils]), ((.loc 3), [.int .i64 (Tree.kind t), .slice (U := U) .u64 (Tree.words t) .unk, .slice (U := U) .tree ml3_2 (.own (.l 3 2))])], []⟩ : LSt U)
noncomputable def head71_1 (t : Tree) (ml3_2 : List Tree) (ml3_1_a : List Int) : LSt U := (⟨[(2, .ptr (.loc 2) 0), (3, .ptr (.loc 3) 0), (33, .c (.bool (((Tree.kind t) : Int) == 1)))], [((.loc 2), [.int .i64 0, .nils, .nils]), ((.loc 3), [.int .i64 (Tree.kind t), .slice (U := U) .u64 ml3_1_a .unk, .slice (U := U) .tree ml3_2 .unk])], []⟩ : LSt U)
noncomputable def head71_2 (t : Tree) (ml3_1_a : List Int) (ml3_2_b : List Tree) : LSt U := (⟨[(2, .ptr (.loc 2) 0), (3, .ptr (.loc 3) 0), (33, .c (.bool (((Tree.kind t) : Int) == 1))), (48, .c (.bool (bif (decide ((0 : Int) < (ml3_1_a.length : Int))) then (((List.getD ml3_1_a (Int.toNat (((ml3_1_a.length : Int) : Int) - 1)) (0 : Int)) : Int) == 0) else false)))], [((.loc 2), [.int .i64 0, .nils, .nils]), ((.loc 3), [.int .i64 (Tree.kind t), .slice (U := U) .u64 ml3_1_a .unk, .slice (U := U) .tree ml3_2_b .unk])], []⟩ : LSt U)
noncomputable abbrev A71 (N : Nat) (p : List Nat) := awp cfg (know (know71 N)) (drawOk cfg (know (know71 N))) Try.f71.ntmps lv71 (cd Try.f71 p)
noncomputable abbrev S71 (N : Nat) (p : List Nat) := seqK cfg (know (know71 N)) (drawOk cfg (know (know71 N))) Try.f71.ntmps lv71 (cd Try.f71 p)
theorem vc71 (N : Nat) (t : Tree) (Q : AExit → LSt U → Prop) (h : ((((((Tree.kind t) : Int) == 0) = true → (Q .ret (⟨[(2, .ptr (.loc 2) 0)], [((.loc 2), [.int .i64 0, .nils, .nils])], []⟩ : LSt U))) ∧ ((((Tree.kind t) : Int) == 0) = false → (pre109 ((Tree.words t), ())) ∧ ((LoopWp (A71 N [1, 1, 1, 0, 1, 0, 0]) (head71_0 t 0 ([])) (AExit.inBlock 0 (S71 N [1, 1, 1, 1] Q)))))))) :
    A71 N [] (⟨[(0, .agg [.int .i64 (Tree.kind t), .slice (U := U) .u64 (Tree.words t) .unk, .slice (U := U) .tree (Tree.kids t) .unk])], [], []⟩ : LSt U) Q :=
  Eq.mpr (by kernel_rfl) h
theorem vc71_l0 (N : Nat) (t : Tree) (x19 : Int) (ml3_2 : List Tree) (N0 : LSt U → Prop) (Q : AExit → LSt U → Prop) (h : ∀ y_1, y_1 = (List.getD (Tree.kids t) (Int.toNat x19) Tree.nil) → ∀ y_2, y_2 = (y_1) → ∀ y_3, y_3 = ((normT y_2)) → (((decide ((x19 : Int) < ((Tree.kids t).length : Int))) = true → ((0 : Int) ≤ x19 ∧ x19 < ((Tree.kids t).length : Int)) ∧ ((pre71 (y_2, ())) ∧ (mu71 (y_2, ()) < N) ∧ ((ml3_2.length + ([y_3]).length) * 56 ≤ 140737488355328) ∧ ((InR ((x19 : Int) + 1)) ∧ (N0 (head71_0 t ((x19 : Int) + 1) (ml3_2 ++ ([y_3]))))))) ∧ ((decide ((x19 : Int) < ((Tree.kids t).length : Int))) = false → (((((Tree.kind t) : Int) == 1) = true → LoopWp (A71 N [1, 1, 1, 1, 0, 1, 0, 0, 0, 0]) (head71_1 t ml3_2 (Tree.words t)) (AExit.inBlock 2 (S71 N [1, 1, 1, 1, 0, 1, 0, 1] (S71 N [1, 1, 1, 1, 1] Q)))) ∧ ((((Tree.kind t) : Int) == 1) = false → (Q .ret (⟨[(2, .ptr (.loc 2) 0)], [((.loc 2), [.int .i64 (Tree.kind t), .slice (U := U) .u64 (Tree.words t) .unk, .slice (U := U) .tree ml3_2 .unk])], []⟩ : LSt U))))))) :
    A71 N [1, 1, 1, 0, 1, 0, 0] (head71_0 t x19 ml3_2) (AExit.then N0 (AExit.inBlock 0 (S71 N [1, 1, 1, 1] Q))) :=
  Eq.mpr (by kernel_rfl) (h _ rfl _ (reTree_eq _) _ (reTree_eq _))
theorem vc71_l1 (N : Nat) (t : Tree) (ml3_2 : List Tree) (ml3_1_a : List Int) (N1 : LSt U → Prop) (Q : AExit → LSt U → Prop) (h : (Tr ((decide ((0 : Int) < (ml3_1_a.length : Int))) = true)) ∧ (Tr ((decide ((0 : Int) < (ml3_1_a.length : Int))) = true)) ∧ (Tr ((decide ((0 : Int) < (ml3_1_a.length : Int))) = true)) ∧ (Tr ((decide ((0 : Int) < (ml3_1_a.length : Int))) = true)) ∧ ((decide ((0 : Int) < (ml3_1_a.length : Int))) = true → InR (((ml3_1_a.length : Int) : Int) - 1)) ∧ (Tr ((decide ((0 : Int) < (ml3_1_a.length : Int))) = true)) ∧ (Tr ((decide ((0 : Int) < (ml3_1_a.length : Int))) = true)) ∧ ((decide ((0 : Int) < (ml3_1_a.length : Int))) = true → (0 : Int) ≤ (((ml3_1_a.length : Int) : Int) - 1) ∧ (((ml3_1_a.length : Int) : Int) - 1) < (ml3_1_a.length : Int)) ∧ (Tr ((decide ((0 : Int) < (ml3_1_a.length : Int))) = true)) ∧ (Tr ((decide ((0 : Int) < (ml3_1_a.length : Int))) = true)) ∧ ((Tr ((decide ((0 : Int) < (ml3_1_a.length : Int))) = true))) ∧ (((bif (decide ((0 : Int) < (ml3_1_a.length : Int))) then (((List.getD ml3_1_a (Int.toNat (((ml3_1_a.length : Int) : Int) - 1)) (0 : Int)) : Int) == 0) else false) = true → (InR (((ml3_1_a.length : Int) : Int) - 1)) ∧ ((0 : Int) ≤ (((ml3_1_a.length : Int) : Int) - 1) ∧ (((ml3_1_a.length : Int) : Int) - 1) ≤ (ml3_1_a.length : Int)) ∧ (N1 (head71_1 t ml3_2 (List.take (Int.toNat (((ml3_1_a.length : Int) : Int) - 1)) ml3_1_a)))) ∧ ((bif (decide ((0 : Int) < (ml3_1_a.length : Int))) then (((List.getD ml3_1_a (Int.toNat (((ml3_1_a.length : Int) : Int) - 1)) (0 : Int)) : Int) == 0) else false) = false → LoopWp (A71 N [1, 1, 1, 1, 0, 1, 0, 1, 0, 0]) (head71_2 t ml3_1_a ml3_2) (AExit.inBlock 4 (S71 N [1, 1, 1, 1, 1] Q))))) :
    A71 N [1, 1, 1, 1, 0, 1, 0, 0, 0, 0] (head71_1 t ml3_2 ml3_1_a) (AExit.then N1 (AExit.inBlock 2 (S71 N [1, 1, 1, 1, 0, 1, 0, 1] (S71 N [1, 1, 1, 1, 1] Q)))) :=
  Eq.mpr (by kernel_rfl) h
theorem vc71_l2 (N : Nat) (t : Tree) (ml3_1_a : List Int) (ml3_2_b : List Tree) (N2 : LSt U → Prop) (Q : AExit → LSt U → Prop) (h : (Tr ((decide ((0 : Int) < (ml3_2_b.length : Int))) = true)) ∧ (Tr ((decide ((0 : Int) < (ml3_2_b.length : Int))) = true)) ∧ (Tr ((decide ((0 : Int) < (ml3_2_b.length : Int))) = true)) ∧ (Tr ((decide ((0 : Int) < (ml3_2_b.length : Int))) = true)) ∧ ((decide ((0 : Int) < (ml3_2_b.length : Int))) = true → InR (((ml3_2_b.length : Int) : Int) - 1)) ∧ (Tr ((decide ((0 : Int) < (ml3_2_b.length : Int))) = true)) ∧ (Tr ((decide ((0 : Int) < (ml3_2_b.length : Int))) = true)) ∧ ((decide ((0 : Int) < (ml3_2_b.length : Int))) = true → (0 : Int) ≤ (((ml3_2_b.length : Int) : Int) - 1) ∧ (((ml3_2_b.length : Int) : Int) - 1) < (ml3_2_b.length : Int)) ∧ (Tr ((decide ((0 : Int) < (ml3_2_b.length : Int))) = true)) ∧ (Tr ((decide ((0 : Int) < (ml3_2_b.length : Int))) = true)) ∧ (Tr ((decide ((0 : Int) < (ml3_2_b.length : Int))) = true)) ∧ ((Tr ((decide ((0 : Int) < (ml3_2_b.length : Int))) = true))) ∧ (((bif (decide ((0 : Int) < (ml3_2_b.length : Int))) then (((Tree.kind (List.getD ml3_2_b (Int.toNat (((ml3_2_b.length : Int) : Int) - 1)) Tree.nil)) : Int) == 0) else false) = true → (InR (((ml3_2_b.length : Int) : Int) - 1)) ∧ ((0 : Int) ≤ (((ml3_2_b.length : Int) : Int) - 1) ∧ (((ml3_2_b.length : Int) : Int) - 1) ≤ (ml3_2_b.length : Int)) ∧ (N2 (head71_2 t ml3_1_a (List.take (Int.toNat (((ml3_2_b.length : Int) : Int) - 1)) ml3_2_b)))) ∧ ((bif (decide ((0 : Int) < (ml3_2_b.length : Int))) then (((Tree.kind (List.getD ml3_2_b (Int.toNat (((ml3_2_b.length : Int) : Int) - 1)) Tree.nil)) : Int) == 0) else false) = false → (Q .ret (⟨[(2, .ptr (.loc 2) 0)], [((.loc 2), [.int .i64 (Tree.kind t), .slice (U := U) .u64 ml3_1_a .unk, .slice (U := U) .tree ml3_2_b .unk])], []⟩ : LSt U))))) :
    A71 N [1, 1, 1, 1, 0, 1, 0, 1, 0, 0] (head71_2 t ml3_1_a ml3_2_b) (AExit.then N2 (AExit.inBlock 4 (S71 N [1, 1, 1, 1, 1] Q))) :=
  Eq.mpr (by kernel_rfl) h
def Body71 (N : Nat) (t : Tree)  : Prop := awp cfg (know (know71 N)) (drawOk cfg (know (know71 N))) Try.f71.ntmps lv71 (cd Try.f71 []) (entry (args71.can (t, ())) []) (EndsQ cfg Try.f71.ntmps Try.f71.results.toList (res71 (t, ())) [])
theorem make71 (c109 : Contract Try.prog cfg 109 spec109) (hb : ∀ (N : Nat) (t : Tree) (_ : Unit), pre71 (t, ()) → mu71 (t, ()) < N + 1 → Body71 N t) : Contract Try.prog cfg 71 spec71 :=
  contract_rec (μ := mu71) (l := [(109, spec109)]) cfgOk rfl (⟨c109, trivial⟩) lv71 Try.func71 rfl rfl 1 (fun _ => rfl) (by decide) (fun N ⟨t, _⟩ => hb N t ())
noncomputable def know29 (N : Nat) : List (FuncId × Fs U) := (29, fs args29 (fun a => [pre29 a, mu29 a < N]) res29) :: [(75, spec75)]
def lv29 : Lives U := fun i => match i with
  | 0 => ([(2, []), (3, [])], [((.loc 2), []), ((.loc 3), [])])
  | 1 => ([(2, []), (3, []), (27, [])], [((.loc 2), []), ((.loc 3), [])])
  | 2 => ([(4, [])], [])
  | 3 => ([(2, []), (3, []), (5, [])], [((.loc 2), []), ((.loc 3), [])])
  | 4 => ([(2, []), (3, []), (5, []), (32, [])], [((.loc 2), []), ((.loc 3), [])])
  | 5 => ([(2, []), (3, []), (5, [])], [((.loc 2), []), ((.loc 3), [])])
  | 6 => ([(2, []), (3, []), (5, []), (46, [])], [((.loc 2), []), ((.loc 3), [])])
  | 7 => ([(4, [])], [])
  | 8 => ([(4, [])], [])
  | _ => ([], [])
noncomputable def head29_0 (a : Tree) (b : Tree) (x5 : Int) : LSt U := (⟨[(2, .ptr (.loc 2) 0), (3, .ptr (.loc 3) 0), (5, .c (.int .i64 x5))], [((.loc 2), [.int .i64 (Tree.kind a), .slice (U := U) .u64 (Tree.words a) .unk, .slice (U := U) .tree (Tree.kids a) .unk]), ((.loc 3), [.int .i64 (Tree.kind b), .slice (U := U) .u64 (Tree.words b) .unk, .slice (U := U) .tree (Tree.kids b) .unk])], []⟩ : LSt U)
noncomputable abbrev A29 (N : Nat) (p : List Nat) := awp cfg (know (know29 N)) (drawOk cfg (know (know29 N))) Try.f29.ntmps lv29 (cd Try.f29 p)
noncomputable abbrev S29 (N : Nat) (p : List Nat) := seqK cfg (know (know29 N)) (drawOk cfg (know (know29 N))) Try.f29.ntmps lv29 (cd Try.f29 p)
theorem vc29 (N : Nat) (a : Tree) (b : Tree) (Q : AExit → LSt U → Prop) (h : ((Tr ((!(((Tree.kind a) : Int) != (Tree.kind b))) = true)) ∧ (Tr ((!(((Tree.kind a) : Int) != (Tree.kind b))) = true)) ∧ (Tr ((!(((Tree.kind a) : Int) != (Tree.kind b))) = true)) ∧ (Tr ((!(((Tree.kind a) : Int) != (Tree.kind b))) = true)) ∧ ((!(((Tree.kind a) : Int) != (Tree.kind b))) = true → pre75 ((Tree.words a), (Tree.words b), ())) ∧ (Tr ((!(((Tree.kind a) : Int) != (Tree.kind b))) = true)) ∧ (((((Tree.kind a) : Int) != (Tree.kind b)) = false → (!(((Tree.kind a) : Int) != (Tree.kind b))) = true)) ∧ (Tr ((!(bif (((Tree.kind a) : Int) != (Tree.kind b)) then true else (!(decide ((Tree.words a) = (Tree.words b)))))) = true)) ∧ (Tr ((!(bif (((Tree.kind a) : Int) != (Tree.kind b)) then true else (!(decide ((Tree.words a) = (Tree.words b)))))) = true)) ∧ (Tr ((!(bif (((Tree.kind a) : Int) != (Tree.kind b)) then true else (!(decide ((Tree.words a) = (Tree.words b)))))) = true)) ∧ (Tr ((!(bif (((Tree.kind a) : Int) != (Tree.kind b)) then true else (!(decide ((Tree.words a) = (Tree.words b)))))) = true)) ∧ (Tr ((!(bif (((Tree.kind a) : Int) != (Tree.kind b)) then true else (!(decide ((Tree.words a) = (Tree.words b)))))) = true)) ∧ (Tr ((!(bif (((Tree.kind a) : Int) != (Tree.kind b)) then true else (!(decide ((Tree.words a) = (Tree.words b)))))) = true)) ∧ (((bif (((Tree.kind a) : Int) != (Tree.kind b)) then true else (!(decide ((Tree.words a) = (Tree.words b))))) = false → (!(bif (((Tree.kind a) : Int) != (Tree.kind b)) then true else (!(decide ((Tree.words a) = (Tree.words b)))))) = true)) ∧ (((bif (bif (((Tree.kind a) : Int) != (Tree.kind b)) then true else (!(decide ((Tree.words a) = (Tree.words b))))) then true else ((((Tree.kids a).length : Int) : Int) != ((Tree.kids b).length : Int))) = true → (Q .ret (⟨[(4, .c (.bool false))], [], []⟩ : LSt U))) ∧ ((bif (bif (((Tree.kind a) : Int) != (Tree.kind b)) then true else (!(decide ((Tree.words a) = (Tree.words b))))) then true else ((((Tree.kids a).length : Int) : Int) != ((Tree.kids b).length : Int))) = false → (LoopWp (A29 N [1, 1, 0, 1, 0, 0]) (head29_0 a b 0) (AExit.inBlock 0 (S29 N [1, 1, 1] Q))))))) :
    A29 N [] (⟨[(0, .agg [.int .i64 (Tree.kind a), .slice (U := U) .u64 (Tree.words a) .unk, .slice (U := U) .tree (Tree.kids a) .unk]), (1, .agg [.int .i64 (Tree.kind b), .slice (U := U) .u64 (Tree.words b) .unk, .slice (U := U) .tree (Tree.kids b) .unk])], [], []⟩ : LSt U) Q :=
  Eq.mpr (by kernel_rfl) h
theorem vc29_l0 (N : Nat) (a : Tree) (b : Tree) (x5 : Int) (N0 : LSt U → Prop) (Q : AExit → LSt U → Prop) (h : ∀ y_1, y_1 = (List.getD (Tree.kids a) (Int.toNat x5) Tree.nil) → ∀ y_2, y_2 = (List.getD (Tree.kids b) (Int.toNat x5) Tree.nil) → ∀ y_3, y_3 = (y_1) → ∀ y_4, y_4 = (y_2) → (((decide ((x5 : Int) < ((Tree.kids a).length : Int))) = true → ((0 : Int) ≤ x5 ∧ x5 < ((Tree.kids a).length : Int)) ∧ ((0 : Int) ≤ x5 ∧ x5 < ((Tree.kids b).length : Int)) ∧ (pre29 (y_3, y_4, ())) ∧ (mu29 (y_3, y_4, ()) < N) ∧ (((!(sameT y_3 y_4)) = true → (Q .ret (⟨[(4, .c (.bool false))], [], []⟩ : LSt U))) ∧ ((!(sameT y_3 y_4)) = false → (InR ((x5 : Int) + 1)) ∧ (N0 (head29_0 a b ((x5 : Int) + 1)))))) ∧ ((decide ((x5 : Int) < ((Tree.kids a).length : Int))) = false → (Q .ret (⟨[(4, .c (.bool true))], [], []⟩ : LSt U))))) :
    A29 N [1, 1, 0, 1, 0, 0] (head29_0 a b x5) (AExit.then N0 (AExit.inBlock 0 (S29 N [1, 1, 1] Q))) :=
  Eq.mpr (by kernel_rfl) (h _ rfl _ rfl _ (reTree_eq _) _ (reTree_eq _))
def Body29 (N : Nat) (a : Tree) (b : Tree)  : Prop := awp cfg (know (know29 N)) (drawOk cfg (know (know29 N))) Try.f29.ntmps lv29 (cd Try.f29 []) (entry (args29.can (a, b, ())) []) (EndsQ cfg Try.f29.ntmps Try.f29.results.toList (res29 (a, b, ())) [])
theorem make29 (c75 : Contract Try.prog cfg 75 spec75) (hb : ∀ (N : Nat) (a : Tree) (b : Tree) (_ : Unit), pre29 (a, b, ()) → mu29 (a, b, ()) < N + 1 → Body29 N a b) : Contract Try.prog cfg 29 spec29 :=
  contract_rec (μ := mu29) (l := [(75, spec75)]) cfgOk rfl (⟨c75, trivial⟩) lv29 Try.func29 rfl rfl 2 (fun _ => rfl) (by decide) (fun N ⟨a, b, _⟩ => hb N a b ())
end Go.AM.Ytpjenobkibfpcaa

namespace Go.AM.Ytpjenobkibfpcaa
open Go.AM Go.Proofs
theorem vcU : (∀ {p q : Prop}, (p → q → p ∧ q) = True) ∧ (∀ {p : Prop}, (True ∧ p) = p) ∧ (∀ {p : Prop}, (p ∧ True) = p) ∧ (∀ {p : Prop}, (p → True) = True) :=
  ⟨by intros; simp +contextual, by simp, by simp, by simp⟩
theorem smallK_get : ∀ {ks : List Tree} {i : Nat}, smallK ks → i < ks.length → small (ks.getD i Tree.nil)
  | t :: _, 0, h, _ => by simp only [smallK] at h; exact h.1
  | _ :: r, i + 1, h, hi => by simp only [smallK] at h; exact smallK_get (ks := r) (i := i) h.2 (by simpa using hi)
theorem massK_get : ∀ {ks : List Tree} {i : Nat}, i < ks.length → mass (ks.getD i Tree.nil) ≤ massK ks
  | t :: _, 0, _ => by simp only [massK, List.getD_cons_zero]; omega
  | t :: r, i + 1, h => by
    have := massK_get (ks := r) (i := i) (by simpa using h)
    simp only [massK, List.getD_cons_succ]
    omega
mutual
theorem shallow_range : ∀ (t : Tree) (d l : Int), -1 ≤ shallow t d l ∧ shallow t d l ≤ max l (-1)
  | .mk _ w ks, d, l => by
    simp only [shallow]
    split
    · omega
    · have := shallowK_range ks (d - 1) (l - 1 - w.length) (by omega)
      omega
theorem shallowK_range : ∀ (ks : List Tree) (d l : Int), -1 ≤ l → -1 ≤ shallowK ks d l ∧ shallowK ks d l ≤ l
  | [], d, l, h => by simp only [shallowK]; omega
  | t :: r, d, l, h => by
    simp only [shallowK]
    split
    · omega
    · have h1 := shallow_range t d l
      have h2 := shallowK_range r d (shallow t d l) h1.1
      omega
end
theorem shallowK_drop {ks : List Tree} {i : Nat} {d l : Int} (h : i < ks.length) (hl : 0 ≤ l) : shallowK (ks.drop i) d l = shallowK (ks.drop (i + 1)) d (shallow (ks.getD i Tree.nil) d l) := by
  rw [List.drop_eq_getElem_cons h]
  simp only [shallowK]
  rw [if_neg (by omega)]
  simp [List.getD, h]
theorem c78 : Contract Try.prog cfg 78 spec78 := by
  refine make78 ?_
  rintro N ⟨k, ws, ks⟩ d l _ ⟨hs, h1, h2, h3, h4⟩ hN
  simp only [small, mu78, mass] at *
  refine vc78 N _ _ _ _ ?_; (try simp only [vcT, forall_eq])
  (simp only [vcS]); (try simp only [vcT])
  try (simp only [Tree.eta, Edit.eta, Tree.kind_mk, Tree.words_mk, Tree.kids_mk])
  refine ⟨by unfold InR; omega, by unfold InR; omega, fun hc => ?_, fun hc => ?_⟩
  · have e : shallow (.mk k ws ks) d l = -1 := by
      simp only [shallow]
      rw [if_pos (by omega)]
    simp only [res78, e]
    exact ⟨⟨rfl, ⟨⟨rfl, rfl⟩, trivial⟩, trivial⟩, trivial⟩
  · have e : shallow (.mk k ws ks) d l = shallowK ks (d - 1) (l - 1 - ws.length) := by
      simp only [shallow]
      rw [if_neg (by omega)]
    simp only [res78, e]
    refine loop_rule (ι := Int × Int) (fun p => head78_0 (.mk k ws ks) d l p.1 p.2) (fun p => 0 ≤ p.2 ∧ p.2 ≤ ks.length ∧ -1 ≤ p.1 ∧ p.1 ≤ l ∧ shallowK (ks.drop p.2.toNat) (d - 1) p.1 = shallowK ks (d - 1) (l - 1 - ws.length)) (fun p => ((ks.length : Int) - p.2).toNat) (l - 1 - ws.length, 0) rfl ⟨by omega, by omega, by omega, by omega, by simp⟩ ?_
    rintro ⟨l', i⟩ ⟨h5, h6, h7, h8, h9⟩
    dsimp only at *
    refine vc78_l0 N _ _ _ _ _ _ _ ?_; (try simp only [vcT, forall_eq])
    (simp only [vcS]); (try simp only [vcT])
    try (simp only [Tree.eta, Edit.eta, Tree.kind_mk, Tree.words_mk, Tree.kids_mk])
    refine ⟨fun hc => ?_, fun hc => ?_⟩
    · have hi : i.toNat < ks.length := by omega
      have hr := shallow_range (ks.getD i.toNat Tree.nil) (d - 1) l'
      have hn := massK_get hi
      have hd := shallowK_drop (d := d - 1) hi hc.2
      refine ⟨by omega, by unfold InR; omega, ⟨smallK_get hs.2.2 hi, by dsimp only; omega, by dsimp only; omega, by dsimp only; omega, by dsimp only; omega⟩, by simp only [mu78]; omega, by unfold InR; omega, ⟨(shallow (ks.getD i.toNat Tree.nil) (d - 1) l', i + 1), rfl, ⟨by dsimp only; omega, by dsimp only; omega, by dsimp only; omega, by dsimp only; omega, ?_⟩, by dsimp only; omega⟩⟩
      dsimp only
      rw [← h9, hd]
      congr 2
      omega
    · have e : shallowK ks (d - 1) (l - 1 - ws.length) = l' := by
        rw [← h9]
        by_cases hi : i < ks.length
        · rw [List.drop_eq_getElem_cons (by omega)]
          simp only [shallowK]
          rw [if_pos (by omega)]
        · rw [List.drop_eq_nil_of_le (by omega)]
          simp only [shallowK]
      rw [e]
      exact ⟨⟨rfl, ⟨⟨rfl, rfl⟩, trivial⟩, trivial⟩, trivial⟩
theorem c36 : Contract Try.prog cfg 36 spec36 := by
  refine make36 c78 ?_
  intro t _ hp
  refine vc36 _ _ ?_; (try simp only [vcT, forall_eq])
  try (simp only [Tree.eta, Edit.eta, Tree.kind_mk, Tree.words_mk, Tree.kids_mk])
  refine ⟨⟨hp, by dsimp only; omega, by dsimp only; omega, by dsimp only; omega, by dsimp only; omega⟩, ?_⟩
  exact ⟨⟨rfl, ⟨rfl, trivial⟩, trivial⟩, trivial⟩
theorem c109 : Contract Try.prog cfg 109 spec109 := by
  refine make109 ?_
  intro l _ hp
  refine vc109 _ _ ?_; (try simp only [vcT, forall_eq])
  simp only [pre109] at hp
  refine ⟨fun h => ?_, ⟨by simp only [List.length_nil]; omega, ?_⟩⟩
  · subst h
    exact ⟨⟨rfl, ⟨rfl, trivial⟩, trivial⟩, trivial⟩
  · exact ⟨⟨rfl, ⟨⟨rfl, trivial⟩, trivial⟩, trivial⟩, trivial⟩
theorem drop_eq {a b : List Int} {i : Int} (hi : 0 ≤ i) (ha : i < a.length) (hb : i < b.length) : (a.drop i.toNat = b.drop i.toNat) ↔ (a.getD i.toNat 0 = b.getD i.toNat 0 ∧ a.drop (i + 1).toNat = b.drop (i + 1).toNat) := by
  have e : (i + 1).toNat = i.toNat + 1 := by omega
  rw [List.drop_eq_getElem_cons (by omega), List.drop_eq_getElem_cons (l := b) (by omega), e]
  simp only [List.cons.injEq, List.getD, List.getElem?_eq_getElem (show i.toNat < a.length by omega), List.getElem?_eq_getElem (show i.toNat < b.length by omega), Option.getD_some]
theorem c75 : Contract Try.prog cfg 75 spec75 := by
  refine make75 ?_
  intro a b _ hp
  simp only [pre75] at hp
  refine vc75 _ _ _ ?_; (try simp only [vcT, forall_eq])
  (simp only [vcS]); (try simp only [vcT])
  refine ⟨fun hc => ?_, fun hc => ?_⟩
  · have e : decide (a = b) = false := by
      simp only [decide_eq_false_iff_not]
      rintro rfl
      omega
    simp only [res75, e]
    exact ⟨⟨rfl, ⟨rfl, trivial⟩, trivial⟩, trivial⟩
  · have hl : a.length = b.length := by omega
    refine loop_rule (ι := Int) (fun p => head75_0 a b p) (fun p => 0 ≤ p ∧ p ≤ a.length ∧ (a = b ↔ a.drop p.toNat = b.drop p.toNat)) (fun p => ((a.length : Int) - p).toNat) 0 rfl ⟨by omega, by omega, by simp⟩ ?_
    rintro i ⟨h1, h2, h3⟩
    refine vc75_l0 _ _ _ _ _ ?_; (try simp only [vcT, forall_eq])
    (simp only [vcS]); (try simp only [vcT])
    refine ⟨fun hc => ⟨by omega, by omega, fun hn => ?_, fun he => ⟨by unfold InR; omega, i + 1, rfl, ⟨by omega, by omega, ?_⟩, by omega⟩⟩, fun hc => ?_⟩
    · have e : decide (a = b) = false := by
        simp only [decide_eq_false_iff_not, h3]
        rw [drop_eq h1 hc (by omega)]
        exact fun h => hn h.1
      simp only [res75, e]
      exact ⟨⟨rfl, ⟨rfl, trivial⟩, trivial⟩, trivial⟩
    · rw [h3, drop_eq h1 hc (by omega)]
      exact ⟨fun h => h.2, fun h => ⟨by simpa using he, h⟩⟩
    · have e : decide (a = b) = true := by
        simp only [decide_eq_true_eq, h3]
        rw [List.drop_eq_nil_of_le (by omega), List.drop_eq_nil_of_le (by omega)]
      simp only [res75, e]
      exact ⟨⟨rfl, ⟨rfl, trivial⟩, trivial⟩, trivial⟩
theorem c91 : Contract Try.prog cfg 91 spec91 := by
  refine make91 ?_
  intro t i _ hp
  refine vc91 _ _ _ ?_; (try simp only [vcT, forall_eq])
  (simp only [vcS]); (try simp only [vcT])
  (repeat (refine And.intro (by first | omega | (unfold InR; omega) | (dsimp only; omega)) ?_))
  refine ⟨fun hc => ?_, fun hc => ⟨by omega, ?_⟩⟩
  · have e : kidAt t i = Tree.nil := by
      unfold kidAt
      split
      · rfl
      · rw [List.getD, List.getElem?_eq_none (by omega)]
        rfl
    simp only [res91, e]
    exact ⟨⟨rfl, ⟨⟨rfl, rfl⟩, ⟨rfl, ⟨rfl, trivial⟩⟩⟩, trivial⟩, trivial⟩
  · have e : kidAt t i = t.kids.getD i.toNat Tree.nil := by
      unfold kidAt
      rw [if_neg (by omega)]
    simp only [res91, e]
    exact ⟨⟨rfl, ⟨⟨rfl, rfl⟩, ⟨rfl, trivial⟩, ⟨rfl, trivial⟩, trivial⟩, trivial⟩, trivial⟩
theorem dropT_eq {a b : List Tree} {i : Int} (hi : 0 ≤ i) (ha : i < a.length) (hb : i < b.length) : (a.drop i.toNat = b.drop i.toNat) ↔ (a.getD i.toNat Tree.nil = b.getD i.toNat Tree.nil ∧ a.drop (i + 1).toNat = b.drop (i + 1).toNat) := by
  have e : (i + 1).toNat = i.toNat + 1 := by omega
  rw [List.drop_eq_getElem_cons (by omega), List.drop_eq_getElem_cons (l := b) (by omega), e]
  simp only [List.cons.injEq, List.getD, List.getElem?_eq_getElem (show i.toNat < a.length by omega), List.getElem?_eq_getElem (show i.toNat < b.length by omega), Option.getD_some]
theorem sameT_true {a b : Tree} : sameT a b = true ↔ a = b := by simp [sameT]
theorem sameT_false {a b : Tree} : sameT a b = false ↔ ¬ a = b := by simp [sameT]
theorem massK_len : ∀ (ks : List Tree), ks.length ≤ massK ks
  | [] => by simp [massK]
  | t :: r => by
    have := massK_len r
    have : 1 ≤ mass t := by cases t; simp only [mass]; omega
    simp only [massK, List.length_cons]
    omega
theorem c29 : Contract Try.prog cfg 29 spec29 := by
  refine make29 c75 ?_
  rintro N ⟨k, ws, ks⟩ ⟨k', ws', ks'⟩ _ hp hN
  have hlen := massK_len ks
  simp only [pre29, mu29, mass] at hp hN
  refine vc29 N _ _ _ ?_; (try simp only [vcT, forall_eq])
  (simp only [vcS]); (try simp only [vcT])
  try (simp only [Tree.eta, Edit.eta, Tree.kind_mk, Tree.words_mk, Tree.kids_mk])
  have p69 : pre75 (ws, ws', ()) := by simp only [pre75]; omega
  refine ⟨fun _ => p69, fun hc => ?_, fun hc => ?_⟩
  · have e : sameT (.mk k ws ks) (.mk k' ws' ks') = false := by
      rw [sameT_false]
      intro h
      cases h
      simp at hc
    simp only [res29, e]
    exact ⟨⟨rfl, ⟨rfl, trivial⟩, trivial⟩, trivial⟩
  · have hc' : (k = k' ∧ ws = ws') ∧ ks.length = ks'.length := ⟨hc.1, by have := hc.2; omega⟩
    obtain ⟨⟨rfl, rfl⟩, hl⟩ := hc'
    refine loop_rule (ι := Int) (fun p => head29_0 (.mk k ws ks) (.mk k ws ks') p) (fun p => 0 ≤ p ∧ p ≤ ks.length ∧ (Tree.mk k ws ks = .mk k ws ks' ↔ ks.drop p.toNat = ks'.drop p.toNat)) (fun p => ((ks.length : Int) - p).toNat) 0 rfl ⟨by omega, by omega, by simp⟩ ?_
    rintro i ⟨h1, h2, h3⟩
    refine vc29_l0 N _ _ _ _ _ ?_; (try simp only [vcT, forall_eq])
    (simp only [vcS]); (try simp only [vcT])
    try (simp only [Tree.eta, Edit.eta, Tree.kind_mk, Tree.words_mk, Tree.kids_mk])
    refine ⟨fun hc => ⟨by omega, by omega, ?_, ?_, fun hn => ?_, fun he => ⟨by unfold InR; omega, i + 1, rfl, ⟨by omega, by omega, ?_⟩, by omega⟩⟩, fun hc => ?_⟩
    · have := massK_get (ks := ks) (i := i.toNat) (by omega)
      simp only [pre29]
      omega
    · have := massK_get (ks := ks) (i := i.toNat) (by omega)
      simp only [mu29]
      omega
    · have e : sameT (.mk k ws ks) (.mk k ws ks') = false := by
        rw [sameT_false, h3, dropT_eq h1 hc (by omega)]
        rw [sameT_false] at hn
        exact fun h => hn h.1
      simp only [res29, e]
      exact ⟨⟨rfl, ⟨rfl, trivial⟩, trivial⟩, trivial⟩
    · rw [h3, dropT_eq h1 hc (by omega)]
      exact ⟨fun h => h.2, fun h => ⟨sameT_true.1 he, h⟩⟩
    · have e : sameT (.mk k ws ks) (.mk k ws ks') = true := by
        rw [sameT_true, h3]
        rw [List.drop_eq_nil_of_le (by omega), List.drop_eq_nil_of_le (by omega)]
      simp only [res29, e]
      exact ⟨⟨rfl, ⟨rfl, trivial⟩, trivial⟩, trivial⟩
theorem trim_zero : ∀ (l : List Int), trim (l ++ [0]) = trim l
  | [] => rfl
  | x :: r => by
    show (match trim (r ++ [0]) with | [] => if x = 0 then [] else [x] | y :: s => x :: y :: s) = _
    rw [trim_zero r]
    rfl
theorem trim_ne {x : Int} (hx : x ≠ 0) : ∀ (l : List Int), trim (l ++ [x]) = l ++ [x]
  | [] => by simp [trim, hx]
  | y :: r => by
    show (match trim (r ++ [x]) with | [] => if y = 0 then [] else [y] | z :: s => y :: z :: s) = _
    rw [trim_ne hx r]
    cases r <;> rfl
theorem take_last {l : List Int} {i : Int} (h0 : 0 < i) (hi : i ≤ l.length) : l.take i.toNat = l.take (i - 1).toNat ++ [l.getD (i - 1).toNat 0] := by
  have e : i.toNat = (i - 1).toNat + 1 := by omega
  rw [e, List.take_add_one]
  simp only [List.getD, List.getElem?_eq_getElem (show (i - 1).toNat < l.length by omega), Option.toList, Option.getD_some]
theorem c84 : Contract Try.prog cfg 84 spec84 := by
  refine make84 ?_
  intro l _ hp
  simp only [pre84] at hp
  refine vc84 _ _ ?_; (try simp only [vcT, forall_eq])
  refine loop_rule (ι := Int) (fun p => head84_0 l p) (fun p => 0 ≤ p ∧ p ≤ l.length ∧ trim (l.take p.toNat) = trim l) (fun p => p.toNat) (l.length : Int) rfl ⟨by omega, by omega, by simp⟩ ?_
  rintro i ⟨h1, h2, h3⟩
  refine vc84_l0 _ _ _ _ ?_; (try simp only [vcT, forall_eq])
  (simp only [vcS]); (try simp only [vcT])
  refine ⟨fun h => by unfold InR; omega, fun h => by omega, fun hc => ⟨by unfold InR; omega, i - 1, rfl, ⟨by omega, by omega, ?_⟩, by omega⟩, fun hc => ⟨by omega, ?_, ?_⟩⟩
  · rw [take_last hc.1 h2, hc.2, trim_zero] at h3
    exact h3
  · simp only [List.length_nil, List.length_take]
    omega
  · have e : trim l = [] ++ l.take i.toNat := by
      rw [← h3]
      by_cases h0 : 0 < i
      · rw [take_last h0 h2, trim_ne (by rcases hc with h | h; exact absurd h0 h; exact h)]
        rfl
      · have : i.toNat = 0 := by omega
        rw [this]
        rfl
    simp only [res84, e]
    exact ⟨⟨rfl, ⟨⟨rfl, trivial⟩, trivial⟩, trivial⟩, trivial⟩
theorem trim_len : ∀ (l : List Int), (trim l).length ≤ l.length
  | [] => by simp [trim]
  | x :: r => by
    have := trim_len r
    simp only [trim]
    split
    · split <;> simp
    · rename_i h
      rw [h] at this
      simp at *
      omega
theorem trimK_mass : ∀ (l : List Tree), massK (trimK l) ≤ massK l
  | [] => by simp [trimK]
  | x :: r => by
    have := trimK_mass r
    simp only [trimK]
    split
    · split
      · simp [massK]
      · simp [massK]
    · rename_i h
      rw [h] at this
      simp only [massK] at *
      omega
mutual
theorem normT_mass : ∀ (t : Tree), mass (normT t) ≤ mass t
  | .mk k w ks => by
    have h1 := normK_mass ks
    have h2 := trim_len w
    have h3 := trimK_mass (normK ks)
    simp only [normT]
    split
    · simp only [Tree.nil, mass, massK, List.length_nil]; omega
    · split
      · simp only [mass]; omega
      · simp only [mass]; omega
theorem normK_mass : ∀ (ks : List Tree), massK (normK ks) ≤ massK ks
  | [] => by simp [normK]
  | t :: r => by
    have h1 := normT_mass t
    have h2 := normK_mass r
    simp only [normK, massK]
    omega
end
theorem normK_app : ∀ (l : List Tree) (x : Tree), normK (l ++ [x]) = normK l ++ [normT x]
  | [], x => rfl
  | y :: r, x => by simp only [List.cons_append, normK, normK_app r x]
theorem normK_len : ∀ (l : List Tree), (normK l).length = l.length
  | [] => rfl
  | y :: r => by simp only [normK, List.length_cons, normK_len r]
theorem trimK_zero {x : Tree} (hx : x.kind = 0) : ∀ (l : List Tree), trimK (l ++ [x]) = trimK l
  | [] => by simp [trimK, hx]
  | y :: r => by
    show (match trimK (r ++ [x]) with | [] => if y.kind = 0 then [] else [y] | z :: s => y :: z :: s) = _
    rw [trimK_zero hx r]
    rfl
theorem trimK_ne {x : Tree} (hx : x.kind ≠ 0) : ∀ (l : List Tree), trimK (l ++ [x]) = l ++ [x]
  | [] => by simp [trimK, hx]
  | y :: r => by
    show (match trimK (r ++ [x]) with | [] => if y.kind = 0 then [] else [y] | z :: s => y :: z :: s) = _
    rw [trimK_ne hx r]
    cases r <;> rfl
theorem takeT_next {l : List Tree} {i : Int} (h0 : 0 ≤ i) (hi : i < l.length) : l.take (i + 1).toNat = l.take i.toNat ++ [l.getD i.toNat Tree.nil] := by
  have e : (i + 1).toNat = i.toNat + 1 := by omega
  rw [e, List.take_add_one]
  simp only [List.getD, List.getElem?_eq_getElem (show i.toNat < l.length by omega), Option.toList, Option.getD_some]
theorem c45 : Contract Try.prog cfg 45 spec45 := by
  refine make45 c84 ?_
  rintro N ⟨k, ws, ks⟩ _ hp hN
  have hlen := massK_len ks
  simp only [pre45, mu45, mass] at hp hN
  refine vc45 N _ _ ?_; (try simp only [vcT, forall_eq])
  (simp only [vcS]); (try simp only [vcT])
  try (simp only [Tree.eta, Edit.eta, Tree.kind_mk, Tree.words_mk, Tree.kids_mk])
  refine ⟨fun hc => ?_, fun hc0 => ?_⟩
  · have e : normT (.mk k ws ks) = Tree.nil := by simp [normT, hc]
    simp only [res45, e]
    exact ⟨⟨rfl, ⟨⟨rfl, rfl⟩, ⟨rfl, ⟨rfl, trivial⟩⟩⟩, trivial⟩, trivial⟩
  · refine loop_rule (ι := Int × Int × List Tree) (fun p => head45_0 (.mk k ws ks) p.1 p.2.1 p.2.2) (fun p => 0 ≤ p.2.1 ∧ p.2.1 ≤ ks.length ∧ 0 ≤ p.1 ∧ p.1 ≤ p.2.1 ∧ p.2.2 = normK (ks.take p.2.1.toNat) ∧ trimK (normK (ks.take p.2.1.toNat)) = p.2.2.take p.1.toNat) (fun p => ((ks.length : Int) - p.2.1).toNat) (0, 0, []) rfl ⟨by dsimp only; omega, by dsimp only; omega, by dsimp only; omega, by dsimp only; omega, rfl, rfl⟩ ?_
    rintro ⟨last, i, l⟩ ⟨h1, h2, h3, h4, h5, h6⟩
    dsimp only at *
    have hl : l.length = i.toNat := by rw [h5, normK_len, List.length_take]; omega
    refine vc45_l0 N _ _ _ _ _ _ ?_; (try simp only [vcT, forall_eq])
    (simp only [vcS]); (try simp only [vcT])
    try (simp only [Tree.eta, Edit.eta, Tree.kind_mk, Tree.words_mk, Tree.kids_mk])
    refine ⟨fun hc => ?_, fun hc => ⟨fun h1 => ⟨?_, by omega, ?_⟩, fun hk => ⟨?_, ?_⟩⟩⟩
    · have hm := massK_get (ks := ks) (i := i.toNat) (by omega)
      have hnx : normK (ks.take (i + 1).toNat) = l ++ [normT (ks.getD i.toNat Tree.nil)] := by rw [takeT_next h1 hc, normK_app, h5]
      refine ⟨by omega, by simp only [pre45]; omega, by simp only [mu45]; omega, by simp only [List.length_cons, List.length_nil]; omega, fun hk => ⟨by unfold InR; omega, by unfold InR; omega, (i + 1, i + 1, _), rfl, ⟨by dsimp only; omega, by dsimp only; omega, by dsimp only; omega, by dsimp only; omega, hnx.symm, ?_⟩, by dsimp only; omega⟩, fun hk => ⟨by unfold InR; omega, (last, i + 1, _), rfl, ⟨by dsimp only; omega, by dsimp only; omega, by dsimp only; omega, by dsimp only; omega, hnx.symm, ?_⟩, by dsimp only; omega⟩⟩
      · dsimp only
        rw [hnx, trimK_ne hk, List.take_of_length_le (by simp; omega)]
      · dsimp only
        rw [hnx, trimK_zero hk, List.take_append_of_le_length (by omega), ← h6, h5]
    · simp only [pre84]; omega
    · have hi : ks.take i.toNat = ks := List.take_of_length_le (by omega)
      rw [hi] at h5 h6
      have e : normT (.mk k ws ks) = .mk 1 (trim ws) (l.take last.toNat) := by
        subst h1
        simp only [normT, ← h6]
        rfl
      simp only [res45, e]
      exact ⟨⟨rfl, ⟨⟨rfl, rfl⟩, ⟨rfl, trivial⟩, ⟨rfl, trivial⟩, trivial⟩, trivial⟩, trivial⟩
    · simp only [List.length_nil]; omega
    · have hi : ks.take i.toNat = ks := List.take_of_length_le (by omega)
      rw [hi] at h5
      have e : normT (.mk k ws ks) = .mk k ([] ++ ws) l := by
        simp only [normT, if_neg hc0, if_neg hk, h5]
        rfl
      simp only [res45, e]
      exact ⟨⟨rfl, ⟨⟨rfl, rfl⟩, ⟨rfl, trivial⟩, ⟨rfl, trivial⟩, trivial⟩, trivial⟩, trivial⟩
theorem last_eq {l : List Int} (h0 : 0 < (l.length : Int)) : l = l.take ((l.length : Int) - 1).toNat ++ [l.getD ((l.length : Int) - 1).toNat 0] := by
  have := take_last h0 (Int.le_refl _)
  rw [List.take_of_length_le (by omega)] at this
  exact this
theorem lastT_eq {l : List Tree} (h0 : 0 < (l.length : Int)) : l = l.take ((l.length : Int) - 1).toNat ++ [l.getD ((l.length : Int) - 1).toNat Tree.nil] := by
  have := takeT_next (l := l) (i := (l.length : Int) - 1) (by omega) (by omega)
  rw [List.take_of_length_le (by omega)] at this
  exact this
theorem trim_step {l : List Int} (h0 : 0 < (l.length : Int)) (hz : l.getD ((l.length : Int) - 1).toNat 0 = 0) : trim (l.take ((l.length : Int) - 1).toNat) = trim l := by
  have e := trim_zero (l.take ((l.length : Int) - 1).toNat)
  have h := last_eq h0
  rw [hz] at h
  rw [← h] at e
  exact e.symm
theorem trim_done {l : List Int} (h : ¬ 0 < (l.length : Int) ∨ ¬ l.getD ((l.length : Int) - 1).toNat 0 = 0) : trim l = l := by
  by_cases h0 : 0 < (l.length : Int)
  · have e := trim_ne (x := l.getD ((l.length : Int) - 1).toNat 0) (by rcases h with h | h; exact absurd h0 h; exact h) (l.take ((l.length : Int) - 1).toNat)
    rw [← last_eq h0] at e
    exact e
  · have : l = [] := List.eq_nil_of_length_eq_zero (by omega)
    subst this
    rfl
theorem trimK_step {l : List Tree} (h0 : 0 < (l.length : Int)) (hz : (l.getD ((l.length : Int) - 1).toNat Tree.nil).kind = 0) : trimK (l.take ((l.length : Int) - 1).toNat) = trimK l := by
  have e := trimK_zero hz (l.take ((l.length : Int) - 1).toNat)
  rw [← lastT_eq h0] at e
  exact e.symm
theorem trimK_done {l : List Tree} (h : ¬ 0 < (l.length : Int) ∨ ¬ (l.getD ((l.length : Int) - 1).toNat Tree.nil).kind = 0) : trimK l = l := by
  by_cases h0 : 0 < (l.length : Int)
  · have e := trimK_ne (x := l.getD ((l.length : Int) - 1).toNat Tree.nil) (by rcases h with h | h; exact absurd h0 h; exact h) (l.take ((l.length : Int) - 1).toNat)
    rw [← lastT_eq h0] at e
    exact e
  · have : l = [] := List.eq_nil_of_length_eq_zero (by omega)
    subst this
    rfl
theorem c71 : Contract Try.prog cfg 71 spec71 := by
  refine make71 c109 ?_
  rintro N ⟨k, ws, ks⟩ _ hp hN
  have hlen := massK_len ks
  simp only [pre71, mu71, mass] at hp hN
  refine vc71 N _ _ ?_; (try simp only [vcT, forall_eq])
  (simp only [vcS]); (try simp only [vcT])
  try (simp only [Tree.eta, Edit.eta, Tree.kind_mk, Tree.words_mk, Tree.kids_mk])
  refine ⟨fun hc => ?_, fun hc0 => ⟨by simp only [pre109]; omega, ?_⟩⟩
  · have e : normT (.mk k ws ks) = Tree.nil := by simp [normT, hc]
    simp only [res71, e]
    exact ⟨⟨rfl, ⟨⟨rfl, rfl⟩, ⟨rfl, ⟨rfl, trivial⟩⟩⟩, trivial⟩, trivial⟩
  · refine loop_rule (ι := Int × List Tree) (fun p => head71_0 (.mk k ws ks) p.1 p.2) (fun p => 0 ≤ p.1 ∧ p.1 ≤ ks.length ∧ p.2 = normK (ks.take p.1.toNat)) (fun p => ((ks.length : Int) - p.1).toNat) (0, []) rfl ⟨by dsimp only; omega, by dsimp only; omega, rfl⟩ ?_
    rintro ⟨i, l⟩ ⟨h1, h2, h5⟩
    dsimp only at *
    have hl : l.length = i.toNat := by rw [h5, normK_len, List.length_take]; omega
    refine vc71_l0 N _ _ _ _ _ ?_; (try simp only [vcT, forall_eq])
    (simp only [vcS]); (try simp only [vcT])
    try (simp only [Tree.eta, Edit.eta, Tree.kind_mk, Tree.words_mk, Tree.kids_mk])
    refine ⟨fun hc => ?_, fun hc => ⟨fun hk => ?_, fun hk => ?_⟩⟩
    · have hm := massK_get (ks := ks) (i := i.toNat) (by omega)
      have hnx : normK (ks.take (i + 1).toNat) = l ++ [normT (ks.getD i.toNat Tree.nil)] := by rw [takeT_next h1 hc, normK_app, h5]
      exact ⟨by omega, by simp only [pre71]; omega, by simp only [mu71]; omega, by simp only [List.length_cons, List.length_nil]; omega, by unfold InR; omega, (i + 1, _), rfl, ⟨by dsimp only; omega, by dsimp only; omega, hnx.symm⟩, by dsimp only; omega⟩
    · have hi : ks.take i.toNat = ks := List.take_of_length_le (by omega)
      rw [hi] at h5
      refine loop_rule (ι := List Int) (fun p => head71_1 (.mk k ws ks) l p) (fun p => p.length ≤ ws.length ∧ trim p = trim ws) (fun p => p.length) ws rfl ⟨by omega, rfl⟩ ?_
      rintro w ⟨h6, h7⟩
      refine vc71_l1 N _ _ _ _ _ ?_; (try simp only [vcT, forall_eq])
      (simp only [vcS]); (try simp only [vcT])
      refine ⟨fun h => by unfold InR; omega, fun h => by omega, fun hc => ⟨by unfold InR; omega, by omega, _, rfl, ⟨by rw [List.length_take]; omega, ?_⟩, by rw [List.length_take]; omega⟩, fun hc => ?_⟩
      · rw [trim_step hc.1 hc.2, h7]
      · have hw : w = trim ws := by rw [← h7, trim_done hc]
        refine loop_rule (ι := List Tree) (fun p => head71_2 (.mk k ws ks) w p) (fun p => p.length ≤ l.length ∧ trimK p = trimK l) (fun p => p.length) l rfl ⟨by omega, rfl⟩ ?_
        rintro q ⟨h8, h9⟩
        refine vc71_l2 N _ _ _ _ _ ?_; (try simp only [vcT, forall_eq])
        (simp only [vcS]); (try simp only [vcT])
        refine ⟨fun h => by unfold InR; omega, fun h => by omega, fun hc => ⟨by unfold InR; omega, by omega, _, rfl, ⟨by rw [List.length_take]; omega, ?_⟩, by rw [List.length_take]; omega⟩, fun hc => ?_⟩
        · rw [trimK_step hc.1 hc.2, h9]
        · have hq : q = trimK (normK ks) := by rw [← h5, ← h9, trimK_done hc]
          have e : normT (.mk k ws ks) = .mk k w q := by
            subst hk
            simp only [normT, hw, hq]
            rfl
          simp only [res71, e]
          exact ⟨⟨rfl, ⟨⟨rfl, rfl⟩, ⟨rfl, trivial⟩, ⟨rfl, trivial⟩, trivial⟩, trivial⟩, trivial⟩
    · have hi : ks.take i.toNat = ks := List.take_of_length_le (by omega)
      rw [hi] at h5
      have e : normT (.mk k ws ks) = .mk k ws l := by simp only [normT, if_neg hc0, if_neg hk, h5]
      simp only [res71, e]
      exact ⟨⟨rfl, ⟨⟨rfl, rfl⟩, ⟨rfl, trivial⟩, ⟨rfl, trivial⟩, trivial⟩, trivial⟩, trivial⟩
end Go.AM.Ytpjenobkibfpcaa
