import Derived.Test.YtpjenobkibfpcaaGreatZmZ
import Derived.Test.YtpjenobkibfpcaaGreatChecked
import Derived.Test.YtpjenobkibfpcaaGreatRows
import Derived.Test.YtpjenobkibfpcaaGreatZmX
import Derived.Test.YtpjenobkibfpcaaGreatZmXE
import Derived.ProofKit
import Derived.Test.YtpjenobkibfpcaaGreatZKD07
set_option linter.unusedSimpArgs false
set_option linter.unusedVariables false
namespace Go.AM.YtpjenobkibfpcaaGreat
open Go.AM Go.Proofs
def el : Ty → TypeId
  | .u64 => 101
  | .u8 => 5
  | .int => 3
  | .tree => 25
  | .wedit => 113
  | .edit => 30
  | .kid => 115
  | .op => 103
  | .piece => 173
  | .unit => 200
  | .pair => 202
  | .left => 110
  | .deed => 56
  | .hdeed => 82
def tb : Tables U :=
  { el := el
    sl := [(22, .u64), (23, .tree), (26, .wedit), (27, .kid), (28, .op), (39, .edit), (50, .deed), (78, .hdeed), (166, .piece), (182, .int), (188, .pair), (191, .unit), (221, .u8)]
    var := [(2, false, [.int .i64 0]),
      (3, false, [.int .i64 0]),
      (4, false, [.bool false]),
      (5, false, [.int .u8 0]),
      (6, false, [.int .u8 0]),
      (7, true, [.int .i64 0, .int .i64 0, .bool false, .int .u8 0]),
      (8, true, [.int .i64 0, .int .i64 0, .bool false, .int .u8 0]),
      (12, false, [.int .u64 0]),
      (15, false, [.nilp]),
      (16, false, [.nilp]),
      (17, false, [.nilp]),
      (18, true, [.nilp]),
      (19, true, [.nilp]),
      (21, false, [.int .i32 0]),
      (22, false, [.nils]),
      (23, false, [.nils]),
      (24, true, [.int .i64 0, .nils, .nils]),
      (25, true, [.int .i64 0, .nils, .nils]),
      (26, false, [.nils]),
      (27, false, [.nils]),
      (28, false, [.nils]),
      (29, true, [.int .i64 0, .int .i64 0, .nils, .nils, .int .i64 0, .nils, .nils, .nils, .nils, .int .i64 0, .nils]),
      (30, true, [.int .i64 0, .int .i64 0, .nils, .nils, .int .i64 0, .nils, .nils, .nils, .nils, .int .i64 0, .nils]),
      (33, false, [.int .i64 0]),
      (39, false, [.nils]),
      (50, false, [.nils]),
      (52, false, [.nilp]),
      (55, true, [.int .i64 0, .int .i64 0, .int .i64 0, .int .i64 0, .nils, .nils, .int .i64 0, .nils, .nils, .nils, .nils, .int .i64 0, .nils]),
      (56, true, [.int .i64 0, .int .i64 0, .int .i64 0, .int .i64 0, .nils, .nils, .int .i64 0, .nils, .nils, .nils, .nils, .int .i64 0, .nils]),
      (62, false, [.nilp]),
      (64, true, [.int .i64 0, .nils, .nils, .int .i64 0, .nils, .nils, .nils, .nils]),
      (65, true, [.int .i64 0, .nils, .nils, .int .i64 0, .nils, .nils, .nils, .nils]),
      (71, false, [.nilp]),
      (78, false, [.nils]),
      (79, false, [.nilp]),
      (81, true, [.int .i64 0, .int .i64 0, .int .i64 0, .int .i64 0, .int .i64 0, .nils, .nils, .int .i64 0, .nils, .nils, .nils, .nils, .int .i64 0, .nils]),
      (82, true, [.int .i64 0, .int .i64 0, .int .i64 0, .int .i64 0, .int .i64 0, .nils, .nils, .int .i64 0, .nils, .nils, .nils, .nils, .int .i64 0, .nils]),
      (85, false, [.nilp]),
      (86, true, [.nilp, .nilp, .nilp, .nilp]),
      (87, false, [.nilp]),
      (88, false, [.nilp]),
      (89, true, [.nilp, .nilp, .nilp, .nilp]),
      (90, true, [.nilp, .nilp, .nilp, .nilp, .nilp, .nilp, .nilp, .nilp, .nilp, .nilp]),
      (91, true, [.nilp, .nilp, .nilp, .nilp, .nilp, .nilp, .nilp, .nilp, .nilp, .nilp]),
      (101, false, [.int .u64 0]),
      (102, true, [.int .i64 0, .int .i64 0, .nils, .int .i64 0, .int .i64 0, .nils, .nils, .int .i64 0, .nils, .nils, .nils, .nils, .int .i64 0, .nils]),
      (103, true, [.int .i64 0, .int .i64 0, .nils, .int .i64 0, .int .i64 0, .nils, .nils, .int .i64 0, .nils, .nils, .nils, .nils, .int .i64 0, .nils]),
      (104, false, [.nilp]),
      (105, true, [.bool false, .bool false]),
      (106, true, [.bool false, .bool false]),
      (109, true, [.int .i64 0, .int .i64 0, .nils, .nils, .int .i64 0, .nils, .nils, .nils, .nils, .int .i64 0, .nils, .int .i64 0, .int .i64 0, .nils, .nils, .int .i64 0, .nils, .nils, .nils, .nils, .int .i64 0, .nils, .bool false, .bool false]),
      (110, true, [.int .i64 0, .int .i64 0, .nils, .nils, .int .i64 0, .nils, .nils, .nils, .nils, .int .i64 0, .nils, .int .i64 0, .int .i64 0, .nils, .nils, .int .i64 0, .nils, .nils, .nils, .nils, .int .i64 0, .nils, .bool false, .bool false]),
      (112, true, [.int .i64 0, .int .u8 0, .int .u64 0, .int .u64 0]),
      (113, true, [.int .i64 0, .int .u8 0, .int .u64 0, .int .u64 0]),
      (114, true, [.int .i64 0, .int .i64 0, .int .i64 0, .nils, .nils, .int .i64 0, .nils, .nils, .nils, .nils, .int .i64 0, .nils]),
      (115, true, [.int .i64 0, .int .i64 0, .int .i64 0, .nils, .nils, .int .i64 0, .nils, .nils, .nils, .nils, .int .i64 0, .nils]),
      (123, true, [.int .i64 0, .nils, .nils, .nils, .nils]),
      (124, true, [.int .i64 0, .nils, .nils, .nils, .nils]),
      (130, true, [.int .i64 0, .nils, .nils, .nils]),
      (131, true, [.int .i64 0, .nils, .nils, .nils]),
      (136, true, [.int .i64 0, .nils, .nils, .int .i64 0, .nils, .nils, .nils]),
      (137, true, [.int .i64 0, .nils, .nils, .int .i64 0, .nils, .nils, .nils]),
      (138, true, [.int .i64 0, .nils, .nils, .int .i64 0, .int .i64 0, .int .i64 0, .nils, .nils, .int .i64 0, .nils, .nils, .nils, .nils, .int .i64 0, .nils]),
      (139, true, [.int .i64 0, .nils, .nils, .int .i64 0, .int .i64 0, .int .i64 0, .nils, .nils, .int .i64 0, .nils, .nils, .nils, .nils, .int .i64 0, .nils]),
      (141, true, [.int .i64 0, .nils, .nils, .int .i64 0, .int .i64 0, .int .i64 0, .nils, .nils, .int .i64 0, .nils, .nils, .nils, .nils, .int .i64 0, .nils]),
      (142, true, [.int .i64 0, .nils, .nils, .int .i64 0, .int .i64 0, .int .i64 0, .nils, .nils, .int .i64 0, .nils, .nils, .nils, .nils, .int .i64 0, .nils]),
      (166, false, [.nils]),
      (169, false, [.nilp]),
      (170, true, [.nilp, .nils, .nils, .nils, .nils]),
      (171, true, [.nilp, .nils, .nils, .nils, .nils]),
      (172, true, [.int .i64 0, .int .i64 0, .int .i64 0, .nils, .int .i64 0, .int .i64 0, .nils, .nils, .int .i64 0, .nils, .nils, .nils, .nils, .int .i64 0, .nils, .int .i64 0, .int .i64 0, .nils, .int .i64 0, .int .i64 0, .nils, .nils, .int .i64 0, .nils, .nils, .nils, .nils, .int .i64 0, .nils]),
      (173, true, [.int .i64 0, .int .i64 0, .int .i64 0, .nils, .int .i64 0, .int .i64 0, .nils, .nils, .int .i64 0, .nils, .nils, .nils, .nils, .int .i64 0, .nils, .int .i64 0, .int .i64 0, .nils, .int .i64 0, .int .i64 0, .nils, .nils, .int .i64 0, .nils, .nils, .nils, .nils, .int .i64 0, .nils]),
      (176, false, [.nilp]),
      (177, true, [.nils, .nils, .nils]),
      (178, true, [.nils, .nils, .nils]),
      (181, false, [.nilp]),
      (182, false, [.nils]),
      (188, false, [.nils]),
      (191, false, [.nils]),
      (199, true, [.int .i64 0, .int .i64 0, .int .i64 0, .nils, .nils, .int .i64 0, .int .i64 0, .nils, .nils, .int .i64 0, .nils, .nils, .nils, .nils, .int .i64 0, .nils, .bool false]),
      (200, true, [.int .i64 0, .int .i64 0, .int .i64 0, .nils, .nils, .int .i64 0, .int .i64 0, .nils, .nils, .int .i64 0, .nils, .nils, .nils, .nils, .int .i64 0, .nils, .bool false]),
      (201, true, [.int .i64 0, .int .i64 0, .int .i64 0, .int .i64 0, .nils, .nils, .int .i64 0, .int .i64 0, .nils, .nils, .int .i64 0, .nils, .nils, .nils, .nils, .int .i64 0, .nils, .bool false, .int .i64 0, .int .i64 0, .int .i64 0, .nils, .nils, .int .i64 0, .int .i64 0, .nils, .nils, .int .i64 0, .nils, .nils, .nils, .nils, .int .i64 0, .nils, .bool false]),
      (202, true, [.int .i64 0, .int .i64 0, .int .i64 0, .int .i64 0, .nils, .nils, .int .i64 0, .int .i64 0, .nils, .nils, .int .i64 0, .nils, .nils, .nils, .nils, .int .i64 0, .nils, .bool false, .int .i64 0, .int .i64 0, .int .i64 0, .nils, .nils, .int .i64 0, .int .i64 0, .nils, .nils, .int .i64 0, .nils, .nils, .nils, .nils, .int .i64 0, .nils, .bool false]),
      (217, true, [.int .u8 0, .int .u8 0, .int .u8 0, .int .u8 0, .int .u8 0, .int .u8 0, .int .u8 0, .int .u8 0]),
      (221, false, [.nils]),
      (227, false, [.nilp]),
      (228, true, [.nils, .int .i64 0]),
      (229, true, [.nils, .int .i64 0]),
      (259, true, [.int .i64 0, .int .i64 0, .int .i64 0, .int .i64 0, .int .i64 0, .int .i64 0]),
      (267, false, [.int .u32 0]),
      (268, false, [.int .u8 0]),
      (269, false, [.int .u8 0]),
      (271, false, [.nilp]),
      (272, false, [.int .i32 0]),
      (273, false, [.int .i32 0])]
    fld := [(7, 0, 0, 2), (7, 1, 1, 3), (7, 2, 2, 4), (7, 3, 3, 6), (8, 0, 0, 2), (8, 1, 1, 3), (8, 2, 2, 4), (8, 3, 3, 6), (18, 0, 0, 17), (19, 0, 0, 17), (24, 0, 0, 3), (24, 1, 1, 22), (24, 2, 2, 23), (25, 0, 0, 3), (25, 1, 1, 22), (25, 2, 2, 23), (29, 0, 0, 3), (29, 1, 1, 25), (29, 2, 4, 25), (29, 3, 7, 26), (29, 4, 8, 27), (29, 5, 9, 3), (29, 6, 10, 28), (30, 0, 0, 3), (30, 1, 1, 25), (30, 2, 4, 25), (30, 3, 7, 26), (30, 4, 8, 27), (30, 5, 9, 3), (30, 6, 10, 28), (55, 0, 0, 3), (55, 1, 1, 3), (55, 2, 2, 30), (56, 0, 0, 3), (56, 1, 1, 3), (56, 2, 2, 30), (64, 0, 0, 25), (64, 1, 3, 25), (64, 2, 6, 39), (64, 3, 7, 39), (65, 0, 0, 25), (65, 1, 3, 25), (65, 2, 6, 39), (65, 3, 7, 39), (81, 0, 0, 3), (81, 1, 1, 3), (81, 2, 2, 3), (81, 3, 3, 30), (82, 0, 0, 3), (82, 1, 1, 3), (82, 2, 2, 3), (82, 3, 3, 30), (90, 0, 0, 71), (90, 1, 1, 86), (90, 2, 5, 87), (90, 3, 6, 89), (91, 0, 0, 71), (91, 1, 1, 86), (91, 2, 5, 87), (91, 3, 6, 89), (102, 0, 0, 3), (102, 1, 1, 3), (102, 2, 2, 23), (102, 3, 3, 30), (103, 0, 0, 3), (103, 1, 1, 3), (103, 2, 2, 23), (103, 3, 3, 30), (105, 0, 0, 4), (105, 1, 1, 4), (106, 0, 0, 4), (106, 1, 1, 4), (109, 0, 0, 30), (109, 1, 11, 30), (109, 2, 22, 4), (109, 3, 23, 4), (110, 0, 0, 30), (110, 1, 11, 30), (110, 2, 22, 4), (110, 3, 23, 4), (112, 0, 0, 3), (112, 1, 1, 5), (112, 2, 2, 101), (112, 3, 3, 101), (113, 0, 0, 3), (113, 1, 1, 5), (113, 2, 2, 101), (113, 3, 3, 101), (114, 0, 0, 3), (114, 1, 1, 30), (115, 0, 0, 3), (115, 1, 1, 30), (123, 0, 0, 25), (123, 1, 3, 39), (123, 2, 4, 39), (124, 0, 0, 25), (124, 1, 3, 39), (124, 2, 4, 39), (130, 0, 0, 25), (130, 1, 3, 39), (131, 0, 0, 25), (131, 1, 3, 39), (136, 0, 0, 25), (136, 1, 3, 25), (136, 2, 6, 39), (137, 0, 0, 25), (137, 1, 3, 25), (137, 2, 6, 39), (138, 0, 0, 25), (138, 1, 3, 3), (138, 2, 4, 30), (139, 0, 0, 25), (139, 1, 3, 3), (139, 2, 4, 30), (141, 0, 0, 25), (141, 1, 3, 3), (141, 2, 4, 30), (142, 0, 0, 25), (142, 1, 3, 3), (142, 2, 4, 30), (170, 0, 0, 104), (170, 1, 1, 28), (170, 2, 2, 28), (170, 3, 3, 23), (170, 4, 4, 23), (171, 0, 0, 104), (171, 1, 1, 28), (171, 2, 2, 28), (171, 3, 3, 23), (171, 4, 4, 23), (172, 0, 0, 3), (172, 1, 1, 103), (172, 2, 15, 103), (173, 0, 0, 3), (173, 1, 1, 103), (173, 2, 15, 103), (177, 0, 0, 28), (177, 1, 1, 23), (177, 2, 2, 23), (178, 0, 0, 28), (178, 1, 1, 23), (178, 2, 2, 23), (199, 0, 0, 3), (199, 1, 1, 3), (199, 2, 2, 25), (199, 3, 5, 30), (199, 4, 16, 4), (200, 0, 0, 3), (200, 1, 1, 3), (200, 2, 2, 25), (200, 3, 5, 30), (200, 4, 16, 4), (201, 0, 0, 3), (201, 1, 1, 200), (201, 2, 18, 200), (202, 0, 0, 3), (202, 1, 1, 200), (202, 2, 18, 200), (228, 0, 0, 28), (228, 1, 1, 3), (229, 0, 0, 28), (229, 1, 1, 3)]
    arr := [(86, 4, 85), (89, 4, 88), (217, 8, 5), (259, 6, 3)]
    eqs := [7, 8, 105, 106, 112, 113] }
def cfg : Cfg U := tb.cfg K
theorem varOk : tb.var.all (varB Tryz.prog) = true := by kernel_rfl
theorem slOk : tb.sl.all (slB Tryz.prog tb.el) = true := by kernel_rfl
theorem fldOk : tb.fld.all (fldB Tryz.prog) = true := by kernel_rfl
theorem arrOk : tb.arr.all (arrB Tryz.prog) = true := by kernel_rfl
theorem elOk : ∀ t, elB Tryz.prog K tb t = true := by
  intro t
  cases t
  · kernel_rfl
  · kernel_rfl
  · kernel_rfl
  · kernel_rfl
  · kernel_rfl
  · kernel_rfl
  · kernel_rfl
  · kernel_rfl
  · kernel_rfl
  · kernel_rfl
  · kernel_rfl
  · kernel_rfl
  · kernel_rfl
  · kernel_rfl
theorem cfgOk : CfgOk Tryz.prog cfg := tables_ok K_ok varOk slOk fldOk arrOk elOk (by kernel_rfl) (by kernel_rfl)
end Go.AM.YtpjenobkibfpcaaGreat

namespace Go.AM.YtpjenobkibfpcaaGreat
open Go.AM Go.Proofs Go.Proofs.YtpjenobkibfpcaaGreat Go.ChangeShapes Go.WideShapes Go.RowKit
theorem own : ownKnob Tryz.prog.godebug = none := by kernel_rfl
theorem laidOut : laidOutB Tryz.prog = true := by kernel_rfl
theorem treeTypes : TreeTypes cfg := ⟨rfl, rfl, ⟨_, rfl⟩, ⟨_, rfl⟩, ⟨_, rfl, rfl⟩, ⟨_, _, rfl, rfl⟩, ⟨_, _, rfl, rfl, rfl⟩, ⟨_, _, rfl, rfl, rfl⟩⟩
theorem editTypes : EditTypes cfg := ⟨⟨_, rfl, rfl⟩, ⟨_, _, rfl, rfl⟩, ⟨_, _, rfl, rfl⟩, ⟨_, _, rfl, rfl⟩, ⟨_, _, rfl, rfl⟩, ⟨_, rfl, rfl⟩, ⟨_, _, rfl, rfl⟩, rfl, ⟨_, rfl, rfl⟩, ⟨_, _, rfl, rfl⟩, ⟨_, _, rfl, rfl⟩, ⟨_, _, rfl, rfl, rfl⟩, rfl, ⟨_, rfl, rfl⟩, ⟨_, _, rfl, rfl⟩, rfl, rfl, ⟨_, _, rfl, rfl, rfl⟩, ⟨_, _, rfl, rfl, rfl⟩, ⟨_, _, rfl, rfl⟩, ⟨_, _, rfl, rfl, rfl⟩⟩
end Go.AM.YtpjenobkibfpcaaGreat

namespace Go.AM.YtpjenobkibfpcaaGreat
open Go.AM Go.Proofs Go.Proofs.YtpjenobkibfpcaaGreat Go.ChangeShapes Go.WideShapes Go.RowKit
theorem rd_deed {H : Type} {henc : TypeId × Value → H} {w : World} {n : Nat} {cs : List Value} (h : Rdd henc Tryz.prog w n (cfg.elT .deed) cs) : ∃ e : Deed, RelS cfg w.cell? cs (cfg.enc .deed e) ∧ inE e.e := by
  obtain ⟨ez, hez, hezl⟩ := editTypes.evar
  obtain ⟨m, rfl, hl, r0⟩ := rd_fld cfgOk (t := cfg.elT .deed) (i := 0) (off := 0) (ft := 3) (ag := false) (zs := [.int .i64 0]) rfl rfl h
  obtain ⟨m', e', _, r1⟩ := rd_fld cfgOk (t := cfg.elT .deed) (i := 1) (off := 1) (ft := 3) (ag := false) (zs := [.int .i64 0]) rfl rfl h
  cases e'
  obtain ⟨m', e', _, r2⟩ := rd_fld cfgOk (t := cfg.elT .deed) (i := 2) (off := 2) (ft := cfg.elT .edit) rfl hez h
  cases e'
  have hl2 : cs.length = 13 := by rw [hl, cellsOf_var cfgOk (t := cfg.elT .deed) (ag := true) rfl]; rfl
  obtain ⟨a, a1, _⟩ := rd_int cfgOk (k := .i64) (n0 := 0) rfl r0
  obtain ⟨b, b1, _⟩ := rd_int cfgOk (k := .i64) (n0 := 0) rfl r1
  obtain ⟨c, c1, c2⟩ := rd_edit cfgOk treeTypes editTypes _ _ r2
  rw [hezl] at c1
  exact ⟨⟨a, b, c⟩, a1.glue rfl (by simp; omega) (b1.glue rfl (by simp; omega) (c1.glue rfl (by omega) (RelS.done (n := 13) hl2))), c2⟩
theorem argDeed {H : Type} {henc : TypeId × Value → H} : ArgR henc Tryz.prog cfg (aEl .deed) 56 (fun d => inE d.e) :=
  argR_el cfgOk rfl ⟨_, _, rfl⟩ (fun _ n cs h => rd_deed h)
end Go.AM.YtpjenobkibfpcaaGreat

namespace Go.AM.YtpjenobkibfpcaaGreat
open Go.AM Go.Proofs
def args80 : ArgL (Tree × Int × Int × Unit) := (.cons (aEl .tree) (.cons (aInt .i64) (.cons (aInt .i64) .nil)))
def pre80 (a : Tree × Int × Int × Unit) : Prop := small a.1 ∧ 0 ≤ a.2.1 ∧ a.2.1 ≤ 4611686018427387904 ∧ -1 ≤ a.2.2.1 ∧ a.2.2.1 ≤ 4611686018427387904
def mu80 (a : Tree × Int × Int × Unit) : Nat := mass a.1
noncomputable def res80 (a : Tree × Int × Int × Unit) : V U := .c (.int .i64 (shallow a.1 a.2.1 a.2.2.1))
noncomputable def spec80 : Fs U := fs args80 (fun a => [pre80 a]) res80
def args117 : ArgL (List Int × Unit) := (.cons (aSl .u64) .nil)
def pre117 (a : List Int × Unit) : Prop := a.1.length ≤ 1000000000000
noncomputable def res117 (a : List Int × Unit) : V U := .c (.slice (U := U) .u64 a.1 .unk)
noncomputable def spec117 : Fs U := fs args117 (fun a => [pre117 a]) res117
def args172 : ArgL (List Int × List Int × Unit) := (.cons (aSl .u64) (.cons (aSl .u64) .nil))
def pre172 (a : List Int × List Int × Unit) : Prop := a.1.length ≤ 1000000000000
noncomputable def res172 (a : List Int × List Int × Unit) : V U := .c (.bool (decide (a.1 = a.2.1)))
noncomputable def spec172 : Fs U := fs args172 (fun a => [pre172 a]) res172
def args173 : ArgL (Tree × Int × Unit) := (.cons (aEl .tree) (.cons (aInt .i64) .nil))
def pre173 (a : Tree × Int × Unit) : Prop := True
noncomputable def res173 (a : Tree × Int × Unit) : V U := .c (.int .u64 (wordAt a.1 a.2.1))
noncomputable def spec173 : Fs U := fs args173 (fun a => [pre173 a]) res173
def args174 : ArgL (Tree × Int × Unit) := (.cons (aEl .tree) (.cons (aInt .i64) .nil))
def pre174 (a : Tree × Int × Unit) : Prop := True
noncomputable def res174 (a : Tree × Int × Unit) : V U := .agg [.int .i64 (Tree.kind (kidAt a.1 a.2.1)), .slice (U := U) .u64 (Tree.words (kidAt a.1 a.2.1)) .unk, .slice (U := U) .tree (Tree.kids (kidAt a.1 a.2.1)) .unk]
noncomputable def spec174 : Fs U := fs args174 (fun a => [pre174 a]) res174
def args75 : ArgL (Tree × Unit) := (.cons (aEl .tree) .nil)
def pre75 (a : Tree × Unit) : Prop := mass a.1 ≤ 1000000000000
def mu75 (a : Tree × Unit) : Nat := mass a.1
noncomputable def res75 (a : Tree × Unit) : V U := .agg [.int .i64 (Tree.kind (normT a.1)), .slice (U := U) .u64 (Tree.words (normT a.1)) .unk, .slice (U := U) .tree (Tree.kids (normT a.1)) .unk]
noncomputable def spec75 : Fs U := fs args75 (fun a => [pre75 a]) res75
def args114 : ArgL (Tree × Tree × Unit) := (.cons (aEl .tree) (.cons (aEl .tree) .nil))
def pre114 (a : Tree × Tree × Unit) : Prop := mass a.1 ≤ 1000000000000 ∧ mass a.2.1 ≤ 1000000000000
def mu114 (a : Tree × Tree × Unit) : Nat := mass a.1 + mass a.2.1
noncomputable def res114 (a : Tree × Tree × Unit) : V U := .c (.bool (sameT (normT a.1) (normT a.2.1)))
noncomputable def spec114 : Fs U := fs args114 (fun a => [pre114 a]) res114
noncomputable def know80 (N : Nat) : List (FuncId × Fs U) := (80, fs args80 (fun a => [pre80 a, mu80 a < N]) res80) :: []
def lv80 : Lives U := fun i => match i with
  | 0 => ([(1, []), (2, []), (3, [])], [((.loc 3), [])])
  | 1 => ([(1, []), (2, []), (3, [])], [((.loc 3), [])])
  | 2 => ([(1, []), (2, []), (3, []), (19, [])], [((.loc 3), [])])
  | 3 => ([(6, [])], [])
  | 4 => ([(1, []), (2, []), (3, []), (7, [])], [((.loc 3), [])])
  | 5 => ([(1, []), (2, []), (3, []), (7, []), (28, [])], [((.loc 3), [])])
  | 6 => ([(1, []), (2, []), (3, []), (7, [])], [((.loc 3), [])])
  | 7 => ([(1, []), (2, []), (3, []), (7, [])], [((.loc 3), [])])
  | 8 => ([(6, [])], [])
  | _ => ([], [])
noncomputable def head80_0 (t : Tree) (d : Int) (l : Int) (x2 : Int) (x7 : Int) : LSt U := (⟨[(1, .c (.int .i64 d)), (2, .c (.int .i64 x2)), (3, .ptr (.loc 3) 0), (7, .c (.int .i64 x7))], [((.loc 3), [.int .i64 (Tree.kind t), .slice (U := U) .u64 (Tree.words t) .unk, .slice (U := U) .tree (Tree.kids t) .unk])], []⟩ : LSt U)
noncomputable abbrev A80 (N : Nat) (p : List Nat) := awp cfg (know (know80 N)) (drawOk cfg (know (know80 N))) Tryz.f80.ntmps lv80 (cd Tryz.f80 p)
noncomputable abbrev S80 (N : Nat) (p : List Nat) := seqK cfg (know (know80 N)) (drawOk cfg (know (know80 N))) Tryz.f80.ntmps lv80 (cd Tryz.f80 p)
theorem vc80 (N : Nat) (t : Tree) (d : Int) (l : Int) (Q : AExit → LSt U → Prop) (h : ((InR ((l : Int) - 1)) ∧ (InR ((((l : Int) - 1) : Int) - ((Tree.words t).length : Int))) ∧ ((Tr ((!((d : Int) == 0)) = true)) ∧ ((((d : Int) == 0) = false → (!((d : Int) == 0)) = true)) ∧ (((bif ((d : Int) == 0) then true else (decide ((((((l : Int) - 1) : Int) - ((Tree.words t).length : Int)) : Int) < 0))) = true → (Q .ret (⟨[(6, .c (.int .i64 (-1)))], [], []⟩ : LSt U))) ∧ ((bif ((d : Int) == 0) then true else (decide ((((((l : Int) - 1) : Int) - ((Tree.words t).length : Int)) : Int) < 0))) = false → (LoopWp (A80 N [1, 1, 1, 0, 1, 0, 0]) (head80_0 t d l ((((l : Int) - 1) : Int) - ((Tree.words t).length : Int)) 0) (AExit.inBlock 0 (S80 N [1, 1, 1, 1] Q)))))))) :
    A80 N [] (⟨[(0, .agg [.int .i64 (Tree.kind t), .slice (U := U) .u64 (Tree.words t) .unk, .slice (U := U) .tree (Tree.kids t) .unk]), (1, .c (.int .i64 d)), (2, .c (.int .i64 l))], [], []⟩ : LSt U) Q :=
  Eq.mpr (by kernel_rfl) h
theorem vc80_l0 (N : Nat) (t : Tree) (d : Int) (l : Int) (x2 : Int) (x7 : Int) (N0 : LSt U → Prop) (Q : AExit → LSt U → Prop) (h : (Tr ((decide ((x7 : Int) < ((Tree.kids t).length : Int))) = true)) ∧ ((Tr ((decide ((x7 : Int) < ((Tree.kids t).length : Int))) = true))) ∧ (((bif (decide ((x7 : Int) < ((Tree.kids t).length : Int))) then (decide ((0 : Int) ≤ x2)) else false) = true → ((0 : Int) ≤ x7 ∧ x7 < ((Tree.kids t).length : Int)) ∧ (InR ((d : Int) - 1)) ∧ (pre80 ((Tree.mk (Tree.kind (List.getD (Tree.kids t) (Int.toNat x7) Tree.nil)) (Tree.words (List.getD (Tree.kids t) (Int.toNat x7) Tree.nil)) (Tree.kids (List.getD (Tree.kids t) (Int.toNat x7) Tree.nil))), ((d : Int) - 1), x2, ())) ∧ (mu80 ((Tree.mk (Tree.kind (List.getD (Tree.kids t) (Int.toNat x7) Tree.nil)) (Tree.words (List.getD (Tree.kids t) (Int.toNat x7) Tree.nil)) (Tree.kids (List.getD (Tree.kids t) (Int.toNat x7) Tree.nil))), ((d : Int) - 1), x2, ()) < N) ∧ ((InR ((x7 : Int) + 1)) ∧ (N0 (head80_0 t d l (shallow (Tree.mk (Tree.kind (List.getD (Tree.kids t) (Int.toNat x7) Tree.nil)) (Tree.words (List.getD (Tree.kids t) (Int.toNat x7) Tree.nil)) (Tree.kids (List.getD (Tree.kids t) (Int.toNat x7) Tree.nil))) ((d : Int) - 1) x2) ((x7 : Int) + 1))))) ∧ ((bif (decide ((x7 : Int) < ((Tree.kids t).length : Int))) then (decide ((0 : Int) ≤ x2)) else false) = false → (Q .ret (⟨[(6, .c (.int .i64 x2))], [], []⟩ : LSt U))))) :
    A80 N [1, 1, 1, 0, 1, 0, 0] (head80_0 t d l x2 x7) (AExit.then N0 (AExit.inBlock 0 (S80 N [1, 1, 1, 1] Q))) :=
  Eq.mpr (by kernel_rfl) h
def Body80 (N : Nat) (t : Tree) (d : Int) (l : Int)  : Prop := awp cfg (know (know80 N)) (drawOk cfg (know (know80 N))) Tryz.f80.ntmps lv80 (cd Tryz.f80 []) (entry (args80.can (t, d, l, ())) []) (EndsQ cfg Tryz.f80.ntmps Tryz.f80.results.toList (res80 (t, d, l, ())) [])
theorem make80 (hb : ∀ (N : Nat) (t : Tree) (d : Int) (l : Int) (_ : Unit), pre80 (t, d, l, ()) → mu80 (t, d, l, ()) < N + 1 → Body80 N t d l) : Contract Tryz.prog cfg 80 spec80 :=
  contract_rec (μ := mu80) (l := []) cfgOk rfl (trivial) lv80 Tryz.func80 rfl rfl 3 (fun _ => rfl) (by decide) (fun N ⟨t, d, l, _⟩ => hb N t d l ())
noncomputable def know117 : List (FuncId × Fs U) := []
def lv117 : Lives U := fun i => match i with
  | 0 => ([(0, [])], [])
  | 1 => ([(0, []), (4, [])], [])
  | 2 => ([(2, [])], [])
  | 3 => ([(2, [])], [])
  | _ => ([], [])
noncomputable abbrev A117 (p : List Nat) := awp cfg (know know117) (drawOk cfg (know know117)) Tryz.f117.ntmps lv117 (cd Tryz.f117 p)
theorem vc117 (l : List Int) (Q : AExit → LSt U → Prop) (h : ((((l = []) → (Q .ret (⟨[(2, .c (.nils))], [], []⟩ : LSt U))) ∧ ((True) → ((([] : List Int).length + l.length) * 8 ≤ 140737488355328) ∧ (Q .ret (⟨[(2, .c (.slice (U := U) .u64 (([] : List Int) ++ l) (.own (.e 2 0))))], [], []⟩ : LSt U)))))) :
    A117 [] (⟨[(0, .c (.slice (U := U) .u64 l .unk))], [], []⟩ : LSt U) Q :=
  Eq.mpr (by kernel_rfl) h
def Body117 (l : List Int)  : Prop := awp cfg (know (know117)) (drawOk cfg (know (know117))) Tryz.f117.ntmps lv117 (cd Tryz.f117 []) (entry (args117.can (l, ())) []) (EndsQ cfg Tryz.f117.ntmps Tryz.f117.results.toList (res117 (l, ())) [])
theorem make117 (hb : ∀ (l : List Int) (_ : Unit), pre117 (l, ()) → Body117 l) : Contract Tryz.prog cfg 117 spec117 :=
  contract_flat (l := []) cfgOk rfl (trivial) lv117 Tryz.func117 rfl rfl 1 (fun _ => rfl) (by decide) (fun ⟨l, _⟩ => hb l ())
noncomputable def know172 : List (FuncId × Fs U) := []
def lv172 : Lives U := fun i => match i with
  | 0 => ([(0, []), (1, [])], [])
  | 1 => ([(0, []), (1, []), (10, [])], [])
  | 2 => ([(4, [])], [])
  | 3 => ([(0, []), (1, []), (12, []), (13, [])], [])
  | 4 => ([(0, []), (1, []), (12, []), (13, []), (14, [])], [])
  | 5 => ([(0, []), (1, []), (5, []), (12, []), (13, [])], [])
  | 6 => ([(0, []), (1, []), (12, []), (13, []), (24, [])], [])
  | 7 => ([(4, [])], [])
  | 8 => ([(0, []), (1, []), (12, []), (13, [])], [])
  | 9 => ([(4, [])], [])
  | _ => ([], [])
noncomputable def head172_0 (a : List Int) (b : List Int) (x13 : Int) : LSt U := (⟨[(0, .c (.slice (U := U) .u64 a .unk)), (1, .c (.slice (U := U) .u64 b .unk)), (12, .c (.int .i64 (a.length : Int))), (13, .c (.int .i64 x13))], [], []⟩ : LSt U)
noncomputable abbrev A172 (p : List Nat) := awp cfg (know know172) (drawOk cfg (know know172)) Tryz.f172.ntmps lv172 (cd Tryz.f172 p)
noncomputable abbrev S172 (p : List Nat) := seqK cfg (know know172) (drawOk cfg (know know172)) Tryz.f172.ntmps lv172 (cd Tryz.f172 p)
theorem vc172 (a : List Int) (b : List Int) (Q : AExit → LSt U → Prop) (h : ((((((a.length : Int) : Int) != (b.length : Int)) = true → (Q .ret (⟨[(4, .c (.bool false))], [], []⟩ : LSt U))) ∧ ((((a.length : Int) : Int) != (b.length : Int)) = false → (LoopWp (A172 [1, 1, 0, 1, 0, 0]) (head172_0 a b 0) (AExit.inBlock 0 (S172 [1, 1, 1] Q))))))) :
    A172 [] (⟨[(0, .c (.slice (U := U) .u64 a .unk)), (1, .c (.slice (U := U) .u64 b .unk))], [], []⟩ : LSt U) Q :=
  Eq.mpr (by kernel_rfl) h
theorem vc172_l0 (a : List Int) (b : List Int) (x13 : Int) (N0 : LSt U → Prop) (Q : AExit → LSt U → Prop) (h : (((decide ((x13 : Int) < (a.length : Int))) = true → (((0 : Int) ≤ x13 ∧ x13 < (a.length : Int)) ∧ ((0 : Int) ≤ x13 ∧ x13 < (b.length : Int)) ∧ (((((List.getD a (Int.toNat x13) (0 : Int)) : Int) != (List.getD b (Int.toNat x13) (0 : Int))) = true → (Q .ret (⟨[(4, .c (.bool false))], [], []⟩ : LSt U))) ∧ ((((List.getD a (Int.toNat x13) (0 : Int)) : Int) != (List.getD b (Int.toNat x13) (0 : Int))) = false → (InR ((x13 : Int) + 1)) ∧ (N0 (head172_0 a b ((x13 : Int) + 1))))))) ∧ ((decide ((x13 : Int) < (a.length : Int))) = false → (Q .ret (⟨[(4, .c (.bool true))], [], []⟩ : LSt U))))) :
    A172 [1, 1, 0, 1, 0, 0] (head172_0 a b x13) (AExit.then N0 (AExit.inBlock 0 (S172 [1, 1, 1] Q))) :=
  Eq.mpr (by kernel_rfl) h
def Body172 (a : List Int) (b : List Int)  : Prop := awp cfg (know (know172)) (drawOk cfg (know (know172))) Tryz.f172.ntmps lv172 (cd Tryz.f172 []) (entry (args172.can (a, b, ())) []) (EndsQ cfg Tryz.f172.ntmps Tryz.f172.results.toList (res172 (a, b, ())) [])
theorem make172 (hb : ∀ (a : List Int) (b : List Int) (_ : Unit), pre172 (a, b, ()) → Body172 a b) : Contract Tryz.prog cfg 172 spec172 :=
  contract_flat (l := []) cfgOk rfl (trivial) lv172 Tryz.func172 rfl rfl 2 (fun _ => rfl) (by decide) (fun ⟨a, b, _⟩ => hb a b ())
noncomputable def know173 : List (FuncId × Fs U) := []
def lv173 : Lives U := fun i => match i with
  | 0 => ([(1, []), (2, [])], [((.loc 2), [])])
  | 1 => ([(1, []), (2, []), (13, [])], [((.loc 2), [])])
  | 2 => ([(4, [])], [])
  | 3 => ([(4, [])], [])
  | _ => ([], [])
noncomputable abbrev A173 (p : List Nat) := awp cfg (know know173) (drawOk cfg (know know173)) Tryz.f173.ntmps lv173 (cd Tryz.f173 p)
theorem vc173 (t : Tree) (i : Int) (Q : AExit → LSt U → Prop) (h : ((Tr ((!(decide ((i : Int) < 0))) = true)) ∧ (Tr ((!(decide ((i : Int) < 0))) = true)) ∧ (Tr ((!(decide ((i : Int) < 0))) = true)) ∧ (Tr ((!(decide ((i : Int) < 0))) = true)) ∧ (((decide ((i : Int) < 0)) = false → (!(decide ((i : Int) < 0))) = true)) ∧ (((bif (decide ((i : Int) < 0)) then true else (decide ((((Tree.words t).length : Int) : Int) ≤ i))) = true → (Q .ret (⟨[(4, .c (.int .u64 0))], [], []⟩ : LSt U))) ∧ ((bif (decide ((i : Int) < 0)) then true else (decide ((((Tree.words t).length : Int) : Int) ≤ i))) = false → ((0 : Int) ≤ i ∧ i < ((Tree.words t).length : Int)) ∧ (Q .ret (⟨[(4, .c (.int .u64 (List.getD (Tree.words t) (Int.toNat i) (0 : Int))))], [], []⟩ : LSt U)))))) :
    A173 [] (⟨[(0, .agg [.int .i64 (Tree.kind t), .slice (U := U) .u64 (Tree.words t) .unk, .slice (U := U) .tree (Tree.kids t) .unk]), (1, .c (.int .i64 i))], [], []⟩ : LSt U) Q :=
  Eq.mpr (by kernel_rfl) h
def Body173 (t : Tree) (i : Int)  : Prop := awp cfg (know (know173)) (drawOk cfg (know (know173))) Tryz.f173.ntmps lv173 (cd Tryz.f173 []) (entry (args173.can (t, i, ())) []) (EndsQ cfg Tryz.f173.ntmps Tryz.f173.results.toList (res173 (t, i, ())) [])
theorem make173 (hb : ∀ (t : Tree) (i : Int) (_ : Unit), pre173 (t, i, ()) → Body173 t i) : Contract Tryz.prog cfg 173 spec173 :=
  contract_flat (l := []) cfgOk rfl (trivial) lv173 Tryz.func173 rfl rfl 2 (fun _ => rfl) (by decide) (fun ⟨t, i, _⟩ => hb t i ())
noncomputable def know174 : List (FuncId × Fs U) := []
def lv174 : Lives U := fun i => match i with
  | 0 => ([(1, []), (2, []), (4, [])], [((.loc 2), []), ((.loc 4), [])])
  | 1 => ([(1, []), (2, []), (4, []), (13, [])], [((.loc 2), []), ((.loc 4), [])])
  | 2 => ([(4, [])], [((.loc 4), [])])
  | 3 => ([(4, [])], [((.loc 4), [])])
  | _ => ([], [])
noncomputable abbrev A174 (p : List Nat) := awp cfg (know know174) (drawOk cfg (know know174)) Tryz.f174.ntmps lv174 (cd Tryz.f174 p)
theorem vc174 (t : Tree) (i : Int) (Q : AExit → LSt U → Prop) (h : ((Tr ((!(decide ((i : Int) < 0))) = true)) ∧ (Tr ((!(decide ((i : Int) < 0))) = true)) ∧ (Tr ((!(decide ((i : Int) < 0))) = true)) ∧ (Tr ((!(decide ((i : Int) < 0))) = true)) ∧ (((decide ((i : Int) < 0)) = false → (!(decide ((i : Int) < 0))) = true)) ∧ (((bif (decide ((i : Int) < 0)) then true else (decide ((((Tree.kids t).length : Int) : Int) ≤ i))) = true → (Q .ret (⟨[(4, .ptr (.loc 4) 0)], [((.loc 4), [.int .i64 0, .nils, .nils])], []⟩ : LSt U))) ∧ ((bif (decide ((i : Int) < 0)) then true else (decide ((((Tree.kids t).length : Int) : Int) ≤ i))) = false → ((0 : Int) ≤ i ∧ i < ((Tree.kids t).length : Int)) ∧ (Q .ret (⟨[(4, .ptr (.loc 4) 0)], [((.loc 4), [.int .i64 (Tree.kind (List.getD (Tree.kids t) (Int.toNat i) Tree.nil)), .slice (U := U) .u64 (Tree.words (List.getD (Tree.kids t) (Int.toNat i) Tree.nil)) .unk, .slice (U := U) .tree (Tree.kids (List.getD (Tree.kids t) (Int.toNat i) Tree.nil)) .unk])], []⟩ : LSt U)))))) :
    A174 [] (⟨[(0, .agg [.int .i64 (Tree.kind t), .slice (U := U) .u64 (Tree.words t) .unk, .slice (U := U) .tree (Tree.kids t) .unk]), (1, .c (.int .i64 i))], [], []⟩ : LSt U) Q :=
  Eq.mpr (by kernel_rfl) h
def Body174 (t : Tree) (i : Int)  : Prop := awp cfg (know (know174)) (drawOk cfg (know (know174))) Tryz.f174.ntmps lv174 (cd Tryz.f174 []) (entry (args174.can (t, i, ())) []) (EndsQ cfg Tryz.f174.ntmps Tryz.f174.results.toList (res174 (t, i, ())) [])
theorem make174 (hb : ∀ (t : Tree) (i : Int) (_ : Unit), pre174 (t, i, ()) → Body174 t i) : Contract Tryz.prog cfg 174 spec174 :=
  contract_flat (l := []) cfgOk rfl (trivial) lv174 Tryz.func174 rfl rfl 2 (fun _ => rfl) (by decide) (fun ⟨t, i, _⟩ => hb t i ())
noncomputable def know75 (N : Nat) : List (FuncId × Fs U) := (75, fs args75 (fun a => [pre75 a, mu75 a < N]) res75) :: [(117, spec117)]
def lv75 : Lives U := fun i => match i with
  | 0 => ([(1, []), (2, [])], [((.loc 1), []), ((.loc 2), [])])
  | 1 => ([(1, []), (2, []), (8, [])], [((.loc 1), []), ((.loc 2), [])])
  | 2 => ([(2, [])], [((.loc 2), [])])
  | 3 => ([(1, []), (2, []), (3, [])], [((.loc 1), []), ((.loc 2), []), ((.loc 3), [])])
  | 4 => ([(1, []), (2, []), (3, []), (17, []), (18, []), (19, [])], [((.loc 1), []), ((.loc 2), []), ((.loc 3), [.any, .any, .own .tree])])
  | 5 => ([(1, []), (2, []), (3, []), (17, []), (18, []), (19, []), (20, [])], [((.loc 1), []), ((.loc 2), []), ((.loc 3), [])])
  | 6 => ([(1, []), (2, []), (3, []), (5, []), (17, []), (18, []), (19, [])], [((.loc 1), []), ((.loc 2), []), ((.loc 3), []), ((.loc 5), [])])
  | 7 => ([(1, []), (2, []), (3, []), (17, []), (18, []), (19, [])], [((.loc 1), []), ((.loc 2), []), ((.loc 3), [])])
  | 8 => ([(1, []), (2, []), (3, []), (17, []), (18, []), (19, [])], [((.loc 1), []), ((.loc 2), []), ((.loc 3), [.any, .any, .own .tree])])
  | 9 => ([(2, []), (3, []), (33, [])], [((.loc 2), []), ((.loc 3), [.any, .any, .unk .tree])])
  | 10 => ([(2, []), (3, []), (33, []), (48, [])], [((.loc 2), []), ((.loc 3), [.any, .any, .unk .tree])])
  | 11 => ([(2, []), (3, []), (33, [])], [((.loc 2), []), ((.loc 3), [.any, .any, .unk .tree])])
  | 12 => ([(2, []), (3, []), (33, []), (48, []), (72, [])], [((.loc 2), []), ((.loc 3), [])])
  | 13 => ([(2, []), (3, []), (33, []), (48, [])], [((.loc 2), []), ((.loc 3), [.any, .any, .unk .tree])])
  | 14 => ([(2, [])], [((.loc 2), [])])
  | _ => ([], [])
noncomputable def head75_0 (t : Tree) (x19 : Int) (ml3_2 : List Tree) : LSt U := (⟨[(1, .ptr (.loc 1) 0), (2, .ptr (.loc 2) 0), (3, .ptr (.loc 3) 0), (17, .c (.slice (U := U) .tree (Tree.kids t) .unk)), (18, .c (.int .i64 ((Tree.kids t).length : Int))), (19, .c (.int .i64 x19))], [((.loc 1), [.int .i64 (Tree.kind t), .slice (U := U) .u64 (Tree.words t) .unk, .slice (U := U) .tree (Tree.kids t) .unk]), ((.loc 2), [.int .i64 0, .nils, .nils]), ((.loc 3), [.int .i64 (Tree.kind t), .slice (U := U) .u64 (Tree.words t) .unk, .slice (U := U) .tree ml3_2 (.own (.l 3 2))])], []⟩ : LSt U)
noncomputable def head75_1 (t : Tree) (ml3_2 : List Tree) (ml3_1_a : List Int) : LSt U := (⟨[(2, .ptr (.loc 2) 0), (3, .ptr (.loc 3) 0), (33, .c (.bool (((Tree.kind t) : Int) == 1)))], [((.loc 2), [.int .i64 0, .nils, .nils]), ((.loc 3), [.int .i64 (Tree.kind t), .slice (U := U) .u64 ml3_1_a .unk, .slice (U := U) .tree ml3_2 .unk])], []⟩ : LSt U)
noncomputable def head75_2 (t : Tree) (ml3_1_a : List Int) (ml3_2_b : List Tree) : LSt U := (⟨[(2, .ptr (.loc 2) 0), (3, .ptr (.loc 3) 0), (33, .c (.bool (((Tree.kind t) : Int) == 1))), (48, .c (.bool (bif (decide ((0 : Int) < (ml3_1_a.length : Int))) then (((List.getD ml3_1_a (Int.toNat (((ml3_1_a.length : Int) : Int) - 1)) (0 : Int)) : Int) == 0) else false)))], [((.loc 2), [.int .i64 0, .nils, .nils]), ((.loc 3), [.int .i64 (Tree.kind t), .slice (U := U) .u64 ml3_1_a .unk, .slice (U := U) .tree ml3_2_b .unk])], []⟩ : LSt U)
noncomputable abbrev A75 (N : Nat) (p : List Nat) := awp cfg (know (know75 N)) (drawOk cfg (know (know75 N))) Tryz.f75.ntmps lv75 (cd Tryz.f75 p)
noncomputable abbrev S75 (N : Nat) (p : List Nat) := seqK cfg (know (know75 N)) (drawOk cfg (know (know75 N))) Tryz.f75.ntmps lv75 (cd Tryz.f75 p)
theorem vc75 (N : Nat) (t : Tree) (Q : AExit → LSt U → Prop) (h : ((((((Tree.kind t) : Int) == 0) = true → (Q .ret (⟨[(2, .ptr (.loc 2) 0)], [((.loc 2), [.int .i64 0, .nils, .nils])], []⟩ : LSt U))) ∧ ((((Tree.kind t) : Int) == 0) = false → (pre117 ((Tree.words t), ())) ∧ ((LoopWp (A75 N [1, 1, 1, 0, 1, 0, 0]) (head75_0 t 0 ([])) (AExit.inBlock 0 (S75 N [1, 1, 1, 1] Q)))))))) :
    A75 N [] (⟨[(0, .agg [.int .i64 (Tree.kind t), .slice (U := U) .u64 (Tree.words t) .unk, .slice (U := U) .tree (Tree.kids t) .unk])], [], []⟩ : LSt U) Q :=
  Eq.mpr (by kernel_rfl) h
theorem vc75_l0 (N : Nat) (t : Tree) (x19 : Int) (ml3_2 : List Tree) (N0 : LSt U → Prop) (Q : AExit → LSt U → Prop) (h : ∀ y_1, y_1 = (List.getD (Tree.kids t) (Int.toNat x19) Tree.nil) → ∀ y_2, y_2 = (y_1) → ∀ y_3, y_3 = ((normT y_2)) → (((decide ((x19 : Int) < ((Tree.kids t).length : Int))) = true → ((0 : Int) ≤ x19 ∧ x19 < ((Tree.kids t).length : Int)) ∧ ((pre75 (y_2, ())) ∧ (mu75 (y_2, ()) < N) ∧ ((ml3_2.length + ([y_3]).length) * 56 ≤ 140737488355328) ∧ ((InR ((x19 : Int) + 1)) ∧ (N0 (head75_0 t ((x19 : Int) + 1) (ml3_2 ++ ([y_3]))))))) ∧ ((decide ((x19 : Int) < ((Tree.kids t).length : Int))) = false → (((((Tree.kind t) : Int) == 1) = true → LoopWp (A75 N [1, 1, 1, 1, 0, 1, 0, 0, 0, 0]) (head75_1 t ml3_2 (Tree.words t)) (AExit.inBlock 2 (S75 N [1, 1, 1, 1, 0, 1, 0, 1] (S75 N [1, 1, 1, 1, 1] Q)))) ∧ ((((Tree.kind t) : Int) == 1) = false → (Q .ret (⟨[(2, .ptr (.loc 2) 0)], [((.loc 2), [.int .i64 (Tree.kind t), .slice (U := U) .u64 (Tree.words t) .unk, .slice (U := U) .tree ml3_2 .unk])], []⟩ : LSt U))))))) :
    A75 N [1, 1, 1, 0, 1, 0, 0] (head75_0 t x19 ml3_2) (AExit.then N0 (AExit.inBlock 0 (S75 N [1, 1, 1, 1] Q))) :=
  Eq.mpr (by kernel_rfl) (h _ rfl _ (reTree_eq _) _ (reTree_eq _))
theorem vc75_l1 (N : Nat) (t : Tree) (ml3_2 : List Tree) (ml3_1_a : List Int) (N1 : LSt U → Prop) (Q : AExit → LSt U → Prop) (h : (Tr ((decide ((0 : Int) < (ml3_1_a.length : Int))) = true)) ∧ (Tr ((decide ((0 : Int) < (ml3_1_a.length : Int))) = true)) ∧ (Tr ((decide ((0 : Int) < (ml3_1_a.length : Int))) = true)) ∧ (Tr ((decide ((0 : Int) < (ml3_1_a.length : Int))) = true)) ∧ ((decide ((0 : Int) < (ml3_1_a.length : Int))) = true → InR (((ml3_1_a.length : Int) : Int) - 1)) ∧ (Tr ((decide ((0 : Int) < (ml3_1_a.length : Int))) = true)) ∧ (Tr ((decide ((0 : Int) < (ml3_1_a.length : Int))) = true)) ∧ ((decide ((0 : Int) < (ml3_1_a.length : Int))) = true → (0 : Int) ≤ (((ml3_1_a.length : Int) : Int) - 1) ∧ (((ml3_1_a.length : Int) : Int) - 1) < (ml3_1_a.length : Int)) ∧ (Tr ((decide ((0 : Int) < (ml3_1_a.length : Int))) = true)) ∧ (Tr ((decide ((0 : Int) < (ml3_1_a.length : Int))) = true)) ∧ ((Tr ((decide ((0 : Int) < (ml3_1_a.length : Int))) = true))) ∧ (((bif (decide ((0 : Int) < (ml3_1_a.length : Int))) then (((List.getD ml3_1_a (Int.toNat (((ml3_1_a.length : Int) : Int) - 1)) (0 : Int)) : Int) == 0) else false) = true → (InR (((ml3_1_a.length : Int) : Int) - 1)) ∧ ((0 : Int) ≤ (((ml3_1_a.length : Int) : Int) - 1) ∧ (((ml3_1_a.length : Int) : Int) - 1) ≤ (ml3_1_a.length : Int)) ∧ (N1 (head75_1 t ml3_2 (List.take (Int.toNat (((ml3_1_a.length : Int) : Int) - 1)) ml3_1_a)))) ∧ ((bif (decide ((0 : Int) < (ml3_1_a.length : Int))) then (((List.getD ml3_1_a (Int.toNat (((ml3_1_a.length : Int) : Int) - 1)) (0 : Int)) : Int) == 0) else false) = false → LoopWp (A75 N [1, 1, 1, 1, 0, 1, 0, 1, 0, 0]) (head75_2 t ml3_1_a ml3_2) (AExit.inBlock 4 (S75 N [1, 1, 1, 1, 1] Q))))) :
    A75 N [1, 1, 1, 1, 0, 1, 0, 0, 0, 0] (head75_1 t ml3_2 ml3_1_a) (AExit.then N1 (AExit.inBlock 2 (S75 N [1, 1, 1, 1, 0, 1, 0, 1] (S75 N [1, 1, 1, 1, 1] Q)))) :=
  Eq.mpr (by kernel_rfl) h
theorem vc75_l2 (N : Nat) (t : Tree) (ml3_1_a : List Int) (ml3_2_b : List Tree) (N2 : LSt U → Prop) (Q : AExit → LSt U → Prop) (h : (Tr ((decide ((0 : Int) < (ml3_2_b.length : Int))) = true)) ∧ (Tr ((decide ((0 : Int) < (ml3_2_b.length : Int))) = true)) ∧ (Tr ((decide ((0 : Int) < (ml3_2_b.length : Int))) = true)) ∧ (Tr ((decide ((0 : Int) < (ml3_2_b.length : Int))) = true)) ∧ ((decide ((0 : Int) < (ml3_2_b.length : Int))) = true → InR (((ml3_2_b.length : Int) : Int) - 1)) ∧ (Tr ((decide ((0 : Int) < (ml3_2_b.length : Int))) = true)) ∧ (Tr ((decide ((0 : Int) < (ml3_2_b.length : Int))) = true)) ∧ ((decide ((0 : Int) < (ml3_2_b.length : Int))) = true → (0 : Int) ≤ (((ml3_2_b.length : Int) : Int) - 1) ∧ (((ml3_2_b.length : Int) : Int) - 1) < (ml3_2_b.length : Int)) ∧ (Tr ((decide ((0 : Int) < (ml3_2_b.length : Int))) = true)) ∧ (Tr ((decide ((0 : Int) < (ml3_2_b.length : Int))) = true)) ∧ (Tr ((decide ((0 : Int) < (ml3_2_b.length : Int))) = true)) ∧ ((Tr ((decide ((0 : Int) < (ml3_2_b.length : Int))) = true))) ∧ (((bif (decide ((0 : Int) < (ml3_2_b.length : Int))) then (((Tree.kind (List.getD ml3_2_b (Int.toNat (((ml3_2_b.length : Int) : Int) - 1)) Tree.nil)) : Int) == 0) else false) = true → (InR (((ml3_2_b.length : Int) : Int) - 1)) ∧ ((0 : Int) ≤ (((ml3_2_b.length : Int) : Int) - 1) ∧ (((ml3_2_b.length : Int) : Int) - 1) ≤ (ml3_2_b.length : Int)) ∧ (N2 (head75_2 t ml3_1_a (List.take (Int.toNat (((ml3_2_b.length : Int) : Int) - 1)) ml3_2_b)))) ∧ ((bif (decide ((0 : Int) < (ml3_2_b.length : Int))) then (((Tree.kind (List.getD ml3_2_b (Int.toNat (((ml3_2_b.length : Int) : Int) - 1)) Tree.nil)) : Int) == 0) else false) = false → (Q .ret (⟨[(2, .ptr (.loc 2) 0)], [((.loc 2), [.int .i64 (Tree.kind t), .slice (U := U) .u64 ml3_1_a .unk, .slice (U := U) .tree ml3_2_b .unk])], []⟩ : LSt U))))) :
    A75 N [1, 1, 1, 1, 0, 1, 0, 1, 0, 0] (head75_2 t ml3_1_a ml3_2_b) (AExit.then N2 (AExit.inBlock 4 (S75 N [1, 1, 1, 1, 1] Q))) :=
  Eq.mpr (by kernel_rfl) h
def Body75 (N : Nat) (t : Tree)  : Prop := awp cfg (know (know75 N)) (drawOk cfg (know (know75 N))) Tryz.f75.ntmps lv75 (cd Tryz.f75 []) (entry (args75.can (t, ())) []) (EndsQ cfg Tryz.f75.ntmps Tryz.f75.results.toList (res75 (t, ())) [])
theorem make75 (c117 : Contract Tryz.prog cfg 117 spec117) (hb : ∀ (N : Nat) (t : Tree) (_ : Unit), pre75 (t, ()) → mu75 (t, ()) < N + 1 → Body75 N t) : Contract Tryz.prog cfg 75 spec75 :=
  contract_rec (μ := mu75) (l := [(117, spec117)]) cfgOk rfl (⟨c117, trivial⟩) lv75 Tryz.func75 rfl rfl 1 (fun _ => rfl) (by decide) (fun N ⟨t, _⟩ => hb N t ())
noncomputable def know114 (N : Nat) : List (FuncId × Fs U) := (114, fs args114 (fun a => [pre114 a, mu114 a < N]) res114) :: [(172, spec172), (173, spec173), (174, spec174)]
def lv114 : Lives U := fun i => match i with
  | 0 => ([(2, []), (3, [])], [((.loc 2), []), ((.loc 3), [])])
  | 1 => ([(2, []), (3, []), (16, [])], [((.loc 2), []), ((.loc 3), [])])
  | 2 => ([(4, [])], [])
  | 3 => ([(2, []), (3, []), (41, [])], [((.loc 2), []), ((.loc 3), [])])
  | 4 => ([(4, [])], [])
  | 5 => ([(2, []), (3, []), (48, []), (49, [])], [((.loc 2), []), ((.loc 3), [])])
  | 6 => ([(2, []), (3, []), (48, []), (49, []), (50, [])], [((.loc 2), []), ((.loc 3), [])])
  | 7 => ([(2, []), (3, []), (5, []), (48, []), (49, [])], [((.loc 2), []), ((.loc 3), [])])
  | 8 => ([(2, []), (3, []), (48, []), (49, []), (58, [])], [((.loc 2), []), ((.loc 3), [])])
  | 9 => ([(4, [])], [])
  | 10 => ([(2, []), (3, []), (48, []), (49, [])], [((.loc 2), []), ((.loc 3), [])])
  | 11 => ([(2, []), (3, []), (66, []), (67, [])], [((.loc 2), []), ((.loc 3), [])])
  | 12 => ([(2, []), (3, []), (66, []), (67, []), (68, [])], [((.loc 2), []), ((.loc 3), [])])
  | 13 => ([(2, []), (3, []), (6, []), (66, []), (67, [])], [((.loc 2), []), ((.loc 3), [])])
  | 14 => ([(2, []), (3, []), (66, []), (67, []), (77, [])], [((.loc 2), []), ((.loc 3), [])])
  | 15 => ([(4, [])], [])
  | 16 => ([(2, []), (3, []), (66, []), (67, [])], [((.loc 2), []), ((.loc 3), [])])
  | 17 => ([(4, [])], [])
  | _ => ([], [])
noncomputable def head114_0 (a : Tree) (b : Tree) (x49 : Int) : LSt U := (⟨[(2, .ptr (.loc 2) 0), (3, .ptr (.loc 3) 0), (48, .c (.int .i64 (if (((Tree.words a).length : Int) : Int) < ((Tree.words b).length : Int) then ((Tree.words b).length : Int) else ((Tree.words a).length : Int)))), (49, .c (.int .i64 x49))], [((.loc 2), [.int .i64 (Tree.kind a), .slice (U := U) .u64 (Tree.words a) .unk, .slice (U := U) .tree (Tree.kids a) .unk]), ((.loc 3), [.int .i64 (Tree.kind b), .slice (U := U) .u64 (Tree.words b) .unk, .slice (U := U) .tree (Tree.kids b) .unk])], []⟩ : LSt U)
noncomputable def head114_1 (a : Tree) (b : Tree) (x67_a : Int) : LSt U := (⟨[(2, .ptr (.loc 2) 0), (3, .ptr (.loc 3) 0), (66, .c (.int .i64 (if (((Tree.kids a).length : Int) : Int) < ((Tree.kids b).length : Int) then ((Tree.kids b).length : Int) else ((Tree.kids a).length : Int)))), (67, .c (.int .i64 x67_a))], [((.loc 2), [.int .i64 (Tree.kind a), .slice (U := U) .u64 (Tree.words a) .unk, .slice (U := U) .tree (Tree.kids a) .unk]), ((.loc 3), [.int .i64 (Tree.kind b), .slice (U := U) .u64 (Tree.words b) .unk, .slice (U := U) .tree (Tree.kids b) .unk])], []⟩ : LSt U)
noncomputable abbrev A114 (N : Nat) (p : List Nat) := awp cfg (know (know114 N)) (drawOk cfg (know (know114 N))) Tryz.f114.ntmps lv114 (cd Tryz.f114 p)
noncomputable abbrev S114 (N : Nat) (p : List Nat) := seqK cfg (know (know114 N)) (drawOk cfg (know (know114 N))) Tryz.f114.ntmps lv114 (cd Tryz.f114 p)
theorem vc114 (N : Nat) (a : Tree) (b : Tree) (Q : AExit → LSt U → Prop) (h : ((Tr ((!(((Tree.kind a) : Int) != (Tree.kind b))) = true)) ∧ (Tr ((!(((Tree.kind a) : Int) != (Tree.kind b))) = true)) ∧ (((((Tree.kind a) : Int) != (Tree.kind b)) = false → (!(((Tree.kind a) : Int) != (Tree.kind b))) = true)) ∧ (((bif (((Tree.kind a) : Int) != (Tree.kind b)) then true else (((Tree.kind a) : Int) == 0)) = true → (Q .ret (⟨[(4, .c (.bool (((Tree.kind a) : Int) == (Tree.kind b))))], [], []⟩ : LSt U))) ∧ ((bif (((Tree.kind a) : Int) != (Tree.kind b)) then true else (((Tree.kind a) : Int) == 0)) = false → (Tr ((((Tree.kind a) : Int) != 1) = true)) ∧ (Tr ((((Tree.kind a) : Int) != 1) = true)) ∧ (Tr ((((Tree.kind a) : Int) != 1) = true)) ∧ (Tr ((((Tree.kind a) : Int) != 1) = true)) ∧ (Tr ((((Tree.kind a) : Int) != 1) = true)) ∧ (Tr ((((Tree.kind a) : Int) != 1) = true)) ∧ (Tr ((((Tree.kind a) : Int) != 1) = true)) ∧ (Tr (((((Tree.kind a) : Int) != 1) && (!((((Tree.kids a).length : Int) : Int) != ((Tree.kids b).length : Int)))) = true)) ∧ (Tr (((((Tree.kind a) : Int) != 1) && (!((((Tree.kids a).length : Int) : Int) != ((Tree.kids b).length : Int)))) = true)) ∧ (Tr (((((Tree.kind a) : Int) != 1) && (!((((Tree.kids a).length : Int) : Int) != ((Tree.kids b).length : Int)))) = true)) ∧ (Tr (((((Tree.kind a) : Int) != 1) && (!((((Tree.kids a).length : Int) : Int) != ((Tree.kids b).length : Int)))) = true)) ∧ (((((Tree.kind a) : Int) != 1) && (!((((Tree.kids a).length : Int) : Int) != ((Tree.kids b).length : Int)))) = true → pre172 ((Tree.words a), (Tree.words b), ())) ∧ (Tr (((((Tree.kind a) : Int) != 1) && (!((((Tree.kids a).length : Int) : Int) != ((Tree.kids b).length : Int)))) = true)) ∧ ((((Tree.kind a) : Int) != 1) = true → (True → (((Tree.kind a) : Int) != 1) = true)) ∧ ((((Tree.kind a) : Int) != 1) = true → (((((Tree.kids a).length : Int) : Int) != ((Tree.kids b).length : Int)) = false → ((((Tree.kind a) : Int) != 1) && (!((((Tree.kids a).length : Int) : Int) != ((Tree.kids b).length : Int)))) = true)) ∧ ((Tr ((((Tree.kind a) : Int) != 1) = true))) ∧ (((bif (((Tree.kind a) : Int) != 1) then (bif ((((Tree.kids a).length : Int) : Int) != ((Tree.kids b).length : Int)) then true else (!(decide ((Tree.words a) = (Tree.words b))))) else false) = true → (Q .ret (⟨[(4, .c (.bool false))], [], []⟩ : LSt U))) ∧ ((bif (((Tree.kind a) : Int) != 1) then (bif ((((Tree.kids a).length : Int) : Int) != ((Tree.kids b).length : Int)) then true else (!(decide ((Tree.words a) = (Tree.words b))))) else false) = false → (LoopWp (A114 N [1, 1, 1, 0, 1, 0, 0]) (head114_0 a b 0) (AExit.inBlock 0 (S114 N [1, 1, 1, 1] Q))))))))) :
    A114 N [] (⟨[(0, .agg [.int .i64 (Tree.kind a), .slice (U := U) .u64 (Tree.words a) .unk, .slice (U := U) .tree (Tree.kids a) .unk]), (1, .agg [.int .i64 (Tree.kind b), .slice (U := U) .u64 (Tree.words b) .unk, .slice (U := U) .tree (Tree.kids b) .unk])], [], []⟩ : LSt U) Q :=
  Eq.mpr (by kernel_rfl) h
theorem vc114_l0 (N : Nat) (a : Tree) (b : Tree) (x49 : Int) (N0 : LSt U → Prop) (Q : AExit → LSt U → Prop) (h : (((decide ((x49 : Int) < (if (((Tree.words a).length : Int) : Int) < ((Tree.words b).length : Int) then ((Tree.words b).length : Int) else ((Tree.words a).length : Int)))) = true → ((pre173 ((Tree.mk (Tree.kind a) (Tree.words a) (Tree.kids a)), x49, ())) ∧ (pre173 ((Tree.mk (Tree.kind b) (Tree.words b) (Tree.kids b)), x49, ())) ∧ (((((wordAt (Tree.mk (Tree.kind a) (Tree.words a) (Tree.kids a)) x49) : Int) != (wordAt (Tree.mk (Tree.kind b) (Tree.words b) (Tree.kids b)) x49)) = true → (Q .ret (⟨[(4, .c (.bool false))], [], []⟩ : LSt U))) ∧ ((((wordAt (Tree.mk (Tree.kind a) (Tree.words a) (Tree.kids a)) x49) : Int) != (wordAt (Tree.mk (Tree.kind b) (Tree.words b) (Tree.kids b)) x49)) = false → (InR ((x49 : Int) + 1)) ∧ (N0 (head114_0 a b ((x49 : Int) + 1))))))) ∧ ((decide ((x49 : Int) < (if (((Tree.words a).length : Int) : Int) < ((Tree.words b).length : Int) then ((Tree.words b).length : Int) else ((Tree.words a).length : Int)))) = false → (LoopWp (A114 N [1, 1, 1, 1, 0, 1, 0, 0]) (head114_1 a b 0) (AExit.inBlock 2 (S114 N [1, 1, 1, 1, 1] Q)))))) :
    A114 N [1, 1, 1, 0, 1, 0, 0] (head114_0 a b x49) (AExit.then N0 (AExit.inBlock 0 (S114 N [1, 1, 1, 1] Q))) :=
  Eq.mpr (by kernel_rfl) h
theorem vc114_l1 (N : Nat) (a : Tree) (b : Tree) (x67_a : Int) (N1 : LSt U → Prop) (Q : AExit → LSt U → Prop) (h : ∀ y_1, y_1 = (a) → ∀ y_2, y_2 = (b) → ∀ y_3, y_3 = ((kidAt y_1 x67_a)) → ∀ y_4, y_4 = ((kidAt y_2 x67_a)) → (((decide ((x67_a : Int) < (if (((Tree.kids a).length : Int) : Int) < ((Tree.kids b).length : Int) then ((Tree.kids b).length : Int) else ((Tree.kids a).length : Int)))) = true → ((pre174 (y_1, x67_a, ())) ∧ (pre174 (y_2, x67_a, ())) ∧ (pre114 (y_3, y_4, ())) ∧ (mu114 (y_3, y_4, ()) < N) ∧ (((!(sameT (normT y_3) (normT y_4))) = true → (Q .ret (⟨[(4, .c (.bool false))], [], []⟩ : LSt U))) ∧ ((!(sameT (normT y_3) (normT y_4))) = false → (InR ((x67_a : Int) + 1)) ∧ (N1 (head114_1 a b ((x67_a : Int) + 1))))))) ∧ ((decide ((x67_a : Int) < (if (((Tree.kids a).length : Int) : Int) < ((Tree.kids b).length : Int) then ((Tree.kids b).length : Int) else ((Tree.kids a).length : Int)))) = false → (Q .ret (⟨[(4, .c (.bool true))], [], []⟩ : LSt U))))) :
    A114 N [1, 1, 1, 1, 0, 1, 0, 0] (head114_1 a b x67_a) (AExit.then N1 (AExit.inBlock 2 (S114 N [1, 1, 1, 1, 1] Q))) :=
  Eq.mpr (by kernel_rfl) (h _ (reTree_eq _) _ (reTree_eq _) _ (reTree_eq _) _ (reTree_eq _))
def Body114 (N : Nat) (a : Tree) (b : Tree)  : Prop := awp cfg (know (know114 N)) (drawOk cfg (know (know114 N))) Tryz.f114.ntmps lv114 (cd Tryz.f114 []) (entry (args114.can (a, b, ())) []) (EndsQ cfg Tryz.f114.ntmps Tryz.f114.results.toList (res114 (a, b, ())) [])
theorem make114 (c172 : Contract Tryz.prog cfg 172 spec172) (c173 : Contract Tryz.prog cfg 173 spec173) (c174 : Contract Tryz.prog cfg 174 spec174) (hb : ∀ (N : Nat) (a : Tree) (b : Tree) (_ : Unit), pre114 (a, b, ()) → mu114 (a, b, ()) < N + 1 → Body114 N a b) : Contract Tryz.prog cfg 114 spec114 :=
  contract_rec (μ := mu114) (l := [(172, spec172), (173, spec173), (174, spec174)]) cfgOk rfl (⟨c172, c173, c174, trivial⟩) lv114 Tryz.func114 rfl rfl 2 (fun _ => rfl) (by decide) (fun N ⟨a, b, _⟩ => hb N a b ())
end Go.AM.YtpjenobkibfpcaaGreat

namespace Go.AM.YtpjenobkibfpcaaGreat
open Go.AM Go.Proofs
theorem smallK_get : ∀ {ks : List Tree} {i : Nat}, smallK ks → i < ks.length → small (ks.getD i Tree.nil)
  | t :: _, 0, h, _ => by simp only [smallK] at h; exact h.1
  | _ :: r, i + 1, h, hi => by simp only [smallK] at h; exact smallK_get (ks := r) (i := i) h.2 (by simpa using hi)
theorem massK_get : ∀ {ks : List Tree} {i : Nat}, i < ks.length → mass (ks.getD i Tree.nil) ≤ massK ks
  | t :: _, 0, _ => by simp only [massK, List.getD_cons_zero]; omega
  | t :: r, i + 1, h => by
    have := massK_get (ks := r) (i := i) (by simpa using h)
    simp only [massK, List.getD_cons_succ]
    omega
mutual
theorem shallow_range : ∀ (t : Tree) (d l : Int), -1 ≤ shallow t d l ∧ shallow t d l ≤ max l (-1)
  | .mk _ w ks, d, l => by
    simp only [shallow]
    split
    · omega
    · have := shallowK_range ks (d - 1) (l - 1 - w.length) (by omega)
      omega
theorem shallowK_range : ∀ (ks : List Tree) (d l : Int), -1 ≤ l → -1 ≤ shallowK ks d l ∧ shallowK ks d l ≤ l
  | [], d, l, h => by simp only [shallowK]; omega
  | t :: r, d, l, h => by
    simp only [shallowK]
    split
    · omega
    · have h1 := shallow_range t d l
      have h2 := shallowK_range r d (shallow t d l) h1.1
      omega
end
theorem shallowK_drop {ks : List Tree} {i : Nat} {d l : Int} (h : i < ks.length) (hl : 0 ≤ l) : shallowK (ks.drop i) d l = shallowK (ks.drop (i + 1)) d (shallow (ks.getD i Tree.nil) d l) := by
  rw [List.drop_eq_getElem_cons h]
  simp only [shallowK]
  rw [if_neg (by omega)]
  simp [List.getD, h]
theorem c80 : Contract Tryz.prog cfg 80 spec80 := by
  refine make80 ?_
  rintro N ⟨k, ws, ks⟩ d l _ ⟨hs, h1, h2, h3, h4⟩ hN
  simp only [small, mu80, mass] at *
  refine vc80 N _ _ _ _ ?_; (try simp only [vcT, forall_eq])
  (simp only [vcS]); (try simp only [vcT])
  try (simp only [Tree.eta, Edit.eta, Tree.kind_mk, Tree.words_mk, Tree.kids_mk])
  refine ⟨by unfold InR; omega, by unfold InR; omega, fun hc => ?_, fun hc => ?_⟩
  · have e : shallow (.mk k ws ks) d l = -1 := by
      simp only [shallow]
      rw [if_pos (by omega)]
    simp only [res80, e]
    exact ⟨⟨rfl, ⟨⟨rfl, rfl⟩, trivial⟩, trivial⟩, trivial⟩
  · have e : shallow (.mk k ws ks) d l = shallowK ks (d - 1) (l - 1 - ws.length) := by
      simp only [shallow]
      rw [if_neg (by omega)]
    simp only [res80, e]
    refine loop_rule (ι := Int × Int) (fun p => head80_0 (.mk k ws ks) d l p.1 p.2) (fun p => 0 ≤ p.2 ∧ p.2 ≤ ks.length ∧ -1 ≤ p.1 ∧ p.1 ≤ l ∧ shallowK (ks.drop p.2.toNat) (d - 1) p.1 = shallowK ks (d - 1) (l - 1 - ws.length)) (fun p => ((ks.length : Int) - p.2).toNat) (l - 1 - ws.length, 0) rfl ⟨by omega, by omega, by omega, by omega, by simp⟩ ?_
    rintro ⟨l', i⟩ ⟨h5, h6, h7, h8, h9⟩
    dsimp only at *
    refine vc80_l0 N _ _ _ _ _ _ _ ?_; (try simp only [vcT, forall_eq])
    (simp only [vcS]); (try simp only [vcT])
    try (simp only [Tree.eta, Edit.eta, Tree.kind_mk, Tree.words_mk, Tree.kids_mk])
    refine ⟨fun hc => ?_, fun hc => ?_⟩
    · have hi : i.toNat < ks.length := by omega
      have hr := shallow_range (ks.getD i.toNat Tree.nil) (d - 1) l'
      have hn := massK_get hi
      have hd := shallowK_drop (d := d - 1) hi hc.2
      refine ⟨by omega, by unfold InR; omega, ⟨smallK_get hs.2.2 hi, by dsimp only; omega, by dsimp only; omega, by dsimp only; omega, by dsimp only; omega⟩, by simp only [mu80]; omega, by unfold InR; omega, ⟨(shallow (ks.getD i.toNat Tree.nil) (d - 1) l', i + 1), rfl, ⟨by dsimp only; omega, by dsimp only; omega, by dsimp only; omega, by dsimp only; omega, ?_⟩, by dsimp only; omega⟩⟩
      dsimp only
      rw [← h9, hd]
      congr 2
      omega
    · have e : shallowK ks (d - 1) (l - 1 - ws.length) = l' := by
        rw [← h9]
        by_cases hi : i < ks.length
        · rw [List.drop_eq_getElem_cons (by omega)]
          simp only [shallowK]
          rw [if_pos (by omega)]
        · rw [List.drop_eq_nil_of_le (by omega)]
          simp only [shallowK]
      rw [e]
      exact ⟨⟨rfl, ⟨⟨rfl, rfl⟩, trivial⟩, trivial⟩, trivial⟩
theorem c117 : Contract Tryz.prog cfg 117 spec117 := by
  refine make117 ?_
  intro l _ hp
  refine vc117 _ _ ?_; (try simp only [vcT, forall_eq])
  simp only [pre117] at hp
  refine ⟨fun h => ?_, ⟨by simp only [List.length_nil]; omega, ?_⟩⟩
  · subst h
    exact ⟨⟨rfl, ⟨rfl, trivial⟩, trivial⟩, trivial⟩
  · exact ⟨⟨rfl, ⟨⟨rfl, trivial⟩, trivial⟩, trivial⟩, trivial⟩
theorem drop_eq {a b : List Int} {i : Int} (hi : 0 ≤ i) (ha : i < a.length) (hb : i < b.length) : (a.drop i.toNat = b.drop i.toNat) ↔ (a.getD i.toNat 0 = b.getD i.toNat 0 ∧ a.drop (i + 1).toNat = b.drop (i + 1).toNat) := by
  have e : (i + 1).toNat = i.toNat + 1 := by omega
  rw [List.drop_eq_getElem_cons (by omega), List.drop_eq_getElem_cons (l := b) (by omega), e]
  simp only [List.cons.injEq, List.getD, List.getElem?_eq_getElem (show i.toNat < a.length by omega), List.getElem?_eq_getElem (show i.toNat < b.length by omega), Option.getD_some]
theorem c173 : Contract Tryz.prog cfg 173 spec173 := by
  refine make173 ?_
  intro t i _ hp
  refine vc173 _ _ _ ?_; (try simp only [vcT, forall_eq])
  (simp only [vcS]); (try simp only [vcT])
  (repeat (refine And.intro (by first | omega | (unfold InR; omega) | (dsimp only; omega)) ?_))
  refine ⟨fun hc => ?_, fun hc => ⟨by omega, ?_⟩⟩
  · have e : wordAt t i = 0 := by
      unfold wordAt
      split
      · rfl
      · rw [List.getD, List.getElem?_eq_none (by omega)]
        rfl
    simp only [res173, e]
    exact ⟨⟨rfl, ⟨⟨rfl, rfl⟩, trivial⟩, trivial⟩, trivial⟩
  · have e : wordAt t i = t.words.getD i.toNat 0 := by
      unfold wordAt
      rw [if_neg (by omega)]
    simp only [res173, e]
    exact ⟨⟨rfl, ⟨⟨rfl, rfl⟩, trivial⟩, trivial⟩, trivial⟩
theorem c174 : Contract Tryz.prog cfg 174 spec174 := by
  refine make174 ?_
  intro t i _ hp
  refine vc174 _ _ _ ?_; (try simp only [vcT, forall_eq])
  (simp only [vcS]); (try simp only [vcT])
  (repeat (refine And.intro (by first | omega | (unfold InR; omega) | (dsimp only; omega)) ?_))
  refine ⟨fun hc => ?_, fun hc => ⟨by omega, ?_⟩⟩
  · have e : kidAt t i = Tree.nil := by
      unfold kidAt
      split
      · rfl
      · rw [List.getD, List.getElem?_eq_none (by omega)]
        rfl
    simp only [res174, e]
    exact ⟨⟨rfl, ⟨⟨rfl, rfl⟩, ⟨rfl, ⟨rfl, trivial⟩⟩⟩, trivial⟩, trivial⟩
  · have e : kidAt t i = t.kids.getD i.toNat Tree.nil := by
      unfold kidAt
      rw [if_neg (by omega)]
    simp only [res174, e]
    exact ⟨⟨rfl, ⟨⟨rfl, rfl⟩, ⟨rfl, trivial⟩, ⟨rfl, trivial⟩, trivial⟩, trivial⟩, trivial⟩
theorem c172 : Contract Tryz.prog cfg 172 spec172 := by
  refine make172 ?_
  intro a b _ hp
  simp only [pre172] at hp
  refine vc172 _ _ _ ?_; (try simp only [vcT, forall_eq])
  (simp only [vcS]); (try simp only [vcT])
  refine ⟨fun hc => ?_, fun hc => ?_⟩
  · have e : decide (a = b) = false := by
      simp only [decide_eq_false_iff_not]
      rintro rfl
      omega
    simp only [res172, e]
    exact ⟨⟨rfl, ⟨rfl, trivial⟩, trivial⟩, trivial⟩
  · have hl : a.length = b.length := by omega
    refine loop_rule (ι := Int) (fun p => head172_0 a b p) (fun p => 0 ≤ p ∧ p ≤ a.length ∧ (a = b ↔ a.drop p.toNat = b.drop p.toNat)) (fun p => ((a.length : Int) - p).toNat) 0 rfl ⟨by omega, by omega, by simp⟩ ?_
    rintro i ⟨h1, h2, h3⟩
    refine vc172_l0 _ _ _ _ _ ?_; (try simp only [vcT, forall_eq])
    (simp only [vcS]); (try simp only [vcT])
    refine ⟨fun hc => ⟨by omega, by omega, fun hn => ?_, fun he => ⟨by unfold InR; omega, i + 1, rfl, ⟨by omega, by omega, ?_⟩, by omega⟩⟩, fun hc => ?_⟩
    · have e : decide (a = b) = false := by
        simp only [decide_eq_false_iff_not, h3]
        rw [drop_eq h1 hc (by omega)]
        exact fun h => hn h.1
      simp only [res172, e]
      exact ⟨⟨rfl, ⟨rfl, trivial⟩, trivial⟩, trivial⟩
    · rw [h3, drop_eq h1 hc (by omega)]
      exact ⟨fun h => h.2, fun h => ⟨by simpa using he, h⟩⟩
    · have e : decide (a = b) = true := by
        simp only [decide_eq_true_eq, h3]
        rw [List.drop_eq_nil_of_le (by omega), List.drop_eq_nil_of_le (by omega)]
      simp only [res172, e]
      exact ⟨⟨rfl, ⟨rfl, trivial⟩, trivial⟩, trivial⟩
theorem sameT_true {a b : Tree} : sameT a b = true ↔ a = b := by simp [sameT]
theorem sameT_false {a b : Tree} : sameT a b = false ↔ ¬ a = b := by simp [sameT]
theorem massK_len : ∀ (ks : List Tree), ks.length ≤ massK ks
  | [] => by simp [massK]
  | t :: r => by
    have := massK_len r
    have : 1 ≤ mass t := by cases t; simp only [mass]; omega
    simp only [massK, List.length_cons]
    omega
theorem trim_zero : ∀ (l : List Int), trim (l ++ [0]) = trim l
  | [] => rfl
  | x :: r => by
    show (match trim (r ++ [0]) with | [] => if x = 0 then [] else [x] | y :: s => x :: y :: s) = _
    rw [trim_zero r]
    rfl
theorem trim_ne {x : Int} (hx : x ≠ 0) : ∀ (l : List Int), trim (l ++ [x]) = l ++ [x]
  | [] => by simp [trim, hx]
  | y :: r => by
    show (match trim (r ++ [x]) with | [] => if y = 0 then [] else [y] | z :: s => y :: z :: s) = _
    rw [trim_ne hx r]
    cases r <;> rfl
theorem take_last {l : List Int} {i : Int} (h0 : 0 < i) (hi : i ≤ l.length) : l.take i.toNat = l.take (i - 1).toNat ++ [l.getD (i - 1).toNat 0] := by
  have e : i.toNat = (i - 1).toNat + 1 := by omega
  rw [e, List.take_add_one]
  simp only [List.getD, List.getElem?_eq_getElem (show (i - 1).toNat < l.length by omega), Option.toList, Option.getD_some]
theorem trim_len : ∀ (l : List Int), (trim l).length ≤ l.length
  | [] => by simp [trim]
  | x :: r => by
    have := trim_len r
    simp only [trim]
    split
    · split <;> simp
    · rename_i h
      rw [h] at this
      simp at *
      omega
theorem trimK_mass : ∀ (l : List Tree), massK (trimK l) ≤ massK l
  | [] => by simp [trimK]
  | x :: r => by
    have := trimK_mass r
    simp only [trimK]
    split
    · split
      · simp [massK]
      · simp [massK]
    · rename_i h
      rw [h] at this
      simp only [massK] at *
      omega
mutual
theorem normT_mass : ∀ (t : Tree), mass (normT t) ≤ mass t
  | .mk k w ks => by
    have h1 := normK_mass ks
    have h2 := trim_len w
    have h3 := trimK_mass (normK ks)
    simp only [normT]
    split
    · simp only [Tree.nil, mass, massK, List.length_nil]; omega
    · split
      · simp only [mass]; omega
      · simp only [mass]; omega
theorem normK_mass : ∀ (ks : List Tree), massK (normK ks) ≤ massK ks
  | [] => by simp [normK]
  | t :: r => by
    have h1 := normT_mass t
    have h2 := normK_mass r
    simp only [normK, massK]
    omega
end
theorem normK_app : ∀ (l : List Tree) (x : Tree), normK (l ++ [x]) = normK l ++ [normT x]
  | [], x => rfl
  | y :: r, x => by simp only [List.cons_append, normK, normK_app r x]
theorem normK_len : ∀ (l : List Tree), (normK l).length = l.length
  | [] => rfl
  | y :: r => by simp only [normK, List.length_cons, normK_len r]
theorem trimK_zero {x : Tree} (hx : x.kind = 0) : ∀ (l : List Tree), trimK (l ++ [x]) = trimK l
  | [] => by simp [trimK, hx]
  | y :: r => by
    show (match trimK (r ++ [x]) with | [] => if y.kind = 0 then [] else [y] | z :: s => y :: z :: s) = _
    rw [trimK_zero hx r]
    rfl
theorem trimK_ne {x : Tree} (hx : x.kind ≠ 0) : ∀ (l : List Tree), trimK (l ++ [x]) = l ++ [x]
  | [] => by simp [trimK, hx]
  | y :: r => by
    show (match trimK (r ++ [x]) with | [] => if y.kind = 0 then [] else [y] | z :: s => y :: z :: s) = _
    rw [trimK_ne hx r]
    cases r <;> rfl
theorem takeT_next {l : List Tree} {i : Int} (h0 : 0 ≤ i) (hi : i < l.length) : l.take (i + 1).toNat = l.take i.toNat ++ [l.getD i.toNat Tree.nil] := by
  have e : (i + 1).toNat = i.toNat + 1 := by omega
  rw [e, List.take_add_one]
  simp only [List.getD, List.getElem?_eq_getElem (show i.toNat < l.length by omega), Option.toList, Option.getD_some]
theorem last_eq {l : List Int} (h0 : 0 < (l.length : Int)) : l = l.take ((l.length : Int) - 1).toNat ++ [l.getD ((l.length : Int) - 1).toNat 0] := by
  have := take_last h0 (Int.le_refl _)
  rw [List.take_of_length_le (by omega)] at this
  exact this
theorem lastT_eq {l : List Tree} (h0 : 0 < (l.length : Int)) : l = l.take ((l.length : Int) - 1).toNat ++ [l.getD ((l.length : Int) - 1).toNat Tree.nil] := by
  have := takeT_next (l := l) (i := (l.length : Int) - 1) (by omega) (by omega)
  rw [List.take_of_length_le (by omega)] at this
  exact this
theorem trim_step {l : List Int} (h0 : 0 < (l.length : Int)) (hz : l.getD ((l.length : Int) - 1).toNat 0 = 0) : trim (l.take ((l.length : Int) - 1).toNat) = trim l := by
  have e := trim_zero (l.take ((l.length : Int) - 1).toNat)
  have h := last_eq h0
  rw [hz] at h
  rw [← h] at e
  exact e.symm
theorem trim_done {l : List Int} (h : ¬ 0 < (l.length : Int) ∨ ¬ l.getD ((l.length : Int) - 1).toNat 0 = 0) : trim l = l := by
  by_cases h0 : 0 < (l.length : Int)
  · have e := trim_ne (x := l.getD ((l.length : Int) - 1).toNat 0) (by rcases h with h | h; exact absurd h0 h; exact h) (l.take ((l.length : Int) - 1).toNat)
    rw [← last_eq h0] at e
    exact e
  · have : l = [] := List.eq_nil_of_length_eq_zero (by omega)
    subst this
    rfl
theorem trimK_step {l : List Tree} (h0 : 0 < (l.length : Int)) (hz : (l.getD ((l.length : Int) - 1).toNat Tree.nil).kind = 0) : trimK (l.take ((l.length : Int) - 1).toNat) = trimK l := by
  have e := trimK_zero hz (l.take ((l.length : Int) - 1).toNat)
  rw [← lastT_eq h0] at e
  exact e.symm
theorem trimK_done {l : List Tree} (h : ¬ 0 < (l.length : Int) ∨ ¬ (l.getD ((l.length : Int) - 1).toNat Tree.nil).kind = 0) : trimK l = l := by
  by_cases h0 : 0 < (l.length : Int)
  · have e := trimK_ne (x := l.getD ((l.length : Int) - 1).toNat Tree.nil) (by rcases h with h | h; exact absurd h0 h; exact h) (l.take ((l.length : Int) - 1).toNat)
    rw [← lastT_eq h0] at e
    exact e
  · have : l = [] := List.eq_nil_of_length_eq_zero (by omega)
    subst this
    rfl
theorem c75 : Contract Tryz.prog cfg 75 spec75 := by
  refine make75 c117 ?_
  rintro N ⟨k, ws, ks⟩ _ hp hN
  have hlen := massK_len ks
  simp only [pre75, mu75, mass] at hp hN
  refine vc75 N _ _ ?_; (try simp only [vcT, forall_eq])
  (simp only [vcS]); (try simp only [vcT])
  try (simp only [Tree.eta, Edit.eta, Tree.kind_mk, Tree.words_mk, Tree.kids_mk])
  refine ⟨fun hc => ?_, fun hc0 => ⟨by simp only [pre117]; omega, ?_⟩⟩
  · have e : normT (.mk k ws ks) = Tree.nil := by simp [normT, hc]
    simp only [res75, e]
    exact ⟨⟨rfl, ⟨⟨rfl, rfl⟩, ⟨rfl, ⟨rfl, trivial⟩⟩⟩, trivial⟩, trivial⟩
  · refine loop_rule (ι := Int × List Tree) (fun p => head75_0 (.mk k ws ks) p.1 p.2) (fun p => 0 ≤ p.1 ∧ p.1 ≤ ks.length ∧ p.2 = normK (ks.take p.1.toNat)) (fun p => ((ks.length : Int) - p.1).toNat) (0, []) rfl ⟨by dsimp only; omega, by dsimp only; omega, rfl⟩ ?_
    rintro ⟨i, l⟩ ⟨h1, h2, h5⟩
    dsimp only at *
    have hl : l.length = i.toNat := by rw [h5, normK_len, List.length_take]; omega
    refine vc75_l0 N _ _ _ _ _ ?_; (try simp only [vcT, forall_eq])
    (simp only [vcS]); (try simp only [vcT])
    try (simp only [Tree.eta, Edit.eta, Tree.kind_mk, Tree.words_mk, Tree.kids_mk])
    refine ⟨fun hc => ?_, fun hc => ⟨fun hk => ?_, fun hk => ?_⟩⟩
    · have hm := massK_get (ks := ks) (i := i.toNat) (by omega)
      have hnx : normK (ks.take (i + 1).toNat) = l ++ [normT (ks.getD i.toNat Tree.nil)] := by rw [takeT_next h1 hc, normK_app, h5]
      exact ⟨by omega, by simp only [pre75]; omega, by simp only [mu75]; omega, by simp only [List.length_cons, List.length_nil]; omega, by unfold InR; omega, (i + 1, _), rfl, ⟨by dsimp only; omega, by dsimp only; omega, hnx.symm⟩, by dsimp only; omega⟩
    · have hi : ks.take i.toNat = ks := List.take_of_length_le (by omega)
      rw [hi] at h5
      refine loop_rule (ι := List Int) (fun p => head75_1 (.mk k ws ks) l p) (fun p => p.length ≤ ws.length ∧ trim p = trim ws) (fun p => p.length) ws rfl ⟨by omega, rfl⟩ ?_
      rintro w ⟨h6, h7⟩
      refine vc75_l1 N _ _ _ _ _ ?_; (try simp only [vcT, forall_eq])
      (simp only [vcS]); (try simp only [vcT])
      refine ⟨fun h => by unfold InR; omega, fun h => by omega, fun hc => ⟨by unfold InR; omega, by omega, _, rfl, ⟨by rw [List.length_take]; omega, ?_⟩, by rw [List.length_take]; omega⟩, fun hc => ?_⟩
      · rw [trim_step hc.1 hc.2, h7]
      · have hw : w = trim ws := by rw [← h7, trim_done hc]
        refine loop_rule (ι := List Tree) (fun p => head75_2 (.mk k ws ks) w p) (fun p => p.length ≤ l.length ∧ trimK p = trimK l) (fun p => p.length) l rfl ⟨by omega, rfl⟩ ?_
        rintro q ⟨h8, h9⟩
        refine vc75_l2 N _ _ _ _ _ ?_; (try simp only [vcT, forall_eq])
        (simp only [vcS]); (try simp only [vcT])
        refine ⟨fun h => by unfold InR; omega, fun h => by omega, fun hc => ⟨by unfold InR; omega, by omega, _, rfl, ⟨by rw [List.length_take]; omega, ?_⟩, by rw [List.length_take]; omega⟩, fun hc => ?_⟩
        · rw [trimK_step hc.1 hc.2, h9]
        · have hq : q = trimK (normK ks) := by rw [← h5, ← h9, trimK_done hc]
          have e : normT (.mk k ws ks) = .mk k w q := by
            subst hk
            simp only [normT, hw, hq]
            rfl
          simp only [res75, e]
          exact ⟨⟨rfl, ⟨⟨rfl, rfl⟩, ⟨rfl, trivial⟩, ⟨rfl, trivial⟩, trivial⟩, trivial⟩, trivial⟩
    · have hi : ks.take i.toNat = ks := List.take_of_length_le (by omega)
      rw [hi] at h5
      have e : normT (.mk k ws ks) = .mk k ws l := by simp only [normT, if_neg hc0, if_neg hk, h5]
      simp only [res75, e]
      exact ⟨⟨rfl, ⟨⟨rfl, rfl⟩, ⟨rfl, trivial⟩, ⟨rfl, trivial⟩, trivial⟩, trivial⟩, trivial⟩
end Go.AM.YtpjenobkibfpcaaGreat

namespace Go.AM.YtpjenobkibfpcaaGreat
open Go.AM Go.Proofs
def args232 : ArgL (Int × Unit) := (.cons (aInt .i64) .nil)
def pre232 (a : Int × Unit) : Prop := True
noncomputable def res232 (a : Int × Unit) : V U := .tup [(false, [.int .i64 (if wd a.1 < 0 then 0 else wd a.1)]), (false, [.bool (decide (0 ≤ wd a.1))])]
noncomputable def spec232 : Fs U := fs args232 (fun a => [pre232 a]) res232
def args221 : ArgL (Int × Int × Unit) := (.cons (aInt .i64) (.cons (aInt .u64) .nil))
def pre221 (a : Int × Int × Unit) : Prop := 0 ≤ a.2.1 ∧ a.2.1 < 18446744073709551616
noncomputable def res221 (a : Int × Int × Unit) : V U := .c (.bool (fits a.1 a.2.1))
noncomputable def spec221 : Fs U := fs args221 (fun a => [pre221 a]) res221
def args125 : ArgL (Int × Unit) := (.cons (aInt .i64) .nil)
def pre125 (a : Int × Unit) : Prop := True
noncomputable def res125 (a : Int × Unit) : V U := .c (.bool (decide (2 ≤ a.1 ∧ a.1 ≤ 9)))
noncomputable def spec125 : Fs U := fs args125 (fun a => [pre125 a]) res125
def args220 : ArgL (Int × Unit) := (.cons (aInt .i64) .nil)
def pre220 (a : Int × Unit) : Prop := True
noncomputable def res220 (a : Int × Unit) : V U := .c (.bool (decide (2 ≤ a.1 ∧ a.1 ≤ 7)))
noncomputable def spec220 : Fs U := fs args220 (fun a => [pre220 a]) res220
def args181 : ArgL (Int × Tree × Unit) := (.cons (aInt .i64) (.cons (aEl .tree) .nil))
def pre181 (a : Int × Tree × Unit) : Prop := rng a.2.1
noncomputable def res181 (a : Int × Tree × Unit) : V U := .c (.bool (kidB a.1 a.2.1))
noncomputable def spec181 : Fs U := fs args181 (fun a => [pre181 a]) res181
def args130 : ArgL (Tree × Int × Unit) := (.cons (aEl .tree) (.cons (aInt .i64) .nil))
def pre130 (a : Tree × Int × Unit) : Prop := mass a.1 ≤ 20000000000 ∧ rng a.1 ∧ 0 ≤ a.2.1 ∧ a.2.1 ≤ 1000
def mu130 (a : Tree × Int × Unit) : Nat := mass a.1
noncomputable def res130 (a : Tree × Int × Unit) : V U := .c (.bool (rightT a.1 a.2.1))
noncomputable def spec130 : Fs U := fs args130 (fun a => [pre130 a]) res130
def args82 : ArgL (Tree × Unit) := (.cons (aEl .tree) .nil)
def pre82 (a : Tree × Unit) : Prop := mass a.1 ≤ 20000000000 ∧ rng a.1
noncomputable def res82 (a : Tree × Unit) : V U := .c (.bool (rightT a.1 64))
noncomputable def spec82 : Fs U := fs args82 (fun a => [pre82 a]) res82
noncomputable def know232 : List (FuncId × Fs U) := []
def lv232 : Lives U := fun i => match i with
  | 0 => ([(0, [])], [])
  | 1 => ([(0, []), (4, [])], [((.loc 4), [])])
  | 2 => ([(0, []), (4, []), (11, [])], [((.loc 4), [])])
  | 3 => ([(2, []), (3, [])], [])
  | 4 => ([(2, []), (3, [])], [])
  | _ => ([], [])
noncomputable abbrev A232 (p : List Nat) := awp cfg (know know232) (drawOk cfg (know know232)) Tryz.f232.ntmps lv232 (cd Tryz.f232 p)
theorem vc232 (c : Int) (Q : AExit → LSt U → Prop) (h : (((Tr ((!(decide ((c : Int) < 0))) = true)) ∧ (((decide ((c : Int) < 0)) = false → (!(decide ((c : Int) < 0))) = true)) ∧ (((bif (decide ((c : Int) < 0)) then true else (decide ((6 : Int) ≤ c))) = true → (Q .ret (⟨[(2, .c (.int .i64 0)), (3, .c (.bool false))], [], []⟩ : LSt U))) ∧ ((bif (decide ((c : Int) < 0)) then true else (decide ((6 : Int) ≤ c))) = false → ((0 : Int) ≤ c ∧ c < ((6 : Nat) : Int)) ∧ (Q .ret (⟨[(2, .c (.int .i64 (List.getD [0, 1, 8, 16, 32, 64] (Int.toNat c) 0))), (3, .c (.bool true))], [], []⟩ : LSt U))))))) :
    A232 [] (⟨[(0, .c (.int .i64 c))], [], []⟩ : LSt U) Q :=
  Eq.mpr (by kernel_rfl) h
def Body232 (c : Int)  : Prop := awp cfg (know (know232)) (drawOk cfg (know (know232))) Tryz.f232.ntmps lv232 (cd Tryz.f232 []) (entry (args232.can (c, ())) []) (EndsQ cfg Tryz.f232.ntmps Tryz.f232.results.toList (res232 (c, ())) [])
theorem make232 (hb : ∀ (c : Int) (_ : Unit), pre232 (c, ()) → Body232 c) : Contract Tryz.prog cfg 232 spec232 :=
  contract_flat (l := []) cfgOk rfl (trivial) lv232 Tryz.func232 rfl rfl 1 (fun _ => rfl) (by decide) (fun ⟨c, _⟩ => hb c ())
noncomputable def know221 : List (FuncId × Fs U) := [(232, spec232)]
def lv221 : Lives U := fun i => match i with
  | 0 => ([(0, []), (1, [])], [])
  | 1 => ([(1, []), (5, []), (6, [])], [])
  | 2 => ([(4, [])], [])
  | _ => ([], [])
noncomputable abbrev A221 (p : List Nat) := awp cfg (know know221) (drawOk cfg (know know221)) Tryz.f221.ntmps lv221 (cd Tryz.f221 p)
theorem vc221 (c : Int) (n : Int) (Q : AExit → LSt U → Prop) (h : ((pre232 (c, ())) ∧ ((Tr ((decide (0 ≤ wd c)) = true)) ∧ (Tr ((decide (0 ≤ wd c)) = true)) ∧ (Tr (((decide (0 ≤ wd c)) && (!(((if wd c < 0 then 0 else wd c) : Int) == 64))) = true)) ∧ (Tr (((decide (0 ≤ wd c)) && (!(((if wd c < 0 then 0 else wd c) : Int) == 64))) = true)) ∧ (((decide (0 ≤ wd c)) && (!(((if wd c < 0 then 0 else wd c) : Int) == 64))) = true → (0 : Int) ≤ (if wd c < 0 then 0 else wd c)) ∧ (Tr (((decide (0 ≤ wd c)) && (!(((if wd c < 0 then 0 else wd c) : Int) == 64))) = true)) ∧ ((decide (0 ≤ wd c)) = true → (True → (decide (0 ≤ wd c)) = true)) ∧ ((decide (0 ≤ wd c)) = true → ((((if wd c < 0 then 0 else wd c) : Int) == 64) = false → ((decide (0 ≤ wd c)) && (!(((if wd c < 0 then 0 else wd c) : Int) == 64))) = true)) ∧ ((Tr ((decide (0 ≤ wd c)) = true))) ∧ (Q .ret (⟨[(4, .c (.bool (bif (decide (0 ≤ wd c)) then (bif (((if wd c < 0 then 0 else wd c) : Int) == 64) then true else (((Int.fdiv n (2 ^ (min (Int.toNat (if wd c < 0 then 0 else wd c)) (IntKind.bits .u64)))) : Int) == 0)) else false)))], [], []⟩ : LSt U))))) :
    A221 [] (⟨[(0, .c (.int .i64 c)), (1, .c (.int .u64 n))], [], []⟩ : LSt U) Q :=
  Eq.mpr (by kernel_rfl) h
def Body221 (c : Int) (n : Int)  : Prop := awp cfg (know (know221)) (drawOk cfg (know (know221))) Tryz.f221.ntmps lv221 (cd Tryz.f221 []) (entry (args221.can (c, n, ())) []) (EndsQ cfg Tryz.f221.ntmps Tryz.f221.results.toList (res221 (c, n, ())) [])
theorem make221 (c232 : Contract Tryz.prog cfg 232 spec232) (hb : ∀ (c : Int) (n : Int) (_ : Unit), pre221 (c, n, ()) → Body221 c n) : Contract Tryz.prog cfg 221 spec221 :=
  contract_flat (l := [(232, spec232)]) cfgOk rfl (⟨c232, trivial⟩) lv221 Tryz.func221 rfl rfl 2 (fun _ => rfl) (by decide) (fun ⟨c, n, _⟩ => hb c n ())
noncomputable def know125 : List (FuncId × Fs U) := []
def lv125 : Lives U := fun i => match i with
  | 0 => ([(0, [])], [])
  | 1 => ([(2, [])], [])
  | _ => ([], [])
noncomputable abbrev A125 (p : List Nat) := awp cfg (know know125) (drawOk cfg (know know125)) Tryz.f125.ntmps lv125 (cd Tryz.f125 p)
theorem vc125 (k : Int) (Q : AExit → LSt U → Prop) (h : ((Tr ((decide ((2 : Int) ≤ k)) = true)) ∧ ((Tr ((decide ((2 : Int) ≤ k)) = true))) ∧ (Q .ret (⟨[(2, .c (.bool (bif (decide ((2 : Int) ≤ k)) then (decide ((k : Int) ≤ 9)) else false)))], [], []⟩ : LSt U)))) :
    A125 [] (⟨[(0, .c (.int .i64 k))], [], []⟩ : LSt U) Q :=
  Eq.mpr (by kernel_rfl) h
def Body125 (k : Int)  : Prop := awp cfg (know (know125)) (drawOk cfg (know (know125))) Tryz.f125.ntmps lv125 (cd Tryz.f125 []) (entry (args125.can (k, ())) []) (EndsQ cfg Tryz.f125.ntmps Tryz.f125.results.toList (res125 (k, ())) [])
theorem make125 (hb : ∀ (k : Int) (_ : Unit), pre125 (k, ()) → Body125 k) : Contract Tryz.prog cfg 125 spec125 :=
  contract_flat (l := []) cfgOk rfl (trivial) lv125 Tryz.func125 rfl rfl 1 (fun _ => rfl) (by decide) (fun ⟨k, _⟩ => hb k ())
noncomputable def know220 : List (FuncId × Fs U) := []
def lv220 : Lives U := fun i => match i with
  | 0 => ([(0, [])], [])
  | 1 => ([(2, [])], [])
  | _ => ([], [])
noncomputable abbrev A220 (p : List Nat) := awp cfg (know know220) (drawOk cfg (know know220)) Tryz.f220.ntmps lv220 (cd Tryz.f220 p)
theorem vc220 (k : Int) (Q : AExit → LSt U → Prop) (h : ((Tr ((decide ((2 : Int) ≤ k)) = true)) ∧ ((Tr ((decide ((2 : Int) ≤ k)) = true))) ∧ (Q .ret (⟨[(2, .c (.bool (bif (decide ((2 : Int) ≤ k)) then (decide ((k : Int) ≤ 7)) else false)))], [], []⟩ : LSt U)))) :
    A220 [] (⟨[(0, .c (.int .i64 k))], [], []⟩ : LSt U) Q :=
  Eq.mpr (by kernel_rfl) h
def Body220 (k : Int)  : Prop := awp cfg (know (know220)) (drawOk cfg (know (know220))) Tryz.f220.ntmps lv220 (cd Tryz.f220 []) (entry (args220.can (k, ())) []) (EndsQ cfg Tryz.f220.ntmps Tryz.f220.results.toList (res220 (k, ())) [])
theorem make220 (hb : ∀ (k : Int) (_ : Unit), pre220 (k, ()) → Body220 k) : Contract Tryz.prog cfg 220 spec220 :=
  contract_flat (l := []) cfgOk rfl (trivial) lv220 Tryz.func220 rfl rfl 1 (fun _ => rfl) (by decide) (fun ⟨k, _⟩ => hb k ())
noncomputable def know181 : List (FuncId × Fs U) := [(220, spec220), (221, spec221)]
def lv181 : Lives U := fun i => match i with
  | 0 => ([(0, []), (3, [])], [((.loc 3), [])])
  | 1 => ([(0, []), (3, []), (5, [])], [((.loc 3), [])])
  | 2 => ([(4, [])], [])
  | 3 => ([(3, []), (32, [])], [((.loc 3), [])])
  | 4 => ([(4, [])], [])
  | 5 => ([(4, [])], [])
  | _ => ([], [])
noncomputable abbrev A181 (p : List Nat) := awp cfg (know know181) (drawOk cfg (know know181)) Tryz.f181.ntmps lv181 (cd Tryz.f181 p)
theorem vc181 (l : Int) (t : Tree) (Q : AExit → LSt U → Prop) (h : ((pre220 (l, ())) ∧ (((decide (2 ≤ l ∧ l ≤ 7)) = true → (Tr ((((Tree.kind t) : Int) == 10) = true)) ∧ (Tr ((((Tree.kind t) : Int) == 10) = true)) ∧ (Tr ((((Tree.kind t) : Int) == 10) = true)) ∧ ((Tr ((((Tree.kind t) : Int) == 10) = true))) ∧ (Tr ((bif (((Tree.kind t) : Int) == 10) then ((((Tree.kids t).length : Int) : Int) == 0) else false) = true)) ∧ (Tr ((bif (((Tree.kind t) : Int) == 10) then ((((Tree.kids t).length : Int) : Int) == 0) else false) = true)) ∧ (Tr ((bif (((Tree.kind t) : Int) == 10) then ((((Tree.kids t).length : Int) : Int) == 0) else false) = true)) ∧ ((Tr ((bif (((Tree.kind t) : Int) == 10) then ((((Tree.kids t).length : Int) : Int) == 0) else false) = true))) ∧ (Tr ((bif (bif (((Tree.kind t) : Int) == 10) then ((((Tree.kids t).length : Int) : Int) == 0) else false) then ((((Tree.words t).length : Int) : Int) == 1) else false) = true)) ∧ ((bif (bif (((Tree.kind t) : Int) == 10) then ((((Tree.kids t).length : Int) : Int) == 0) else false) then ((((Tree.words t).length : Int) : Int) == 1) else false) = true → InR ((l : Int) - 2)) ∧ (Tr ((bif (bif (((Tree.kind t) : Int) == 10) then ((((Tree.kids t).length : Int) : Int) == 0) else false) then ((((Tree.words t).length : Int) : Int) == 1) else false) = true)) ∧ (Tr ((bif (bif (((Tree.kind t) : Int) == 10) then ((((Tree.kids t).length : Int) : Int) == 0) else false) then ((((Tree.words t).length : Int) : Int) == 1) else false) = true)) ∧ ((bif (bif (((Tree.kind t) : Int) == 10) then ((((Tree.kids t).length : Int) : Int) == 0) else false) then ((((Tree.words t).length : Int) : Int) == 1) else false) = true → (0 : Int) ≤ 0 ∧ 0 < ((Tree.words t).length : Int)) ∧ (Tr ((bif (bif (((Tree.kind t) : Int) == 10) then ((((Tree.kids t).length : Int) : Int) == 0) else false) then ((((Tree.words t).length : Int) : Int) == 1) else false) = true)) ∧ (Tr ((bif (bif (((Tree.kind t) : Int) == 10) then ((((Tree.kids t).length : Int) : Int) == 0) else false) then ((((Tree.words t).length : Int) : Int) == 1) else false) = true)) ∧ (Tr ((bif (bif (((Tree.kind t) : Int) == 10) then ((((Tree.kids t).length : Int) : Int) == 0) else false) then ((((Tree.words t).length : Int) : Int) == 1) else false) = true)) ∧ ((bif (bif (((Tree.kind t) : Int) == 10) then ((((Tree.kids t).length : Int) : Int) == 0) else false) then ((((Tree.words t).length : Int) : Int) == 1) else false) = true → pre221 (((l : Int) - 2), (List.getD (Tree.words t) (Int.toNat 0) (0 : Int)), ())) ∧ ((Tr ((bif (bif (((Tree.kind t) : Int) == 10) then ((((Tree.kids t).length : Int) : Int) == 0) else false) then ((((Tree.words t).length : Int) : Int) == 1) else false) = true))) ∧ (Q .ret (⟨[(4, .c (.bool (bif (bif (bif (((Tree.kind t) : Int) == 10) then ((((Tree.kids t).length : Int) : Int) == 0) else false) then ((((Tree.words t).length : Int) : Int) == 1) else false) then (fits ((l : Int) - 2) (List.getD (Tree.words t) (Int.toNat 0) (0 : Int))) else false)))], [], []⟩ : LSt U))) ∧ ((decide (2 ≤ l ∧ l ≤ 7)) = false → ((((l : Int) == 9) = true → (Q .ret (⟨[(4, .c (.bool (((Tree.kind t) : Int) == 1)))], [], []⟩ : LSt U))) ∧ (((l : Int) == 9) = false → (Q .ret (⟨[(4, .c (.bool (((Tree.kind t) : Int) != 10)))], [], []⟩ : LSt U)))))))) :
    A181 [] (⟨[(0, .c (.int .i64 l)), (1, .agg [.int .i64 (Tree.kind t), .slice (U := U) .u64 (Tree.words t) .unk, .slice (U := U) .tree (Tree.kids t) .unk])], [], []⟩ : LSt U) Q :=
  Eq.mpr (by kernel_rfl) h
def Body181 (l : Int) (t : Tree)  : Prop := awp cfg (know (know181)) (drawOk cfg (know (know181))) Tryz.f181.ntmps lv181 (cd Tryz.f181 []) (entry (args181.can (l, t, ())) []) (EndsQ cfg Tryz.f181.ntmps Tryz.f181.results.toList (res181 (l, t, ())) [])
theorem make181 (c220 : Contract Tryz.prog cfg 220 spec220) (c221 : Contract Tryz.prog cfg 221 spec221) (hb : ∀ (l : Int) (t : Tree) (_ : Unit), pre181 (l, t, ()) → Body181 l t) : Contract Tryz.prog cfg 181 spec181 :=
  contract_flat (l := [(220, spec220), (221, spec221)]) cfgOk rfl (⟨c220, c221, trivial⟩) lv181 Tryz.func181 rfl rfl 2 (fun _ => rfl) (by decide) (fun ⟨l, t, _⟩ => hb l t ())
noncomputable def know130 (N : Nat) : List (FuncId × Fs U) := (130, fs args130 (fun a => [pre130 a, mu130 a < N]) res130) :: [(125, spec125), (181, spec181)]
def lv130 : Lives U := fun i => match i with
  | 0 => ([(1, []), (2, [])], [((.loc 2), [])])
  | 1 => ([(1, []), (2, []), (8, [])], [((.loc 2), [])])
  | 2 => ([(4, [])], [])
  | 3 => ([(1, []), (2, []), (22, [])], [((.loc 2), [])])
  | 4 => ([(4, [])], [])
  | 5 => ([(1, []), (2, []), (36, [])], [((.loc 2), [])])
  | 6 => ([(4, [])], [])
  | 7 => ([(1, []), (2, []), (39, [])], [((.loc 2), [])])
  | 8 => ([(1, []), (2, []), (52, [])], [((.loc 2), [])])
  | 9 => ([(4, [])], [])
  | 10 => ([(1, []), (2, []), (53, [])], [((.loc 2), [])])
  | 11 => ([(4, [])], [])
  | 12 => ([(1, []), (2, []), (71, []), (72, []), (73, [])], [((.loc 2), [])])
  | 13 => ([(1, []), (2, []), (71, []), (72, []), (73, []), (74, [])], [((.loc 2), [])])
  | 14 => ([(1, []), (2, []), (6, []), (71, []), (72, []), (73, [])], [((.loc 2), []), ((.loc 6), [])])
  | 15 => ([(1, []), (2, []), (6, []), (7, []), (71, []), (72, []), (73, [])], [((.loc 2), []), ((.loc 6), [])])
  | 16 => ([(1, []), (2, []), (6, []), (7, []), (71, []), (72, []), (73, []), (82, [])], [((.loc 2), []), ((.loc 6), [])])
  | 17 => ([(1, []), (2, []), (6, []), (7, []), (71, []), (72, []), (73, [])], [((.loc 2), []), ((.loc 6), [])])
  | 18 => ([(1, []), (2, []), (71, []), (72, []), (73, []), (95, [])], [((.loc 2), [])])
  | 19 => ([(4, [])], [])
  | 20 => ([(1, []), (2, []), (71, []), (72, []), (73, [])], [((.loc 2), [])])
  | 21 => ([(4, [])], [])
  | _ => ([], [])
noncomputable def head130_0 (t : Tree) (d : Int) (x73 : Int) : LSt U := (⟨[(1, .c (.int .i64 d)), (2, .ptr (.loc 2) 0), (71, .c (.slice (U := U) .tree (Tree.kids t) .unk)), (72, .c (.int .i64 ((Tree.kids t).length : Int))), (73, .c (.int .i64 x73))], [((.loc 2), [.int .i64 (Tree.kind t), .slice (U := U) .u64 (Tree.words t) .unk, .slice (U := U) .tree (Tree.kids t) .unk])], []⟩ : LSt U)
noncomputable abbrev A130 (N : Nat) (p : List Nat) := awp cfg (know (know130 N)) (drawOk cfg (know (know130 N))) Tryz.f130.ntmps lv130 (cd Tryz.f130 p)
noncomputable abbrev S130 (N : Nat) (p : List Nat) := seqK cfg (know (know130 N)) (drawOk cfg (know (know130 N))) Tryz.f130.ntmps lv130 (cd Tryz.f130 p)
theorem vc130 (N : Nat) (t : Tree) (d : Int) (Q : AExit → LSt U → Prop) (h : ((((((Tree.kind t) : Int) == 0) = true → (Tr (((((Tree.words t).length : Int) : Int) == 0) = true)) ∧ (Tr (((((Tree.words t).length : Int) : Int) == 0) = true)) ∧ (Tr (((((Tree.words t).length : Int) : Int) == 0) = true)) ∧ ((Tr (((((Tree.words t).length : Int) : Int) == 0) = true))) ∧ (Q .ret (⟨[(4, .c (.bool (bif ((((Tree.words t).length : Int) : Int) == 0) then ((((Tree.kids t).length : Int) : Int) == 0) else false)))], [], []⟩ : LSt U))) ∧ ((((Tree.kind t) : Int) == 0) = false → (((((Tree.kind t) : Int) == 10) = true → (Tr (((((Tree.words t).length : Int) : Int) == 1) = true)) ∧ (Tr (((((Tree.words t).length : Int) : Int) == 1) = true)) ∧ (Tr (((((Tree.words t).length : Int) : Int) == 1) = true)) ∧ ((Tr (((((Tree.words t).length : Int) : Int) == 1) = true))) ∧ (Q .ret (⟨[(4, .c (.bool (bif ((((Tree.words t).length : Int) : Int) == 1) then ((((Tree.kids t).length : Int) : Int) == 0) else false)))], [], []⟩ : LSt U))) ∧ ((((Tree.kind t) : Int) == 10) = false → ((((d : Int) == 0) = true → (Q .ret (⟨[(4, .c (.bool false))], [], []⟩ : LSt U))) ∧ (((d : Int) == 0) = false → (((((Tree.kind t) : Int) == 1) = true → (Tr ((!(decide ((65536 : Int) ≤ ((Tree.words t).length : Int)))) = true)) ∧ (Tr ((!(decide ((65536 : Int) ≤ ((Tree.words t).length : Int)))) = true)) ∧ (Tr ((!(decide ((65536 : Int) ≤ ((Tree.words t).length : Int)))) = true)) ∧ (((decide ((65536 : Int) ≤ ((Tree.words t).length : Int))) = false → (!(decide ((65536 : Int) ≤ ((Tree.words t).length : Int)))) = true)) ∧ (((bif (decide ((65536 : Int) ≤ ((Tree.words t).length : Int))) then true else (decide ((65536 : Int) ≤ ((Tree.kids t).length : Int)))) = true → (Q .ret (⟨[(4, .c (.bool false))], [], []⟩ : LSt U))) ∧ ((bif (decide ((65536 : Int) ≤ ((Tree.words t).length : Int))) then true else (decide ((65536 : Int) ≤ ((Tree.kids t).length : Int)))) = false → (LoopWp (A130 N [1, 1, 0, 1, 0, 0]) (head130_0 t d 0) (AExit.inBlock 1 (S130 N [1, 1, 1] Q)))))) ∧ ((((Tree.kind t) : Int) == 1) = false → (pre125 ((Tree.kind t), ())) ∧ (Tr ((!(!(decide (2 ≤ (Tree.kind t) ∧ (Tree.kind t) ≤ 9)))) = true)) ∧ (Tr ((!(!(decide (2 ≤ (Tree.kind t) ∧ (Tree.kind t) ≤ 9)))) = true)) ∧ (Tr ((!(!(decide (2 ≤ (Tree.kind t) ∧ (Tree.kind t) ≤ 9)))) = true)) ∧ (((!(decide (2 ≤ (Tree.kind t) ∧ (Tree.kind t) ≤ 9))) = false → (!(!(decide (2 ≤ (Tree.kind t) ∧ (Tree.kind t) ≤ 9)))) = true)) ∧ (Tr ((!(bif (!(decide (2 ≤ (Tree.kind t) ∧ (Tree.kind t) ≤ 9))) then true else (decide ((0 : Int) < ((Tree.words t).length : Int))))) = true)) ∧ (Tr ((!(bif (!(decide (2 ≤ (Tree.kind t) ∧ (Tree.kind t) ≤ 9))) then true else (decide ((0 : Int) < ((Tree.words t).length : Int))))) = true)) ∧ (Tr ((!(bif (!(decide (2 ≤ (Tree.kind t) ∧ (Tree.kind t) ≤ 9))) then true else (decide ((0 : Int) < ((Tree.words t).length : Int))))) = true)) ∧ (((bif (!(decide (2 ≤ (Tree.kind t) ∧ (Tree.kind t) ≤ 9))) then true else (decide ((0 : Int) < ((Tree.words t).length : Int)))) = false → (!(bif (!(decide (2 ≤ (Tree.kind t) ∧ (Tree.kind t) ≤ 9))) then true else (decide ((0 : Int) < ((Tree.words t).length : Int))))) = true)) ∧ (((bif (bif (!(decide (2 ≤ (Tree.kind t) ∧ (Tree.kind t) ≤ 9))) then true else (decide ((0 : Int) < ((Tree.words t).length : Int)))) then true else (decide ((1048576 : Int) ≤ ((Tree.kids t).length : Int)))) = true → (Q .ret (⟨[(4, .c (.bool false))], [], []⟩ : LSt U))) ∧ ((bif (bif (!(decide (2 ≤ (Tree.kind t) ∧ (Tree.kind t) ≤ 9))) then true else (decide ((0 : Int) < ((Tree.words t).length : Int)))) then true else (decide ((1048576 : Int) ≤ ((Tree.kids t).length : Int)))) = false → (LoopWp (A130 N [1, 1, 0, 1, 0, 0]) (head130_0 t d 0) (AExit.inBlock 1 (S130 N [1, 1, 1] Q))))))))))))))) :
    A130 N [] (⟨[(0, .agg [.int .i64 (Tree.kind t), .slice (U := U) .u64 (Tree.words t) .unk, .slice (U := U) .tree (Tree.kids t) .unk]), (1, .c (.int .i64 d))], [], []⟩ : LSt U) Q :=
  Eq.mpr (by kernel_rfl) h
theorem vc130_l0 (N : Nat) (t : Tree) (d : Int) (x73 : Int) (N0 : LSt U → Prop) (Q : AExit → LSt U → Prop) (h : ∀ y_1, y_1 = (List.getD (Tree.kids t) (Int.toNat x73) Tree.nil) → ∀ y_2, y_2 = (y_1) → (((decide ((x73 : Int) < ((Tree.kids t).length : Int))) = true → ((0 : Int) ≤ x73 ∧ x73 < ((Tree.kids t).length : Int)) ∧ (((((((Tree.kind t) : Int) != 1) = true → (pre181 ((Tree.kind t), y_2, ())) ∧ ((Tr ((!(!(kidB (Tree.kind t) y_2))) = true)) ∧ ((!(!(kidB (Tree.kind t) y_2))) = true → InR ((d : Int) - 1)) ∧ (Tr ((!(!(kidB (Tree.kind t) y_2))) = true)) ∧ (Tr ((!(!(kidB (Tree.kind t) y_2))) = true)) ∧ ((!(!(kidB (Tree.kind t) y_2))) = true → pre130 (y_2, ((d : Int) - 1), ())) ∧ ((!(!(kidB (Tree.kind t) y_2))) = true → mu130 (y_2, ((d : Int) - 1), ()) < N) ∧ (Tr ((!(!(kidB (Tree.kind t) y_2))) = true)) ∧ (((!(kidB (Tree.kind t) y_2)) = false → (!(!(kidB (Tree.kind t) y_2))) = true)) ∧ (((bif (!(kidB (Tree.kind t) y_2)) then true else (!(rightT y_2 ((d : Int) - 1)))) = true → (Q .ret (⟨[(4, .c (.bool false))], [], []⟩ : LSt U))) ∧ ((bif (!(kidB (Tree.kind t) y_2)) then true else (!(rightT y_2 ((d : Int) - 1)))) = false → (InR ((x73 : Int) + 1)) ∧ (N0 (head130_0 t d ((x73 : Int) + 1))))))) ∧ ((((Tree.kind t) : Int) != 1) = false → (Tr ((!(!(((Tree.kind y_1) : Int) != 10))) = true)) ∧ ((!(!(((Tree.kind y_1) : Int) != 10))) = true → InR ((d : Int) - 1)) ∧ (Tr ((!(!(((Tree.kind y_1) : Int) != 10))) = true)) ∧ (Tr ((!(!(((Tree.kind y_1) : Int) != 10))) = true)) ∧ ((!(!(((Tree.kind y_1) : Int) != 10))) = true → pre130 (y_2, ((d : Int) - 1), ())) ∧ ((!(!(((Tree.kind y_1) : Int) != 10))) = true → mu130 (y_2, ((d : Int) - 1), ()) < N) ∧ (Tr ((!(!(((Tree.kind y_1) : Int) != 10))) = true)) ∧ (((!(((Tree.kind y_1) : Int) != 10)) = false → (!(!(((Tree.kind y_1) : Int) != 10))) = true)) ∧ (((bif (!(((Tree.kind y_1) : Int) != 10)) then true else (!(rightT y_2 ((d : Int) - 1)))) = true → (Q .ret (⟨[(4, .c (.bool false))], [], []⟩ : LSt U))) ∧ ((bif (!(((Tree.kind y_1) : Int) != 10)) then true else (!(rightT y_2 ((d : Int) - 1)))) = false → (InR ((x73 : Int) + 1)) ∧ (N0 (head130_0 t d ((x73 : Int) + 1)))))))))) ∧ ((decide ((x73 : Int) < ((Tree.kids t).length : Int))) = false → (Q .ret (⟨[(4, .c (.bool true))], [], []⟩ : LSt U))))) :
    A130 N [1, 1, 0, 1, 0, 0] (head130_0 t d x73) (AExit.then N0 (AExit.inBlock 1 (S130 N [1, 1, 1] Q))) :=
  Eq.mpr (by kernel_rfl) (h _ rfl _ (reTree_eq _))
def Body130 (N : Nat) (t : Tree) (d : Int)  : Prop := awp cfg (know (know130 N)) (drawOk cfg (know (know130 N))) Tryz.f130.ntmps lv130 (cd Tryz.f130 []) (entry (args130.can (t, d, ())) []) (EndsQ cfg Tryz.f130.ntmps Tryz.f130.results.toList (res130 (t, d, ())) [])
theorem make130 (c125 : Contract Tryz.prog cfg 125 spec125) (c181 : Contract Tryz.prog cfg 181 spec181) (hb : ∀ (N : Nat) (t : Tree) (d : Int) (_ : Unit), pre130 (t, d, ()) → mu130 (t, d, ()) < N + 1 → Body130 N t d) : Contract Tryz.prog cfg 130 spec130 :=
  contract_rec (μ := mu130) (l := [(125, spec125), (181, spec181)]) cfgOk rfl (⟨c125, c181, trivial⟩) lv130 Tryz.func130 rfl rfl 2 (fun _ => rfl) (by decide) (fun N ⟨t, d, _⟩ => hb N t d ())
noncomputable def know82 : List (FuncId × Fs U) := [(130, spec130)]
def lv82 : Lives U := fun i => match i with
  | 0 => ([(1, [])], [((.loc 1), [])])
  | 1 => ([(2, [])], [])
  | _ => ([], [])
noncomputable abbrev A82 (p : List Nat) := awp cfg (know know82) (drawOk cfg (know know82)) Tryz.f82.ntmps lv82 (cd Tryz.f82 p)
theorem vc82 (t : Tree) (Q : AExit → LSt U → Prop) (h : ((pre130 ((Tree.mk (Tree.kind t) (Tree.words t) (Tree.kids t)), 64, ())) ∧ (Q .ret (⟨[(2, .c (.bool (rightT (Tree.mk (Tree.kind t) (Tree.words t) (Tree.kids t)) 64)))], [], []⟩ : LSt U)))) :
    A82 [] (⟨[(0, .agg [.int .i64 (Tree.kind t), .slice (U := U) .u64 (Tree.words t) .unk, .slice (U := U) .tree (Tree.kids t) .unk])], [], []⟩ : LSt U) Q :=
  Eq.mpr (by kernel_rfl) h
def Body82 (t : Tree)  : Prop := awp cfg (know (know82)) (drawOk cfg (know (know82))) Tryz.f82.ntmps lv82 (cd Tryz.f82 []) (entry (args82.can (t, ())) []) (EndsQ cfg Tryz.f82.ntmps Tryz.f82.results.toList (res82 (t, ())) [])
theorem make82 (c130 : Contract Tryz.prog cfg 130 spec130) (hb : ∀ (t : Tree) (_ : Unit), pre82 (t, ()) → Body82 t) : Contract Tryz.prog cfg 82 spec82 :=
  contract_flat (l := [(130, spec130)]) cfgOk rfl (⟨c130, trivial⟩) lv82 Tryz.func82 rfl rfl 1 (fun _ => rfl) (by decide) (fun ⟨t, _⟩ => hb t ())
end Go.AM.YtpjenobkibfpcaaGreat

namespace Go.AM.YtpjenobkibfpcaaGreat
open Go.AM Go.Proofs
theorem trim_nil_iff : ∀ (l : List Int), trim l = [] ↔ ∀ i : Nat, l.getD i 0 = 0
  | [] => by simp [trim]
  | x :: r => by
    have ih := trim_nil_iff r
    constructor
    · intro h i
      simp only [trim] at h
      split at h
      · rename_i hr
        split at h
        · cases i with
          | zero => simpa
          | succ i => simpa using (ih.1 hr) i
        · cases h
      · cases h
    · intro h
      have h0 := h 0
      have hr : trim r = [] := ih.2 fun i => by simpa using h (i + 1)
      simp only [trim, hr]
      simp at h0
      simp [h0]
theorem trim_cons (x : Int) (r : List Int) : trim (x :: r) = if trim r = [] ∧ x = 0 then [] else x :: trim r := by
  simp only [trim]
  split
  · rename_i h
    simp only [h]
    split <;> simp_all
  · rename_i h
    simp [h]
theorem trim_eq_iff : ∀ (a b : List Int), trim a = trim b ↔ ∀ i : Nat, a.getD i 0 = b.getD i 0
  | [], b => by
    rw [show trim [] = [] from rfl, eq_comm, trim_nil_iff]
    simp [eq_comm]
  | x :: r, [] => by
    rw [show trim [] = [] from rfl, trim_nil_iff]
    simp
  | x :: r, y :: s => by
    have ih := trim_eq_iff r s
    constructor
    · intro h i
      have key : x = y ∧ trim r = trim s := by
        rw [trim_cons, trim_cons] at h
        split at h <;> split at h <;> simp_all
      cases i with
      | zero => simpa using key.1
      | succ i => simpa using ih.1 key.2 i
    · intro h
      have h0 : x = y := by simpa using h 0
      have hr : trim r = trim s := ih.2 fun i => by simpa using h (i + 1)
      rw [trim_cons, trim_cons, h0, hr]
def Nils (l : List Tree) : Prop := ∀ x ∈ l, x.kind = 0 → x = Tree.nil
theorem trimK_cons (x : Tree) (r : List Tree) : trimK (x :: r) = if trimK r = [] ∧ x.kind = 0 then [] else x :: trimK r := by
  simp only [trimK]
  split
  · rename_i h
    simp only [h]
    split <;> simp_all
  · rename_i h
    simp [h]
theorem trimK_nil_iff : ∀ (l : List Tree), Nils l → (trimK l = [] ↔ ∀ i : Nat, l.getD i Tree.nil = Tree.nil)
  | [], _ => by simp [trimK]
  | x :: r, hn => by
    have ih := trimK_nil_iff r (fun y hy => hn y (List.mem_cons_of_mem _ hy))
    have hx := hn x (List.mem_cons_self ..)
    rw [trimK_cons]
    constructor
    · intro h i
      split at h
      · rename_i hc
        cases i with
        | zero => simpa using hx hc.2
        | succ i => simpa using (ih.1 hc.1) i
      · cases h
    · intro h
      have h0 : x = Tree.nil := by simpa using h 0
      have hr : trimK r = [] := ih.2 fun i => by simpa using h (i + 1)
      rw [if_pos ⟨hr, by rw [h0]; rfl⟩]
theorem trimK_eq_iff : ∀ (a b : List Tree), Nils a → Nils b → (trimK a = trimK b ↔ ∀ i : Nat, a.getD i Tree.nil = b.getD i Tree.nil)
  | [], b, _, hb => by
    rw [show trimK [] = [] from rfl, eq_comm, trimK_nil_iff b hb]
    simp [eq_comm]
  | x :: r, [], ha, _ => by
    rw [show trimK [] = [] from rfl, trimK_nil_iff _ ha]
    simp
  | x :: r, y :: s, ha, hb => by
    have ih := trimK_eq_iff r s (fun y hy => ha y (List.mem_cons_of_mem _ hy)) (fun y hy => hb y (List.mem_cons_of_mem _ hy))
    have hx := ha x (List.mem_cons_self ..)
    have hy := hb y (List.mem_cons_self ..)
    constructor
    · intro h i
      have key : x = y ∧ trimK r = trimK s := by
        rw [trimK_cons, trimK_cons] at h
        split at h <;> split at h
        · rename_i h1 h2
          exact ⟨(hx h1.2).trans (hy h2.2).symm, h1.1.trans h2.1.symm⟩
        · cases h
        · cases h
        · simpa using h
      cases i with
      | zero => simpa using key.1
      | succ i => simpa using ih.1 key.2 i
    · intro h
      have h0 : x = y := by simpa using h 0
      have hr : trimK r = trimK s := ih.2 fun i => by simpa using h (i + 1)
      rw [trimK_cons, trimK_cons, h0, hr]
theorem normT_nil : normT Tree.nil = Tree.nil := by simp [Tree.nil, normT]
theorem normT_kind (t : Tree) : (normT t).kind = t.kind := by
  obtain ⟨k, w, ks⟩ := t
  simp only [normT]
  split
  · rename_i h; simp [h, Tree.nil]
  · split
    · rename_i h; simp [h]
    · rfl
theorem normK_nils : ∀ (l : List Tree), Nils (normK l)
  | [] => by intro x hx; simp [normK] at hx
  | t :: r => by
    intro x hx hk
    simp only [normK, List.mem_cons] at hx
    rcases hx with rfl | hx
    · rw [normT_kind] at hk
      obtain ⟨k, w, ks⟩ := t
      simp only [Tree.kind_mk] at hk
      simp [normT, hk]
    · exact normK_nils r x hx hk
theorem normK_getD : ∀ (l : List Tree) (i : Nat), (normK l).getD i Tree.nil = normT (l.getD i Tree.nil)
  | [], i => by simp [normK, normT_nil]
  | t :: r, 0 => by simp [normK]
  | t :: r, i + 1 => by simpa [normK] using normK_getD r i
theorem normK_eq_iff (a b : List Tree) : normK a = normK b ↔ a.length = b.length ∧ ∀ i : Nat, normT (a.getD i Tree.nil) = normT (b.getD i Tree.nil) := by
  constructor
  · intro h
    refine ⟨by rw [← normK_len a, h, normK_len], fun i => ?_⟩
    rw [← normK_getD, h, normK_getD]
  · rintro ⟨hl, h⟩
    apply List.ext_getElem (by rw [normK_len, normK_len, hl])
    intro i h1 h2
    have := h i
    rw [← normK_getD, ← normK_getD] at this
    simpa [List.getD, h1, h2] using this
theorem normT_eq_iff (a b : Tree) : normT a = normT b ↔ a.kind = b.kind ∧ (a.kind = 0 ∨ (if a.kind = 1 then (∀ i : Nat, a.words.getD i 0 = b.words.getD i 0) else a.words = b.words ∧ a.kids.length = b.kids.length) ∧ ∀ i : Nat, normT (a.kids.getD i Tree.nil) = normT (b.kids.getD i Tree.nil)) := by
  obtain ⟨k, w, ks⟩ := a
  obtain ⟨k', w', ks'⟩ := b
  show _ ↔ k = k' ∧ (k = 0 ∨ (if k = 1 then (∀ i : Nat, w.getD i 0 = w'.getD i 0) else w = w' ∧ ks.length = ks'.length) ∧ ∀ i : Nat, normT (ks.getD i Tree.nil) = normT (ks'.getD i Tree.nil))
  by_cases hk : k = k'
  · subst hk
    simp only [true_and]
    by_cases h0 : k = 0
    · simp [normT, h0]
    · by_cases h1 : k = 1
      · subst h1
        simp only [normT, if_neg h0, if_true, Tree.mk.injEq, true_and, trim_eq_iff, trimK_eq_iff _ _ (normK_nils _) (normK_nils _), normK_getD]
        simp
      · simp only [normT, if_neg h0, if_neg h1, Tree.mk.injEq, true_and, normK_eq_iff]
        constructor
        · rintro ⟨h2, h3, h4⟩; exact .inr ⟨⟨h2, h3⟩, h4⟩
        · rintro (h | ⟨⟨h2, h3⟩, h4⟩)
          · exact absurd h h0
          · exact ⟨h2, h3, h4⟩
  · simp only [hk, false_and, iff_false]
    intro h
    have := congrArg Tree.kind h
    rw [normT_kind, normT_kind] at this
    exact hk this
end Go.AM.YtpjenobkibfpcaaGreat

namespace Go.AM.YtpjenobkibfpcaaGreat
open Go.AM Go.Proofs
theorem words_of_eq {a b : Tree} (h : normT a = normT b) (h0 : a.kind ≠ 0) (i : Nat) : a.words.getD i 0 = b.words.getD i 0 := by
  obtain ⟨_, h2⟩ := (normT_eq_iff a b).1 h
  rcases h2 with h2 | ⟨h2, _⟩
  · exact absurd h2 h0
  · split at h2
    · exact h2 i
    · rw [h2.1]
theorem kids_of_eq {a b : Tree} (h : normT a = normT b) (h0 : a.kind ≠ 0) (i : Nat) : normT (a.kids.getD i Tree.nil) = normT (b.kids.getD i Tree.nil) := by
  obtain ⟨_, h2⟩ := (normT_eq_iff a b).1 h
  rcases h2 with h2 | ⟨_, h2⟩
  · exact absurd h2 h0
  · exact h2 i
theorem kidAt_mass (t : Tree) (i : Int) : mass (kidAt t i) ≤ mass t ∧ (i < t.kids.length → 0 ≤ i → mass (kidAt t i) < mass t) := by
  obtain ⟨k, w, ks⟩ := t
  unfold kidAt
  have h1 : mass Tree.nil = 1 := by simp [Tree.nil, mass, massK]
  split
  · simp only [h1, mass]; omega
  · simp only [Tree.kids_mk]
    by_cases hi : i.toNat < ks.length
    · have := massK_get hi
      simp only [mass]; omega
    · rw [List.getD, List.getElem?_eq_none (by omega)]
      simp only [Option.getD_none, h1, mass]; omega
theorem c114 : Contract Tryz.prog cfg 114 spec114 := by
  refine make114 c172 c173 c174 ?_
  rintro N a b _ hp hN
  have la : a.words.length + a.kids.length < mass a := by obtain ⟨k, w, ks⟩ := a; have := massK_len ks; simp only [mass, Tree.words_mk, Tree.kids_mk]; omega
  have lb : b.words.length + b.kids.length < mass b := by obtain ⟨k, w, ks⟩ := b; have := massK_len ks; simp only [mass, Tree.words_mk, Tree.kids_mk]; omega
  simp only [pre114, mu114] at hp hN
  have no : ¬ normT a = normT b → EndsQ cfg Tryz.f114.ntmps Tryz.f114.results.toList (res114 (a, b, ())) [] .ret (⟨[(4, .c (.bool false))], [], []⟩ : LSt U) := by
    intro h
    have e : sameT (normT a) (normT b) = false := sameT_false.2 h
    simp only [res114, e]
    exact ⟨⟨rfl, ⟨rfl, trivial⟩, trivial⟩, trivial⟩
  refine vc114 N _ _ _ ?_; (try simp only [vcT, forall_eq])
  (simp only [vcS]); (try simp only [vcT])
  refine ⟨fun hc => ?_, fun hc => ?_⟩
  · have e : sameT (normT a) (normT b) = (a.kind == b.kind) := by
      by_cases hk : a.kind = b.kind
      · have h0 : a.kind = 0 := by rcases hc with h | h; exact absurd hk h; exact h
        rw [sameT_true.2 ((normT_eq_iff a b).2 ⟨hk, .inl h0⟩)]
        simp [hk]
      · rw [sameT_false.2 (fun h => hk ((normT_eq_iff a b).1 h).1)]
        simp [hk]
    simp only [res114, e]
    exact ⟨⟨rfl, ⟨rfl, trivial⟩, trivial⟩, trivial⟩
  · refine ⟨fun _ => by simp only [pre172]; omega, fun h h' => ⟨h, h'⟩, fun hd => no ?_, fun hd => ?_⟩
    · intro h
      obtain ⟨_, h2⟩ := (normT_eq_iff a b).1 h
      rcases h2 with h2 | ⟨h2, _⟩
      · exact hc.2 h2
      · rw [if_neg hd.1] at h2
        rcases hd.2 with h3 | h3
        · exact h3 (by omega)
        · exact h3 h2.1
    · refine loop_rule (ι := Int) (fun p => head114_0 a b p) (fun p => 0 ≤ p ∧ p ≤ 2000000000000 ∧ ∀ j : Nat, j < p.toNat → a.words.getD j 0 = b.words.getD j 0) (fun p => (2000000000000 - p).toNat) 0 rfl ⟨by omega, by omega, fun j hj => by simp at hj⟩ ?_
      rintro i ⟨h1, h2, h3⟩
      refine vc114_l0 N _ _ _ _ _ ?_; (try simp only [vcT, forall_eq])
      (simp only [vcS]); (try simp only [vcT])
      have wa : ∀ t : Tree, wordAt t i = t.words.getD i.toNat 0 := fun t => by unfold wordAt; rw [if_neg (by omega)]
      refine ⟨fun hi => ⟨trivial, trivial, fun hn => no fun h => hn ?_, fun he => ⟨?_, ?_⟩⟩, fun hi => ?_⟩
      · rw [wa, wa]
        exact words_of_eq h hc.2 _
      · unfold InR; split at hi <;> omega
      · refine ⟨i + 1, rfl, ⟨by omega, by split at hi <;> omega, fun j hj => ?_⟩, by split at hi <;> omega⟩
        by_cases hj' : j < i.toNat
        · exact h3 j hj'
        · have : j = i.toNat := by omega
          rw [this, ← wa, ← wa]
          exact he
      · have hw : ∀ j : Nat, a.words.getD j 0 = b.words.getD j 0 := fun j => by
          by_cases hj : j < i.toNat
          · exact h3 j hj
          · split at hi <;> rw [List.getD, List.getD, List.getElem?_eq_none (by omega), List.getElem?_eq_none (by omega)]
        refine loop_rule (ι := Int) (fun p => head114_1 a b p) (fun p => 0 ≤ p ∧ p ≤ 2000000000000 ∧ ∀ j : Nat, j < p.toNat → normT (a.kids.getD j Tree.nil) = normT (b.kids.getD j Tree.nil)) (fun p => (2000000000000 - p).toNat) 0 rfl ⟨by omega, by omega, fun j hj => by simp at hj⟩ ?_
        rintro q ⟨h5, h6, h7⟩
        refine vc114_l1 N _ _ _ _ _ ?_; (try simp only [vcT, forall_eq])
        (simp only [vcS]); (try simp only [vcT])
        have ka : ∀ t : Tree, kidAt t q = t.kids.getD q.toNat Tree.nil := fun t => by unfold kidAt; rw [if_neg (by omega)]
        have ma := kidAt_mass a q
        have mb := kidAt_mass b q
        try (simp only [Tree.eta, Edit.eta, Tree.kind_mk, Tree.words_mk, Tree.kids_mk])
        refine ⟨fun hq => ⟨trivial, trivial, ?_, ?_, fun hn => no fun h => ?_, fun he => ⟨?_, ?_⟩⟩, fun hq => ?_⟩
        · simp only [pre114]; omega
        · simp only [mu114]; split at hq <;> omega
        · rw [sameT_false] at hn
          apply hn
          rw [ka, ka]
          exact kids_of_eq h hc.2 _
        · unfold InR; split at hq <;> omega
        · refine ⟨q + 1, rfl, ⟨by omega, by split at hq <;> omega, fun j hj => ?_⟩, by split at hq <;> omega⟩
          by_cases hj' : j < q.toNat
          · exact h7 j hj'
          · have : j = q.toNat := by omega
            rw [this, ← ka, ← ka]
            exact sameT_true.1 he
        · have hk : ∀ j : Nat, normT (a.kids.getD j Tree.nil) = normT (b.kids.getD j Tree.nil) := fun j => by
            by_cases hj : j < q.toNat
            · exact h7 j hj
            · split at hq <;> rw [List.getD, List.getD, List.getElem?_eq_none (by omega), List.getElem?_eq_none (by omega)]
          have e : sameT (normT a) (normT b) = true := by
            rw [sameT_true, normT_eq_iff]
            refine ⟨hc.1, .inr ⟨?_, hk⟩⟩
            split
            · exact hw
            · rename_i h1
              rcases hd with hd | hd
              · exact absurd hd h1
              · exact ⟨hd.2, by have := hd.1; omega⟩
          simp only [res114, e]
          exact ⟨⟨rfl, ⟨rfl, trivial⟩, trivial⟩, trivial⟩
end Go.AM.YtpjenobkibfpcaaGreat
