/- The tables of this seat: the numbers of its types. Written by program. -/
import Derived.Test.YtlahjnelghpmeaaAmU
import Derived.Test.YtlahjnelghpmeaaChecked
set_option linter.unusedSimpArgs false
set_option linter.unusedVariables false
namespace Go.AM.Ytlahjnelghpmeaa
open Go.AM Go.Proofs
def el : Ty → TypeId
  | .u64 => 66
  | .u8 => 5
  | .int => 3
  | .tree => 38
  | .wedit => 86
  | .kid => 63
  | .op => 65
  | .edit => 46
  | .piece => 68
  | .unit => 74
  | .pair => 76
def tb : Tables U :=
  { el := el
    sl := [(22, .op), (25, .piece), (28, .pair), (31, .unit), (35, .u64), (36, .tree), (43, .wedit), (44, .kid), (121, .u8)]
    var := [(2, false, [.int .i64 0]),
      (3, false, [.int .i64 0]),
      (4, false, [.bool false]),
      (5, false, [.int .u8 0]),
      (6, false, [.int .u8 0]),
      (7, true, [.int .i64 0, .int .i64 0, .bool false, .int .u8 0]),
      (8, true, [.int .i64 0, .int .i64 0, .bool false, .int .u8 0]),
      (12, false, [.int .u64 0]),
      (15, false, [.nilp]),
      (16, false, [.nilp]),
      (17, false, [.nilp]),
      (18, true, [.nilp]),
      (19, true, [.nilp]),
      (21, false, [.int .i32 0]),
      (22, false, [.nils]),
      (25, false, [.nils]),
      (28, false, [.nils]),
      (31, false, [.nils]),
      (35, false, [.nils]),
      (36, false, [.nils]),
      (37, true, [.int .i64 0, .nils, .nils]),
      (38, true, [.int .i64 0, .nils, .nils]),
      (43, false, [.nils]),
      (44, false, [.nils]),
      (45, true, [.int .i64 0, .int .i64 0, .nils, .nils, .int .i64 0, .nils, .nils, .nils, .nils, .int .i64 0, .nils]),
      (46, true, [.int .i64 0, .int .i64 0, .nils, .nils, .int .i64 0, .nils, .nils, .nils, .nils, .int .i64 0, .nils]),
      (62, true, [.int .i64 0, .int .i64 0, .int .i64 0, .nils, .nils, .int .i64 0, .nils, .nils, .nils, .nils, .int .i64 0, .nils]),
      (63, true, [.int .i64 0, .int .i64 0, .int .i64 0, .nils, .nils, .int .i64 0, .nils, .nils, .nils, .nils, .int .i64 0, .nils]),
      (64, true, [.int .i64 0, .int .i64 0, .nils, .int .i64 0, .int .i64 0, .nils, .nils, .int .i64 0, .nils, .nils, .nils, .nils, .int .i64 0, .nils]),
      (65, true, [.int .i64 0, .int .i64 0, .nils, .int .i64 0, .int .i64 0, .nils, .nils, .int .i64 0, .nils, .nils, .nils, .nils, .int .i64 0, .nils]),
      (66, false, [.int .u64 0]),
      (67, true, [.int .i64 0, .int .i64 0, .int .i64 0, .nils, .int .i64 0, .int .i64 0, .nils, .nils, .int .i64 0, .nils, .nils, .nils, .nils, .int .i64 0, .nils, .int .i64 0, .int .i64 0, .nils, .int .i64 0, .int .i64 0, .nils, .nils, .int .i64 0, .nils, .nils, .nils, .nils, .int .i64 0, .nils]),
      (68, true, [.int .i64 0, .int .i64 0, .int .i64 0, .nils, .int .i64 0, .int .i64 0, .nils, .nils, .int .i64 0, .nils, .nils, .nils, .nils, .int .i64 0, .nils, .int .i64 0, .int .i64 0, .nils, .int .i64 0, .int .i64 0, .nils, .nils, .int .i64 0, .nils, .nils, .nils, .nils, .int .i64 0, .nils]),
      (70, false, [.nilp]),
      (71, true, [.nils, .int .i64 0]),
      (72, true, [.nils, .int .i64 0]),
      (73, true, [.int .i64 0, .int .i64 0, .int .i64 0, .nils, .nils, .int .i64 0, .int .i64 0, .nils, .nils, .int .i64 0, .nils, .nils, .nils, .nils, .int .i64 0, .nils, .bool false]),
      (74, true, [.int .i64 0, .int .i64 0, .int .i64 0, .nils, .nils, .int .i64 0, .int .i64 0, .nils, .nils, .int .i64 0, .nils, .nils, .nils, .nils, .int .i64 0, .nils, .bool false]),
      (75, true, [.int .i64 0, .int .i64 0, .int .i64 0, .int .i64 0, .nils, .nils, .int .i64 0, .int .i64 0, .nils, .nils, .int .i64 0, .nils, .nils, .nils, .nils, .int .i64 0, .nils, .bool false, .int .i64 0, .int .i64 0, .int .i64 0, .nils, .nils, .int .i64 0, .int .i64 0, .nils, .nils, .int .i64 0, .nils, .nils, .nils, .nils, .int .i64 0, .nils, .bool false]),
      (76, true, [.int .i64 0, .int .i64 0, .int .i64 0, .int .i64 0, .nils, .nils, .int .i64 0, .int .i64 0, .nils, .nils, .int .i64 0, .nils, .nils, .nils, .nils, .int .i64 0, .nils, .bool false, .int .i64 0, .int .i64 0, .int .i64 0, .nils, .nils, .int .i64 0, .int .i64 0, .nils, .nils, .int .i64 0, .nils, .nils, .nils, .nils, .int .i64 0, .nils, .bool false]),
      (85, true, [.int .i64 0, .int .u8 0, .int .u64 0, .int .u64 0]),
      (86, true, [.int .i64 0, .int .u8 0, .int .u64 0, .int .u64 0]),
      (102, false, [.nilp]),
      (103, true, [.nils, .nils, .nils]),
      (104, true, [.nils, .nils, .nils]),
      (107, false, [.nilp]),
      (117, true, [.int .u8 0, .int .u8 0, .int .u8 0, .int .u8 0, .int .u8 0, .int .u8 0, .int .u8 0, .int .u8 0]),
      (121, false, [.nils]),
      (126, true, [.int .i64 0, .int .i64 0, .int .i64 0, .int .i64 0, .int .i64 0, .int .i64 0]),
      (135, false, [.int .u32 0]),
      (136, false, [.int .u8 0]),
      (137, false, [.int .u8 0]),
      (139, false, [.nilp]),
      (140, false, [.int .i32 0]),
      (141, false, [.int .i32 0])]
    fld := [(7, 0, 0, 2), (7, 1, 1, 3), (7, 2, 2, 4), (7, 3, 3, 6), (8, 0, 0, 2), (8, 1, 1, 3), (8, 2, 2, 4), (8, 3, 3, 6), (18, 0, 0, 17), (19, 0, 0, 17), (37, 0, 0, 3), (37, 1, 1, 35), (37, 2, 2, 36), (38, 0, 0, 3), (38, 1, 1, 35), (38, 2, 2, 36), (45, 0, 0, 3), (45, 1, 1, 38), (45, 2, 4, 38), (45, 3, 7, 43), (45, 4, 8, 44), (45, 5, 9, 3), (45, 6, 10, 22), (46, 0, 0, 3), (46, 1, 1, 38), (46, 2, 4, 38), (46, 3, 7, 43), (46, 4, 8, 44), (46, 5, 9, 3), (46, 6, 10, 22), (62, 0, 0, 3), (62, 1, 1, 46), (63, 0, 0, 3), (63, 1, 1, 46), (64, 0, 0, 3), (64, 1, 1, 3), (64, 2, 2, 36), (64, 3, 3, 46), (65, 0, 0, 3), (65, 1, 1, 3), (65, 2, 2, 36), (65, 3, 3, 46), (67, 0, 0, 3), (67, 1, 1, 65), (67, 2, 15, 65), (68, 0, 0, 3), (68, 1, 1, 65), (68, 2, 15, 65), (71, 0, 0, 22), (71, 1, 1, 3), (72, 0, 0, 22), (72, 1, 1, 3), (73, 0, 0, 3), (73, 1, 1, 3), (73, 2, 2, 38), (73, 3, 5, 46), (73, 4, 16, 4), (74, 0, 0, 3), (74, 1, 1, 3), (74, 2, 2, 38), (74, 3, 5, 46), (74, 4, 16, 4), (75, 0, 0, 3), (75, 1, 1, 74), (75, 2, 18, 74), (76, 0, 0, 3), (76, 1, 1, 74), (76, 2, 18, 74), (85, 0, 0, 3), (85, 1, 1, 5), (85, 2, 2, 66), (85, 3, 3, 66), (86, 0, 0, 3), (86, 1, 1, 5), (86, 2, 2, 66), (86, 3, 3, 66), (103, 0, 0, 22), (103, 1, 1, 36), (103, 2, 2, 36), (104, 0, 0, 22), (104, 1, 1, 36), (104, 2, 2, 36)]
    arr := [(117, 8, 5), (126, 6, 3)]
    eqs := [85, 86] }
def cfg : Cfg U := tb.cfg K
theorem varOk : tb.var.all (varB Try.prog) = true := by kernel_rfl
theorem slOk : tb.sl.all (slB Try.prog tb.el) = true := by kernel_rfl
theorem fldOk : tb.fld.all (fldB Try.prog) = true := by kernel_rfl
theorem arrOk : tb.arr.all (arrB Try.prog) = true := by kernel_rfl
theorem elOk : ∀ t, elB Try.prog K tb t = true := by
  intro t
  cases t
  · kernel_rfl
  · kernel_rfl
  · kernel_rfl
  · kernel_rfl
  · kernel_rfl
  · kernel_rfl
  · kernel_rfl
  · kernel_rfl
  · kernel_rfl
  · kernel_rfl
  · kernel_rfl
theorem cfgOk : CfgOk Try.prog cfg := tables_ok K_ok varOk slOk fldOk arrOk elOk (by kernel_rfl) (by kernel_rfl)
end Go.AM.Ytlahjnelghpmeaa

