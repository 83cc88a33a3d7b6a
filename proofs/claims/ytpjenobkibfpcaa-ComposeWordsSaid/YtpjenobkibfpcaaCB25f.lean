import Derived.Test.YtpjenobkibfpcaaKB20e
import Derived.Test.YtpjenobkibfpcaaCB25b
import Derived.Test.YtpjenobkibfpcaaCL25c
import Derived.Test.YtpjenobkibfpcaaKP20
import Derived.Test.YtpjenobkibfpcaaCG25a
import Derived.Test.YtpjenobkibfpcaaKG22c
set_option linter.unusedSimpArgs false
set_option linter.unusedVariables false
namespace Go.AM.Ytpjenobkibfpcaa
open Go.AM Go.Proofs
def args21 : ArgL (Edit × Edit × Unit) := (.cons (aEl .edit) (.cons (aEl .edit) .nil))
def pre21 (a : Edit × Edit × Unit) : Prop := reOk a.1 ∧ reOk a.2.1
noncomputable def res21 (a : Edit × Edit × Unit) : V U := .tup [(true, [.int .i64 (Edit.kind ((comN a.1 a.2.1).1)), .int .i64 (Tree.kind (Edit.old ((comN a.1 a.2.1).1))), .slice (U := U) .u64 (Tree.words (Edit.old ((comN a.1 a.2.1).1))) .unk, .slice (U := U) .tree (Tree.kids (Edit.old ((comN a.1 a.2.1).1))) .unk, .int .i64 (Tree.kind (Edit.new ((comN a.1 a.2.1).1))), .slice (U := U) .u64 (Tree.words (Edit.new ((comN a.1 a.2.1).1))) .unk, .slice (U := U) .tree (Tree.kids (Edit.new ((comN a.1 a.2.1).1))) .unk, .slice (U := U) .wedit (Edit.words ((comN a.1 a.2.1).1)) .unk, .slice (U := U) .kid (Edit.kids ((comN a.1 a.2.1).1)) .unk, .int .i64 (Edit.list ((comN a.1 a.2.1).1)), .slice (U := U) .op (Edit.ops ((comN a.1 a.2.1).1)) .unk]), (false, [.bool ((comN a.1 a.2.1).2)])]
noncomputable def spec21 : Fs U := fs args21 (fun a => [pre21 a]) res21
def args25 : ArgL (WEdit × WEdit × Unit) := (.cons (aEl .wedit) (.cons (aEl .wedit) .nil))
def pre25 (a : WEdit × WEdit × Unit) : Prop := wOk a.1 ∧ wOk a.2.1
noncomputable def res25 (a : WEdit × WEdit × Unit) : V U := .tup [(true, [.int .i64 (WEdit.at_ ((comW a.1 a.2.1).1)), .int .u8 (WEdit.mask ((comW a.1 a.2.1).1)), .int .u64 (WEdit.old ((comW a.1 a.2.1).1)), .int .u64 (WEdit.new ((comW a.1 a.2.1).1))]), (false, [.bool ((comW a.1 a.2.1).2)])]
noncomputable def spec25 : Fs U := fs args25 (fun a => [pre25 a]) res25
noncomputable def know21 : List (FuncId × Fs U) := [(60, spec60), (57, spec57)]
def lv21 : Lives U := fun i => match i with
  | 0 => ([(2, []), (3, []), (4, [])], [((.loc 2), []), ((.loc 3), []), ((.loc 4), [])])
  | 1 => ([(4, []), (6, []), (7, [])], [((.loc 4), []), ((.loc 6), [])])
  | 2 => ([(4, []), (6, []), (15, [])], [((.loc 4), []), ((.loc 6), [])])
  | 3 => ([(4, []), (5, [])], [((.loc 4), [])])
  | 4 => ([(4, []), (5, [])], [((.loc 4), [])])
  | _ => ([], [])
noncomputable abbrev A21 (p : List Nat) := awp cfg (know know21) (drawOk cfg (know know21)) Try.f21.ntmps lv21 (cd Try.f21 p)
theorem vc21 (p : Edit) (q : Edit) (Q : AExit → LSt U → Prop) (h : ∀ y_1, y_1 = (p) → ∀ y_2, y_2 = (q) → ∀ y_3, y_3 = (((comE y_1 y_2).1)) → ((pre60 (y_1, y_2, ())) ∧ ((((!((comE y_1 y_2).2)) = true → (Q .ret (⟨[(4, .ptr (.loc 4) 0), (5, .c (.bool false))], [((.loc 4), [.int .i64 0, .int .i64 0, .nils, .nils, .int .i64 0, .nils, .nils, .nils, .nils, .int .i64 0, .nils])], []⟩ : LSt U))) ∧ ((!((comE y_1 y_2).2)) = false → (pre57 (y_3, ())) ∧ (Q .ret (⟨[(4, .ptr (.loc 4) 0), (5, .c (.bool true))], [((.loc 4), [.int .i64 (Edit.kind (nrmE y_3)), .int .i64 (Tree.kind (Edit.old (nrmE y_3))), .slice (U := U) .u64 (Tree.words (Edit.old (nrmE y_3))) .unk, .slice (U := U) .tree (Tree.kids (Edit.old (nrmE y_3))) .unk, .int .i64 (Tree.kind (Edit.new (nrmE y_3))), .slice (U := U) .u64 (Tree.words (Edit.new (nrmE y_3))) .unk, .slice (U := U) .tree (Tree.kids (Edit.new (nrmE y_3))) .unk, .slice (U := U) .wedit (Edit.words (nrmE y_3)) .unk, .slice (U := U) .kid (Edit.kids (nrmE y_3)) .unk, .int .i64 (Edit.list (nrmE y_3)), .slice (U := U) .op (Edit.ops (nrmE y_3)) .unk])], []⟩ : LSt U))))))) :
    A21 [] (⟨[(0, .agg [.int .i64 (Edit.kind p), .int .i64 (Tree.kind (Edit.old p)), .slice (U := U) .u64 (Tree.words (Edit.old p)) .unk, .slice (U := U) .tree (Tree.kids (Edit.old p)) .unk, .int .i64 (Tree.kind (Edit.new p)), .slice (U := U) .u64 (Tree.words (Edit.new p)) .unk, .slice (U := U) .tree (Tree.kids (Edit.new p)) .unk, .slice (U := U) .wedit (Edit.words p) .unk, .slice (U := U) .kid (Edit.kids p) .unk, .int .i64 (Edit.list p), .slice (U := U) .op (Edit.ops p) .unk]), (1, .agg [.int .i64 (Edit.kind q), .int .i64 (Tree.kind (Edit.old q)), .slice (U := U) .u64 (Tree.words (Edit.old q)) .unk, .slice (U := U) .tree (Tree.kids (Edit.old q)) .unk, .int .i64 (Tree.kind (Edit.new q)), .slice (U := U) .u64 (Tree.words (Edit.new q)) .unk, .slice (U := U) .tree (Tree.kids (Edit.new q)) .unk, .slice (U := U) .wedit (Edit.words q) .unk, .slice (U := U) .kid (Edit.kids q) .unk, .int .i64 (Edit.list q), .slice (U := U) .op (Edit.ops q) .unk])], [], []⟩ : LSt U) Q :=
  Eq.mpr (by kernel_rfl) (h _ (reEdit_eq _) _ (reEdit_eq _) _ (reEdit_eq _))
def Body21 (p : Edit) (q : Edit)  : Prop := awp cfg (know (know21)) (drawOk cfg (know (know21))) Try.f21.ntmps lv21 (cd Try.f21 []) (entry (args21.can (p, q, ())) []) (EndsQ cfg Try.f21.ntmps Try.f21.results.toList (res21 (p, q, ())) [])
theorem make21 (c60 : Contract Try.prog cfg 60 spec60) (c57 : Contract Try.prog cfg 57 spec57) (hb : ∀ (p : Edit) (q : Edit) (_ : Unit), pre21 (p, q, ()) → Body21 p q) : Contract Try.prog cfg 21 spec21 :=
  contract_flat (l := [(60, spec60), (57, spec57)]) cfgOk rfl (⟨c60, c57, trivial⟩) lv21 Try.func21 rfl rfl 2 (fun _ => rfl) (by decide) (fun ⟨p, q, _⟩ => hb p q ())
noncomputable def know25 : List (FuncId × Fs U) := [(67, spec67), (68, spec68), (69, spec69)]
def lv25 : Lives U := fun i => match i with
  | 0 => ([(2, []), (3, []), (4, [])], [((.loc 2), []), ((.loc 3), []), ((.loc 4), [])])
  | 1 => ([(2, []), (3, []), (4, []), (6, [])], [((.loc 2), []), ((.loc 3), []), ((.loc 4), []), ((.loc 6), [])])
  | 2 => ([(2, []), (3, []), (4, []), (6, []), (7, []), (8, []), (9, []), (10, [])], [((.loc 2), []), ((.loc 3), []), ((.loc 4), []), ((.loc 6), []), ((.loc 7), []), ((.loc 8), []), ((.loc 9), []), ((.loc 10), [])])
  | 3 => ([(2, []), (3, []), (4, []), (6, []), (7, []), (8, []), (9, []), (10, []), (11, [])], [((.loc 2), []), ((.loc 3), []), ((.loc 4), []), ((.loc 6), []), ((.loc 7), []), ((.loc 8), []), ((.loc 9), []), ((.loc 10), [])])
  | 4 => ([(2, []), (3, []), (4, []), (6, []), (7, []), (8, []), (9, []), (10, []), (11, []), (12, [])], [((.loc 2), []), ((.loc 3), []), ((.loc 4), []), ((.loc 6), []), ((.loc 7), []), ((.loc 8), []), ((.loc 9), []), ((.loc 10), [])])
  | 5 => ([(2, []), (3, []), (4, []), (6, []), (7, []), (8, []), (9, []), (10, []), (11, []), (12, []), (13, []), (14, [])], [((.loc 2), []), ((.loc 3), []), ((.loc 4), []), ((.loc 6), []), ((.loc 7), []), ((.loc 8), []), ((.loc 9), []), ((.loc 10), []), ((.loc 13), []), ((.loc 14), [])])
  | 6 => ([(2, []), (3, []), (4, []), (6, []), (7, []), (8, []), (9, []), (10, []), (11, []), (12, []), (13, []), (14, []), (15, [])], [((.loc 2), []), ((.loc 3), []), ((.loc 4), []), ((.loc 6), []), ((.loc 7), []), ((.loc 8), []), ((.loc 9), []), ((.loc 10), []), ((.loc 13), []), ((.loc 14), [])])
  | 7 => ([(2, []), (3, []), (4, []), (6, []), (7, []), (8, []), (9, []), (10, []), (11, []), (12, []), (13, []), (14, []), (15, []), (34, [])], [((.loc 2), []), ((.loc 3), []), ((.loc 4), []), ((.loc 6), []), ((.loc 7), []), ((.loc 8), []), ((.loc 9), []), ((.loc 10), []), ((.loc 13), []), ((.loc 14), [])])
  | 8 => ([(2, []), (3, []), (4, []), (6, []), (7, []), (8, []), (9, []), (10, []), (11, []), (12, []), (13, []), (14, []), (15, [])], [((.loc 2), []), ((.loc 3), []), ((.loc 4), []), ((.loc 6), []), ((.loc 7), []), ((.loc 8), []), ((.loc 9), []), ((.loc 10), []), ((.loc 13), []), ((.loc 14), [])])
  | 9 => ([(2, []), (3, []), (4, []), (6, []), (7, []), (8, []), (9, []), (10, []), (11, []), (12, []), (13, []), (14, []), (15, []), (16, []), (17, [])], [((.loc 2), []), ((.loc 3), []), ((.loc 4), []), ((.loc 6), []), ((.loc 7), []), ((.loc 8), []), ((.loc 9), []), ((.loc 10), []), ((.loc 13), []), ((.loc 14), [])])
  | 10 => ([(2, []), (3, []), (4, []), (6, []), (7, []), (8, []), (9, []), (10, []), (11, []), (12, []), (13, []), (14, []), (15, []), (16, []), (17, []), (57, [])], [((.loc 2), []), ((.loc 3), []), ((.loc 4), []), ((.loc 6), []), ((.loc 7), []), ((.loc 8), []), ((.loc 9), []), ((.loc 10), []), ((.loc 13), []), ((.loc 14), [])])
  | 11 => ([(4, []), (5, [])], [((.loc 4), [])])
  | 12 => ([(2, []), (3, []), (4, []), (6, []), (7, []), (8, []), (9, []), (10, []), (11, []), (12, []), (13, []), (14, []), (15, []), (16, []), (17, []), (62, [])], [((.loc 2), []), ((.loc 3), []), ((.loc 4), []), ((.loc 6), []), ((.loc 7), []), ((.loc 8), []), ((.loc 9), []), ((.loc 10), []), ((.loc 13), []), ((.loc 14), [])])
  | 13 => ([(2, []), (3, []), (4, []), (6, []), (7, []), (8, []), (9, []), (10, []), (11, []), (12, []), (13, []), (14, []), (15, []), (16, []), (17, []), (62, [])], [((.loc 2), []), ((.loc 3), []), ((.loc 4), []), ((.loc 6), []), ((.loc 7), []), ((.loc 8), []), ((.loc 9), []), ((.loc 10), []), ((.loc 13), []), ((.loc 14), [])])
  | 14 => ([(2, []), (3, []), (4, []), (6, []), (7, []), (8, []), (9, []), (10, []), (11, []), (12, []), (13, []), (14, []), (15, []), (16, []), (17, [])], [((.loc 2), []), ((.loc 3), []), ((.loc 4), []), ((.loc 6), []), ((.loc 7), []), ((.loc 8), []), ((.loc 9), []), ((.loc 10), []), ((.loc 13), []), ((.loc 14), [])])
  | 15 => ([(2, []), (3, []), (4, []), (6, []), (7, []), (8, []), (9, []), (10, []), (11, []), (12, []), (13, []), (14, []), (15, []), (16, []), (17, []), (68, [])], [((.loc 2), []), ((.loc 3), []), ((.loc 4), []), ((.loc 6), []), ((.loc 7), []), ((.loc 8), []), ((.loc 9), []), ((.loc 10), []), ((.loc 13), []), ((.loc 14), [])])
  | 16 => ([(2, []), (3, []), (4, []), (6, []), (7, []), (8, []), (9, []), (10, []), (11, []), (12, []), (13, []), (14, []), (15, []), (16, []), (17, [])], [((.loc 2), []), ((.loc 3), []), ((.loc 4), []), ((.loc 6), []), ((.loc 7), []), ((.loc 8), []), ((.loc 9), []), ((.loc 10), []), ((.loc 13), []), ((.loc 14), [])])
  | 17 => ([(2, []), (3, []), (4, []), (6, []), (7, []), (8, []), (9, []), (10, []), (11, []), (12, []), (13, []), (14, []), (15, []), (16, []), (17, []), (68, [])], [((.loc 2), []), ((.loc 3), []), ((.loc 4), []), ((.loc 6), []), ((.loc 7), []), ((.loc 8), []), ((.loc 9), []), ((.loc 10), []), ((.loc 13), []), ((.loc 14), [])])
  | 18 => ([(2, []), (3, []), (4, []), (6, []), (7, []), (8, []), (9, []), (10, []), (11, []), (12, []), (13, []), (14, []), (15, []), (16, []), (17, []), (79, [])], [((.loc 2), []), ((.loc 3), []), ((.loc 4), []), ((.loc 6), []), ((.loc 7), []), ((.loc 8), []), ((.loc 9), []), ((.loc 10), []), ((.loc 13), []), ((.loc 14), [])])
  | 19 => ([(2, []), (3, []), (4, []), (6, []), (7, []), (8, []), (9, []), (10, []), (11, []), (12, []), (13, []), (14, []), (15, []), (16, []), (17, []), (79, [])], [((.loc 2), []), ((.loc 3), []), ((.loc 4), []), ((.loc 6), []), ((.loc 7), []), ((.loc 8), []), ((.loc 9), []), ((.loc 10), []), ((.loc 13), []), ((.loc 14), [])])
  | 20 => ([(2, []), (3, []), (4, []), (6, []), (7, []), (8, []), (9, []), (10, []), (11, []), (12, []), (13, []), (14, []), (15, []), (89, [])], [((.loc 2), []), ((.loc 3), []), ((.loc 4), []), ((.loc 6), []), ((.loc 7), []), ((.loc 8), []), ((.loc 9), []), ((.loc 10), []), ((.loc 13), []), ((.loc 14), [])])
  | 21 => ([(2, []), (3, []), (4, []), (6, []), (7, []), (8, []), (9, []), (10, []), (11, []), (12, []), (13, []), (14, []), (15, []), (89, [])], [((.loc 2), []), ((.loc 3), []), ((.loc 4), []), ((.loc 6), []), ((.loc 7), []), ((.loc 8), []), ((.loc 9), []), ((.loc 10), []), ((.loc 13), []), ((.loc 14), [])])
  | 22 => ([(4, []), (6, []), (13, []), (14, [])], [((.loc 4), []), ((.loc 6), []), ((.loc 13), []), ((.loc 14), [])])
  | 23 => ([(4, []), (6, []), (14, [])], [((.loc 4), []), ((.loc 6), []), ((.loc 14), [])])
  | 24 => ([(4, []), (6, [])], [((.loc 4), []), ((.loc 6), [])])
  | 25 => ([(4, []), (5, [])], [((.loc 4), [])])
  | _ => ([], [])
noncomputable def head25_0 (p : WEdit) (q : WEdit) (x11 : Int) (x12 : Int) (x15 : Int) (ml13_0 : Int) (ml13_1 : Int) (ml13_2 : Int) (ml13_3 : Int) (ml13_4 : Int) (ml13_5 : Int) (ml13_6 : Int) (ml13_7 : Int) (ml14_0 : Int) (ml14_1 : Int) (ml14_2 : Int) (ml14_3 : Int) (ml14_4 : Int) (ml14_5 : Int) (ml14_6 : Int) (ml14_7 : Int) : LSt U := (⟨[(2, .ptr (.loc 2) 0), (3, .ptr (.loc 3) 0), (4, .ptr (.loc 4) 0), (6, .ptr (.loc 6) 0), (7, .ptr (.loc 7) 0), (8, .ptr (.loc 8) 0), (9, .ptr (.loc 9) 0), (10, .ptr (.loc 10) 0), (11, .c (.int .i64 x11)), (12, .c (.int .i64 x12)), (13, .ptr (.loc 13) 0), (14, .ptr (.loc 14) 0), (15, .c (.int .i64 x15))], [((.loc 2), [.int .i64 (WEdit.at_ p), .int .u8 (WEdit.mask p), .int .u64 (WEdit.old p), .int .u64 (WEdit.new p)]), ((.loc 3), [.int .i64 (WEdit.at_ q), .int .u8 (WEdit.mask q), .int .u64 (WEdit.old q), .int .u64 (WEdit.new q)]), ((.loc 4), [.int .i64 0, .int .u8 0, .int .u64 0, .int .u64 0]), ((.loc 6), [.int .i64 (WEdit.at_ p), .int .u8 0, .int .u64 0, .int .u64 0]), ((.loc 7), [.int .u8 (byteAt (WEdit.old p) 0), .int .u8 (byteAt (WEdit.old p) 1), .int .u8 (byteAt (WEdit.old p) 2), .int .u8 (byteAt (WEdit.old p) 3), .int .u8 (byteAt (WEdit.old p) 4), .int .u8 (byteAt (WEdit.old p) 5), .int .u8 (byteAt (WEdit.old p) 6), .int .u8 (byteAt (WEdit.old p) 7)]), ((.loc 8), [.int .u8 (byteAt (WEdit.new p) 0), .int .u8 (byteAt (WEdit.new p) 1), .int .u8 (byteAt (WEdit.new p) 2), .int .u8 (byteAt (WEdit.new p) 3), .int .u8 (byteAt (WEdit.new p) 4), .int .u8 (byteAt (WEdit.new p) 5), .int .u8 (byteAt (WEdit.new p) 6), .int .u8 (byteAt (WEdit.new p) 7)]), ((.loc 9), [.int .u8 (byteAt (WEdit.old q) 0), .int .u8 (byteAt (WEdit.old q) 1), .int .u8 (byteAt (WEdit.old q) 2), .int .u8 (byteAt (WEdit.old q) 3), .int .u8 (byteAt (WEdit.old q) 4), .int .u8 (byteAt (WEdit.old q) 5), .int .u8 (byteAt (WEdit.old q) 6), .int .u8 (byteAt (WEdit.old q) 7)]), ((.loc 10), [.int .u8 (byteAt (WEdit.new q) 0), .int .u8 (byteAt (WEdit.new q) 1), .int .u8 (byteAt (WEdit.new q) 2), .int .u8 (byteAt (WEdit.new q) 3), .int .u8 (byteAt (WEdit.new q) 4), .int .u8 (byteAt (WEdit.new q) 5), .int .u8 (byteAt (WEdit.new q) 6), .int .u8 (byteAt (WEdit.new q) 7)]), ((.loc 13), [.int .u8 ml13_0, .int .u8 ml13_1, .int .u8 ml13_2, .int .u8 ml13_3, .int .u8 ml13_4, .int .u8 ml13_5, .int .u8 ml13_6, .int .u8 ml13_7]), ((.loc 14), [.int .u8 ml14_0, .int .u8 ml14_1, .int .u8 ml14_2, .int .u8 ml14_3, .int .u8 ml14_4, .int .u8 ml14_5, .int .u8 ml14_6, .int .u8 ml14_7])], []⟩ : LSt U)
noncomputable def head25_1 (p : WEdit) (q : WEdit) (x11 : Int) (x15 : Int) (ml13_0 : Int) (ml13_1 : Int) (ml13_2 : Int) (ml13_3 : Int) (ml13_4 : Int) (ml13_5 : Int) (ml13_6 : Int) (ml13_7 : Int) (ml14_0 : Int) (ml14_1 : Int) (ml14_2 : Int) (ml14_3 : Int) (ml14_4 : Int) (ml14_5 : Int) (ml14_6 : Int) (ml14_7 : Int) (x12_a : Int) : LSt U := (⟨[(2, .ptr (.loc 2) 0), (3, .ptr (.loc 3) 0), (4, .ptr (.loc 4) 0), (6, .ptr (.loc 6) 0), (7, .ptr (.loc 7) 0), (8, .ptr (.loc 8) 0), (9, .ptr (.loc 9) 0), (10, .ptr (.loc 10) 0), (11, .c (.int .i64 x11)), (12, .c (.int .i64 x12_a)), (13, .ptr (.loc 13) 0), (14, .ptr (.loc 14) 0), (15, .c (.int .i64 x15)), (16, .c (.bool (named (WEdit.mask p) x15))), (17, .c (.bool (named (WEdit.mask q) x15))), (62, .c (.bool (bif (named (WEdit.mask p) x15) then true else (named (WEdit.mask q) x15))))], [((.loc 2), [.int .i64 (WEdit.at_ p), .int .u8 (WEdit.mask p), .int .u64 (WEdit.old p), .int .u64 (WEdit.new p)]), ((.loc 3), [.int .i64 (WEdit.at_ q), .int .u8 (WEdit.mask q), .int .u64 (WEdit.old q), .int .u64 (WEdit.new q)]), ((.loc 4), [.int .i64 0, .int .u8 0, .int .u64 0, .int .u64 0]), ((.loc 6), [.int .i64 (WEdit.at_ p), .int .u8 0, .int .u64 0, .int .u64 0]), ((.loc 7), [.int .u8 (byteAt (WEdit.old p) 0), .int .u8 (byteAt (WEdit.old p) 1), .int .u8 (byteAt (WEdit.old p) 2), .int .u8 (byteAt (WEdit.old p) 3), .int .u8 (byteAt (WEdit.old p) 4), .int .u8 (byteAt (WEdit.old p) 5), .int .u8 (byteAt (WEdit.old p) 6), .int .u8 (byteAt (WEdit.old p) 7)]), ((.loc 8), [.int .u8 (byteAt (WEdit.new p) 0), .int .u8 (byteAt (WEdit.new p) 1), .int .u8 (byteAt (WEdit.new p) 2), .int .u8 (byteAt (WEdit.new p) 3), .int .u8 (byteAt (WEdit.new p) 4), .int .u8 (byteAt (WEdit.new p) 5), .int .u8 (byteAt (WEdit.new p) 6), .int .u8 (byteAt (WEdit.new p) 7)]), ((.loc 9), [.int .u8 (byteAt (WEdit.old q) 0), .int .u8 (byteAt (WEdit.old q) 1), .int .u8 (byteAt (WEdit.old q) 2), .int .u8 (byteAt (WEdit.old q) 3), .int .u8 (byteAt (WEdit.old q) 4), .int .u8 (byteAt (WEdit.old q) 5), .int .u8 (byteAt (WEdit.old q) 6), .int .u8 (byteAt (WEdit.old q) 7)]), ((.loc 10), [.int .u8 (byteAt (WEdit.new q) 0), .int .u8 (byteAt (WEdit.new q) 1), .int .u8 (byteAt (WEdit.new q) 2), .int .u8 (byteAt (WEdit.new q) 3), .int .u8 (byteAt (WEdit.new q) 4), .int .u8 (byteAt (WEdit.new q) 5), .int .u8 (byteAt (WEdit.new q) 6), .int .u8 (byteAt (WEdit.new q) 7)]), ((.loc 13), [.int .u8 ml13_0, .int .u8 ml13_1, .int .u8 ml13_2, .int .u8 ml13_3, .int .u8 ml13_4, .int .u8 ml13_5, .int .u8 ml13_6, .int .u8 ml13_7]), ((.loc 14), [.int .u8 ml14_0, .int .u8 ml14_1, .int .u8 ml14_2, .int .u8 ml14_3, .int .u8 ml14_4, .int .u8 ml14_5, .int .u8 ml14_6, .int .u8 ml14_7])], []⟩ : LSt U)
noncomputable def head25_2 (p : WEdit) (q : WEdit) (x11 : Int) (x15 : Int) (x12_a : Int) (v68_b : V U) (ml13_0_b : Int) (ml13_1_b : Int) (ml13_2_b : Int) (ml13_3_b : Int) (ml13_4_b : Int) (ml13_5_b : Int) (ml13_6_b : Int) (ml13_7_b : Int) (ml14_0_b : Int) (ml14_1_b : Int) (ml14_2_b : Int) (ml14_3_b : Int) (ml14_4_b : Int) (ml14_5_b : Int) (ml14_6_b : Int) (ml14_7_b : Int) : LSt U := (⟨[(2, .ptr (.loc 2) 0), (3, .ptr (.loc 3) 0), (4, .ptr (.loc 4) 0), (6, .ptr (.loc 6) 0), (7, .ptr (.loc 7) 0), (8, .ptr (.loc 8) 0), (9, .ptr (.loc 9) 0), (10, .ptr (.loc 10) 0), (11, .c (.int .i64 ((2 : Int) * x11))), (12, .c (.int .i64 x12_a)), (13, .ptr (.loc 13) 0), (14, .ptr (.loc 14) 0), (15, .c (.int .i64 x15)), (16, .c (.bool (named (WEdit.mask p) x15))), (17, .c (.bool (named (WEdit.mask q) x15))), (68, v68_b)], [((.loc 2), [.int .i64 (WEdit.at_ p), .int .u8 (WEdit.mask p), .int .u64 (WEdit.old p), .int .u64 (WEdit.new p)]), ((.loc 3), [.int .i64 (WEdit.at_ q), .int .u8 (WEdit.mask q), .int .u64 (WEdit.old q), .int .u64 (WEdit.new q)]), ((.loc 4), [.int .i64 0, .int .u8 0, .int .u64 0, .int .u64 0]), ((.loc 6), [.int .i64 (WEdit.at_ p), .int .u8 0, .int .u64 0, .int .u64 0]), ((.loc 7), [.int .u8 (byteAt (WEdit.old p) 0), .int .u8 (byteAt (WEdit.old p) 1), .int .u8 (byteAt (WEdit.old p) 2), .int .u8 (byteAt (WEdit.old p) 3), .int .u8 (byteAt (WEdit.old p) 4), .int .u8 (byteAt (WEdit.old p) 5), .int .u8 (byteAt (WEdit.old p) 6), .int .u8 (byteAt (WEdit.old p) 7)]), ((.loc 8), [.int .u8 (byteAt (WEdit.new p) 0), .int .u8 (byteAt (WEdit.new p) 1), .int .u8 (byteAt (WEdit.new p) 2), .int .u8 (byteAt (WEdit.new p) 3), .int .u8 (byteAt (WEdit.new p) 4), .int .u8 (byteAt (WEdit.new p) 5), .int .u8 (byteAt (WEdit.new p) 6), .int .u8 (byteAt (WEdit.new p) 7)]), ((.loc 9), [.int .u8 (byteAt (WEdit.old q) 0), .int .u8 (byteAt (WEdit.old q) 1), .int .u8 (byteAt (WEdit.old q) 2), .int .u8 (byteAt (WEdit.old q) 3), .int .u8 (byteAt (WEdit.old q) 4), .int .u8 (byteAt (WEdit.old q) 5), .int .u8 (byteAt (WEdit.old q) 6), .int .u8 (byteAt (WEdit.old q) 7)]), ((.loc 10), [.int .u8 (byteAt (WEdit.new q) 0), .int .u8 (byteAt (WEdit.new q) 1), .int .u8 (byteAt (WEdit.new q) 2), .int .u8 (byteAt (WEdit.new q) 3), .int .u8 (byteAt (WEdit.new q) 4), .int .u8 (byteAt (WEdit.new q) 5), .int .u8 (byteAt (WEdit.new q) 6), .int .u8 (byteAt (WEdit.new q) 7)]), ((.loc 13), [.int .u8 ml13_0_b, .int .u8 ml13_1_b, .int .u8 ml13_2_b, .int .u8 ml13_3_b, .int .u8 ml13_4_b, .int .u8 ml13_5_b, .int .u8 ml13_6_b, .int .u8 ml13_7_b]), ((.loc 14), [.int .u8 ml14_0_b, .int .u8 ml14_1_b, .int .u8 ml14_2_b, .int .u8 ml14_3_b, .int .u8 ml14_4_b, .int .u8 ml14_5_b, .int .u8 ml14_6_b, .int .u8 ml14_7_b])], []⟩ : LSt U)
noncomputable def head25_3 (p : WEdit) (q : WEdit) (x11 : Int) (x15 : Int) (x12_a : Int) (ml14_0_b : Int) (ml14_1_b : Int) (ml14_2_b : Int) (ml14_3_b : Int) (ml14_4_b : Int) (ml14_5_b : Int) (ml14_6_b : Int) (ml14_7_b : Int) (ml13_0_c : Int) (ml13_1_c : Int) (ml13_2_c : Int) (ml13_3_c : Int) (ml13_4_c : Int) (ml13_5_c : Int) (ml13_6_c : Int) (ml13_7_c : Int) : LSt U := (⟨[(2, .ptr (.loc 2) 0), (3, .ptr (.loc 3) 0), (4, .ptr (.loc 4) 0), (6, .ptr (.loc 6) 0), (7, .ptr (.loc 7) 0), (8, .ptr (.loc 8) 0), (9, .ptr (.loc 9) 0), (10, .ptr (.loc 10) 0), (11, .c (.int .i64 ((2 : Int) * x11))), (12, .c (.int .i64 x12_a)), (13, .ptr (.loc 13) 0), (14, .ptr (.loc 14) 0), (15, .c (.int .i64 x15)), (16, .c (.bool (named (WEdit.mask p) x15))), (17, .c (.bool (named (WEdit.mask q) x15))), (79, .c (.bool (named (WEdit.mask p) x15)))], [((.loc 2), [.int .i64 (WEdit.at_ p), .int .u8 (WEdit.mask p), .int .u64 (WEdit.old p), .int .u64 (WEdit.new p)]), ((.loc 3), [.int .i64 (WEdit.at_ q), .int .u8 (WEdit.mask q), .int .u64 (WEdit.old q), .int .u64 (WEdit.new q)]), ((.loc 4), [.int .i64 0, .int .u8 0, .int .u64 0, .int .u64 0]), ((.loc 6), [.int .i64 (WEdit.at_ p), .int .u8 0, .int .u64 0, .int .u64 0]), ((.loc 7), [.int .u8 (byteAt (WEdit.old p) 0), .int .u8 (byteAt (WEdit.old p) 1), .int .u8 (byteAt (WEdit.old p) 2), .int .u8 (byteAt (WEdit.old p) 3), .int .u8 (byteAt (WEdit.old p) 4), .int .u8 (byteAt (WEdit.old p) 5), .int .u8 (byteAt (WEdit.old p) 6), .int .u8 (byteAt (WEdit.old p) 7)]), ((.loc 8), [.int .u8 (byteAt (WEdit.new p) 0), .int .u8 (byteAt (WEdit.new p) 1), .int .u8 (byteAt (WEdit.new p) 2), .int .u8 (byteAt (WEdit.new p) 3), .int .u8 (byteAt (WEdit.new p) 4), .int .u8 (byteAt (WEdit.new p) 5), .int .u8 (byteAt (WEdit.new p) 6), .int .u8 (byteAt (WEdit.new p) 7)]), ((.loc 9), [.int .u8 (byteAt (WEdit.old q) 0), .int .u8 (byteAt (WEdit.old q) 1), .int .u8 (byteAt (WEdit.old q) 2), .int .u8 (byteAt (WEdit.old q) 3), .int .u8 (byteAt (WEdit.old q) 4), .int .u8 (byteAt (WEdit.old q) 5), .int .u8 (byteAt (WEdit.old q) 6), .int .u8 (byteAt (WEdit.old q) 7)]), ((.loc 10), [.int .u8 (byteAt (WEdit.new q) 0), .int .u8 (byteAt (WEdit.new q) 1), .int .u8 (byteAt (WEdit.new q) 2), .int .u8 (byteAt (WEdit.new q) 3), .int .u8 (byteAt (WEdit.new q) 4), .int .u8 (byteAt (WEdit.new q) 5), .int .u8 (byteAt (WEdit.new q) 6), .int .u8 (byteAt (WEdit.new q) 7)]), ((.loc 13), [.int .u8 ml13_0_c, .int .u8 ml13_1_c, .int .u8 ml13_2_c, .int .u8 ml13_3_c, .int .u8 ml13_4_c, .int .u8 ml13_5_c, .int .u8 ml13_6_c, .int .u8 ml13_7_c]), ((.loc 14), [.int .u8 ml14_0_b, .int .u8 ml14_1_b, .int .u8 ml14_2_b, .int .u8 ml14_3_b, .int .u8 ml14_4_b, .int .u8 ml14_5_b, .int .u8 ml14_6_b, .int .u8 ml14_7_b])], []⟩ : LSt U)
noncomputable def head25_4 (p : WEdit) (q : WEdit) (x11 : Int) (x15 : Int) (x12_a : Int) (ml13_0_c : Int) (ml13_1_c : Int) (ml13_2_c : Int) (ml13_3_c : Int) (ml13_4_c : Int) (ml13_5_c : Int) (ml13_6_c : Int) (ml13_7_c : Int) (ml14_0_d : Int) (ml14_1_d : Int) (ml14_2_d : Int) (ml14_3_d : Int) (ml14_4_d : Int) (ml14_5_d : Int) (ml14_6_d : Int) (ml14_7_d : Int) : LSt U := (⟨[(2, .ptr (.loc 2) 0), (3, .ptr (.loc 3) 0), (4, .ptr (.loc 4) 0), (6, .ptr (.loc 6) 0), (7, .ptr (.loc 7) 0), (8, .ptr (.loc 8) 0), (9, .ptr (.loc 9) 0), (10, .ptr (.loc 10) 0), (11, .c (.int .i64 ((2 : Int) * x11))), (12, .c (.int .i64 x12_a)), (13, .ptr (.loc 13) 0), (14, .ptr (.loc 14) 0), (15, .c (.int .i64 x15)), (89, .c (.bool (bif (named (WEdit.mask p) x15) then (!(named (WEdit.mask q) x15)) else false)))], [((.loc 2), [.int .i64 (WEdit.at_ p), .int .u8 (WEdit.mask p), .int .u64 (WEdit.old p), .int .u64 (WEdit.new p)]), ((.loc 3), [.int .i64 (WEdit.at_ q), .int .u8 (WEdit.mask q), .int .u64 (WEdit.old q), .int .u64 (WEdit.new q)]), ((.loc 4), [.int .i64 0, .int .u8 0, .int .u64 0, .int .u64 0]), ((.loc 6), [.int .i64 (WEdit.at_ p), .int .u8 0, .int .u64 0, .int .u64 0]), ((.loc 7), [.int .u8 (byteAt (WEdit.old p) 0), .int .u8 (byteAt (WEdit.old p) 1), .int .u8 (byteAt (WEdit.old p) 2), .int .u8 (byteAt (WEdit.old p) 3), .int .u8 (byteAt (WEdit.old p) 4), .int .u8 (byteAt (WEdit.old p) 5), .int .u8 (byteAt (WEdit.old p) 6), .int .u8 (byteAt (WEdit.old p) 7)]), ((.loc 8), [.int .u8 (byteAt (WEdit.new p) 0), .int .u8 (byteAt (WEdit.new p) 1), .int .u8 (byteAt (WEdit.new p) 2), .int .u8 (byteAt (WEdit.new p) 3), .int .u8 (byteAt (WEdit.new p) 4), .int .u8 (byteAt (WEdit.new p) 5), .int .u8 (byteAt (WEdit.new p) 6), .int .u8 (byteAt (WEdit.new p) 7)]), ((.loc 9), [.int .u8 (byteAt (WEdit.old q) 0), .int .u8 (byteAt (WEdit.old q) 1), .int .u8 (byteAt (WEdit.old q) 2), .int .u8 (byteAt (WEdit.old q) 3), .int .u8 (byteAt (WEdit.old q) 4), .int .u8 (byteAt (WEdit.old q) 5), .int .u8 (byteAt (WEdit.old q) 6), .int .u8 (byteAt (WEdit.old q) 7)]), ((.loc 10), [.int .u8 (byteAt (WEdit.new q) 0), .int .u8 (byteAt (WEdit.new q) 1), .int .u8 (byteAt (WEdit.new q) 2), .int .u8 (byteAt (WEdit.new q) 3), .int .u8 (byteAt (WEdit.new q) 4), .int .u8 (byteAt (WEdit.new q) 5), .int .u8 (byteAt (WEdit.new q) 6), .int .u8 (byteAt (WEdit.new q) 7)]), ((.loc 13), [.int .u8 ml13_0_c, .int .u8 ml13_1_c, .int .u8 ml13_2_c, .int .u8 ml13_3_c, .int .u8 ml13_4_c, .int .u8 ml13_5_c, .int .u8 ml13_6_c, .int .u8 ml13_7_c]), ((.loc 14), [.int .u8 ml14_0_d, .int .u8 ml14_1_d, .int .u8 ml14_2_d, .int .u8 ml14_3_d, .int .u8 ml14_4_d, .int .u8 ml14_5_d, .int .u8 ml14_6_d, .int .u8 ml14_7_d])], []⟩ : LSt U)
noncomputable abbrev A25 (p : List Nat) := awp cfg (know know25) (drawOk cfg (know know25)) Try.f25.ntmps lv25 (cd Try.f25 p)
noncomputable abbrev S25 (p : List Nat) := seqK cfg (know know25) (drawOk cfg (know know25)) Try.f25.ntmps lv25 (cd Try.f25 p)
theorem vc25 (p : WEdit) (q : WEdit) (Q : AExit → LSt U → Prop) (h : (((pre67 ((WEdit.old p), ())) ∧ (pre67 ((WEdit.new p), ())) ∧ (pre67 ((WEdit.old q), ())) ∧ (pre67 ((WEdit.new q), ())) ∧ (((((LoopWp (A25 [1, 1, 1, 1, 1, 1, 0, 1, 0, 0]) (head25_0 p q 1 0 0 0 0 0 0 0 0 0 0 0 0 0 0 0 0 0 0) (AExit.inBlock 0 (S25 [1, 1, 1, 1, 1, 1, 1] Q)))))))))) :
    A25 [] (⟨[(0, .agg [.int .i64 (WEdit.at_ p), .int .u8 (WEdit.mask p), .int .u64 (WEdit.old p), .int .u64 (WEdit.new p)]), (1, .agg [.int .i64 (WEdit.at_ q), .int .u8 (WEdit.mask q), .int .u64 (WEdit.old q), .int .u64 (WEdit.new q)])], [], []⟩ : LSt U) Q :=
  Eq.mpr (by kernel_rfl) h
theorem vc25_l0 (p : WEdit) (q : WEdit) (x11 : Int) (x12 : Int) (x15 : Int) (ml13_0 : Int) (ml13_1 : Int) (ml13_2 : Int) (ml13_3 : Int) (ml13_4 : Int) (ml13_5 : Int) (ml13_6 : Int) (ml13_7 : Int) (ml14_0 : Int) (ml14_1 : Int) (ml14_2 : Int) (ml14_3 : Int) (ml14_4 : Int) (ml14_5 : Int) (ml14_6 : Int) (ml14_7 : Int) (N0 : LSt U → Prop) (Q : AExit → LSt U → Prop) (h : (((decide ((x15 : Int) < 8)) = true → (pre68 ((WEdit.mask p), x15, ())) ∧ (pre68 ((WEdit.mask q), x15, ())) ∧ (((Tr ((named (WEdit.mask p) x15) = true))) ∧ (Tr ((bif (named (WEdit.mask p) x15) then (named (WEdit.mask q) x15) else false) = true)) ∧ ((bif (named (WEdit.mask p) x15) then (named (WEdit.mask q) x15) else false) = true → (0 : Int) ≤ x15 ∧ x15 < ((8 : Nat) : Int)) ∧ (Tr ((bif (named (WEdit.mask p) x15) then (named (WEdit.mask q) x15) else false) = true)) ∧ (Tr ((bif (named (WEdit.mask p) x15) then (named (WEdit.mask q) x15) else false) = true)) ∧ ((bif (named (WEdit.mask p) x15) then (named (WEdit.mask q) x15) else false) = true → (0 : Int) ≤ x15 ∧ x15 < ((8 : Nat) : Int)) ∧ (Tr ((bif (named (WEdit.mask p) x15) then (named (WEdit.mask q) x15) else false) = true)) ∧ (Tr ((bif (named (WEdit.mask p) x15) then (named (WEdit.mask q) x15) else false) = true)) ∧ (Tr ((bif (named (WEdit.mask p) x15) then (named (WEdit.mask q) x15) else false) = true)) ∧ ((Tr ((bif (named (WEdit.mask p) x15) then (named (WEdit.mask q) x15) else false) = true))) ∧ (((bif (bif (named (WEdit.mask p) x15) then (named (WEdit.mask q) x15) else false) then (((List.getD [byteAt (WEdit.new p) 0, byteAt (WEdit.new p) 1, byteAt (WEdit.new p) 2, byteAt (WEdit.new p) 3, byteAt (WEdit.new p) 4, byteAt (WEdit.new p) 5, byteAt (WEdit.new p) 6, byteAt (WEdit.new p) 7] (Int.toNat x15) 0) : Int) != (List.getD [byteAt (WEdit.old q) 0, byteAt (WEdit.old q) 1, byteAt (WEdit.old q) 2, byteAt (WEdit.old q) 3, byteAt (WEdit.old q) 4, byteAt (WEdit.old q) 5, byteAt (WEdit.old q) 6, byteAt (WEdit.old q) 7] (Int.toNat x15) 0)) else false) = true → (Q .ret (⟨[(4, .ptr (.loc 4) 0), (5, .c (.bool false))], [((.loc 4), [.int .i64 0, .int .u8 0, .int .u64 0, .int .u64 0])], []⟩ : LSt U))) ∧ ((bif (bif (named (WEdit.mask p) x15) then (named (WEdit.mask q) x15) else false) then (((List.getD [byteAt (WEdit.new p) 0, byteAt (WEdit.new p) 1, byteAt (WEdit.new p) 2, byteAt (WEdit.new p) 3, byteAt (WEdit.new p) 4, byteAt (WEdit.new p) 5, byteAt (WEdit.new p) 6, byteAt (WEdit.new p) 7] (Int.toNat x15) 0) : Int) != (List.getD [byteAt (WEdit.old q) 0, byteAt (WEdit.old q) 1, byteAt (WEdit.old q) 2, byteAt (WEdit.old q) 3, byteAt (WEdit.old q) 4, byteAt (WEdit.old q) 5, byteAt (WEdit.old q) 6, byteAt (WEdit.old q) 7] (Int.toNat x15) 0)) else false) = false → (((named (WEdit.mask p) x15) = false → (!(named (WEdit.mask p) x15)) = true)) ∧ (((bif (named (WEdit.mask p) x15) then true else (named (WEdit.mask q) x15)) = true → (InR ((x12 : Int) + x11)) ∧ (A25 [1, 1, 1, 1, 1, 1, 0, 1, 0, 0, 1, 0, 0, 1, 1, 1] (head25_1 p q x11 x15 ml13_0 ml13_1 ml13_2 ml13_3 ml13_4 ml13_5 ml13_6 ml13_7 ml14_0 ml14_1 ml14_2 ml14_3 ml14_4 ml14_5 ml14_6 ml14_7 ((x12 : Int) + x11)) (AExit.inBlock 1 (S25 [1, 1, 1, 1, 1, 1, 0, 1, 0, 0, 1, 1] (AExit.then N0 (AExit.inBlock 0 (S25 [1, 1, 1, 1, 1, 1, 1] Q))))))) ∧ ((bif (named (WEdit.mask p) x15) then true else (named (WEdit.mask q) x15)) = false → A25 [1, 1, 1, 1, 1, 1, 0, 1, 0, 0, 1, 0, 0, 1, 1, 1] (head25_1 p q x11 x15 ml13_0 ml13_1 ml13_2 ml13_3 ml13_4 ml13_5 ml13_6 ml13_7 ml14_0 ml14_1 ml14_2 ml14_3 ml14_4 ml14_5 ml14_6 ml14_7 x12) (AExit.inBlock 1 (S25 [1, 1, 1, 1, 1, 1, 0, 1, 0, 0, 1, 1] (AExit.then N0 (AExit.inBlock 0 (S25 [1, 1, 1, 1, 1, 1, 1] Q))))))))))) ∧ ((decide ((x15 : Int) < 8)) = false → ((pre69 (([ml13_0, ml13_1, ml13_2, ml13_3, ml13_4, ml13_5, ml13_6, ml13_7]), 0, ())) ∧ ((pre69 (([ml14_0, ml14_1, ml14_2, ml14_3, ml14_4, ml14_5, ml14_6, ml14_7]), 0, ())) ∧ ((Q .ret (⟨[(4, .ptr (.loc 4) 0), (5, .c (.bool true))], [((.loc 4), [.int .i64 (WEdit.at_ p), .int .u8 (IntKind.wrap .u8 x12), .int .u64 (of8 (fun i => ([ml13_0, ml13_1, ml13_2, ml13_3, ml13_4, ml13_5, ml13_6, ml13_7]).getD i 0)), .int .u64 (of8 (fun i => ([ml14_0, ml14_1, ml14_2, ml14_3, ml14_4, ml14_5, ml14_6, ml14_7]).getD i 0))])], []⟩ : LSt U)))))))) :
    A25 [1, 1, 1, 1, 1, 1, 0, 1, 0, 0] (head25_0 p q x11 x12 x15 ml13_0 ml13_1 ml13_2 ml13_3 ml13_4 ml13_5 ml13_6 ml13_7 ml14_0 ml14_1 ml14_2 ml14_3 ml14_4 ml14_5 ml14_6 ml14_7) (AExit.then N0 (AExit.inBlock 0 (S25 [1, 1, 1, 1, 1, 1, 1] Q))) :=
  Eq.mpr (by kernel_rfl) h
theorem vc25_c1 (p : WEdit) (q : WEdit) (x11 : Int) (x15 : Int) (ml13_0 : Int) (ml13_1 : Int) (ml13_2 : Int) (ml13_3 : Int) (ml13_4 : Int) (ml13_5 : Int) (ml13_6 : Int) (ml13_7 : Int) (ml14_0 : Int) (ml14_1 : Int) (ml14_2 : Int) (ml14_3 : Int) (ml14_4 : Int) (ml14_5 : Int) (ml14_6 : Int) (ml14_7 : Int) (x12_a : Int) (N0 : LSt U → Prop) (Q : AExit → LSt U → Prop) (h : ∀ y_1, y_1 = (List.getD [byteAt (WEdit.new q) 0, byteAt (WEdit.new q) 1, byteAt (WEdit.new q) 2, byteAt (WEdit.new q) 3, byteAt (WEdit.new q) 4, byteAt (WEdit.new q) 5, byteAt (WEdit.new q) 6, byteAt (WEdit.new q) 7] (Int.toNat x15) 0) → ∀ y_2, y_2 = (List.getD [byteAt (WEdit.old q) 0, byteAt (WEdit.old q) 1, byteAt (WEdit.old q) 2, byteAt (WEdit.old q) 3, byteAt (WEdit.old q) 4, byteAt (WEdit.old q) 5, byteAt (WEdit.old q) 6, byteAt (WEdit.old q) 7] (Int.toNat x15) 0) → (InR ((2 : Int) * x11)) ∧ ((((named (WEdit.mask q) x15) = true → ((0 : Int) ≤ x15 ∧ x15 < ((8 : Nat) : Int)) ∧ ((0 : Int) ≤ x15 ∧ x15 < ((8 : Nat) : Int)) ∧ (((0 : Int) ≤ x15 ∧ x15 < ((8 : Nat) : Int)) ∧ ((0 : Int) ≤ x15 ∧ x15 < ((8 : Nat) : Int)) ∧ (A25 [1, 1, 1, 1, 1, 1, 0, 1, 0, 0, 1, 0, 0, 1, 1, 1, 1, 1] (head25_2 p q x11 x15 x12_a .junk (aSet x15 0 y_2 ml13_0) (aSet x15 1 y_2 ml13_1) (aSet x15 2 y_2 ml13_2) (aSet x15 3 y_2 ml13_3) (aSet x15 4 y_2 ml13_4) (aSet x15 5 y_2 ml13_5) (aSet x15 6 y_2 ml13_6) (aSet x15 7 y_2 ml13_7) (aSet x15 0 y_1 ml14_0) (aSet x15 1 y_1 ml14_1) (aSet x15 2 y_1 ml14_2) (aSet x15 3 y_1 ml14_3) (aSet x15 4 y_1 ml14_4) (aSet x15 5 y_1 ml14_5) (aSet x15 6 y_1 ml14_6) (aSet x15 7 y_1 ml14_7)) (AExit.inBlock 1 (S25 [1, 1, 1, 1, 1, 1, 0, 1, 0, 0, 1, 1] (AExit.then N0 (AExit.inBlock 0 (S25 [1, 1, 1, 1, 1, 1, 1] Q)))))))) ∧ ((named (WEdit.mask q) x15) = false → A25 [1, 1, 1, 1, 1, 1, 0, 1, 0, 0, 1, 0, 0, 1, 1, 1, 1, 1] (head25_2 p q x11 x15 x12_a (.c (.bool (named (WEdit.mask q) x15))) ml13_0 ml13_1 ml13_2 ml13_3 ml13_4 ml13_5 ml13_6 ml13_7 ml14_0 ml14_1 ml14_2 ml14_3 ml14_4 ml14_5 ml14_6 ml14_7) (AExit.inBlock 1 (S25 [1, 1, 1, 1, 1, 1, 0, 1, 0, 0, 1, 1] (AExit.then N0 (AExit.inBlock 0 (S25 [1, 1, 1, 1, 1, 1, 1] Q))))))))) :
    A25 [1, 1, 1, 1, 1, 1, 0, 1, 0, 0, 1, 0, 0, 1, 1, 1] (head25_1 p q x11 x15 ml13_0 ml13_1 ml13_2 ml13_3 ml13_4 ml13_5 ml13_6 ml13_7 ml14_0 ml14_1 ml14_2 ml14_3 ml14_4 ml14_5 ml14_6 ml14_7 x12_a) (AExit.inBlock 1 (S25 [1, 1, 1, 1, 1, 1, 0, 1, 0, 0, 1, 1] (AExit.then N0 (AExit.inBlock 0 (S25 [1, 1, 1, 1, 1, 1, 1] Q))))) :=
  Eq.mpr (by kernel_rfl) (h _ rfl _ rfl)
theorem vc25_c2 (p : WEdit) (q : WEdit) (x11 : Int) (x15 : Int) (x12_a : Int) (v68_b : V U) (ml13_0_b : Int) (ml13_1_b : Int) (ml13_2_b : Int) (ml13_3_b : Int) (ml13_4_b : Int) (ml13_5_b : Int) (ml13_6_b : Int) (ml13_7_b : Int) (ml14_0_b : Int) (ml14_1_b : Int) (ml14_2_b : Int) (ml14_3_b : Int) (ml14_4_b : Int) (ml14_5_b : Int) (ml14_6_b : Int) (ml14_7_b : Int) (N0 : LSt U → Prop) (Q : AExit → LSt U → Prop) (h : ∀ y_1, y_1 = (List.getD [byteAt (WEdit.old p) 0, byteAt (WEdit.old p) 1, byteAt (WEdit.old p) 2, byteAt (WEdit.old p) 3, byteAt (WEdit.old p) 4, byteAt (WEdit.old p) 5, byteAt (WEdit.old p) 6, byteAt (WEdit.old p) 7] (Int.toNat x15) 0) → (((named (WEdit.mask p) x15) = true → ((0 : Int) ≤ x15 ∧ x15 < ((8 : Nat) : Int)) ∧ ((0 : Int) ≤ x15 ∧ x15 < ((8 : Nat) : Int)) ∧ (A25 [1, 1, 1, 1, 1, 1, 0, 1, 0, 0, 1, 0, 0, 1, 1, 1, 1, 1, 1] (head25_3 p q x11 x15 x12_a ml14_0_b ml14_1_b ml14_2_b ml14_3_b ml14_4_b ml14_5_b ml14_6_b ml14_7_b (aSet x15 0 y_1 ml13_0_b) (aSet x15 1 y_1 ml13_1_b) (aSet x15 2 y_1 ml13_2_b) (aSet x15 3 y_1 ml13_3_b) (aSet x15 4 y_1 ml13_4_b) (aSet x15 5 y_1 ml13_5_b) (aSet x15 6 y_1 ml13_6_b) (aSet x15 7 y_1 ml13_7_b)) (AExit.inBlock 1 (S25 [1, 1, 1, 1, 1, 1, 0, 1, 0, 0, 1, 1] (AExit.then N0 (AExit.inBlock 0 (S25 [1, 1, 1, 1, 1, 1, 1] Q))))))) ∧ ((named (WEdit.mask p) x15) = false → A25 [1, 1, 1, 1, 1, 1, 0, 1, 0, 0, 1, 0, 0, 1, 1, 1, 1, 1, 1] (head25_3 p q x11 x15 x12_a ml14_0_b ml14_1_b ml14_2_b ml14_3_b ml14_4_b ml14_5_b ml14_6_b ml14_7_b ml13_0_b ml13_1_b ml13_2_b ml13_3_b ml13_4_b ml13_5_b ml13_6_b ml13_7_b) (AExit.inBlock 1 (S25 [1, 1, 1, 1, 1, 1, 0, 1, 0, 0, 1, 1] (AExit.then N0 (AExit.inBlock 0 (S25 [1, 1, 1, 1, 1, 1, 1] Q)))))))) :
    A25 [1, 1, 1, 1, 1, 1, 0, 1, 0, 0, 1, 0, 0, 1, 1, 1, 1, 1] (head25_2 p q x11 x15 x12_a v68_b ml13_0_b ml13_1_b ml13_2_b ml13_3_b ml13_4_b ml13_5_b ml13_6_b ml13_7_b ml14_0_b ml14_1_b ml14_2_b ml14_3_b ml14_4_b ml14_5_b ml14_6_b ml14_7_b) (AExit.inBlock 1 (S25 [1, 1, 1, 1, 1, 1, 0, 1, 0, 0, 1, 1] (AExit.then N0 (AExit.inBlock 0 (S25 [1, 1, 1, 1, 1, 1, 1] Q))))) :=
  Eq.mpr (by kernel_rfl) (h _ rfl)
theorem vc25_c3 (p : WEdit) (q : WEdit) (x11 : Int) (x15 : Int) (x12_a : Int) (ml14_0_b : Int) (ml14_1_b : Int) (ml14_2_b : Int) (ml14_3_b : Int) (ml14_4_b : Int) (ml14_5_b : Int) (ml14_6_b : Int) (ml14_7_b : Int) (ml13_0_c : Int) (ml13_1_c : Int) (ml13_2_c : Int) (ml13_3_c : Int) (ml13_4_c : Int) (ml13_5_c : Int) (ml13_6_c : Int) (ml13_7_c : Int) (N0 : LSt U → Prop) (Q : AExit → LSt U → Prop) (h : ∀ y_1, y_1 = (List.getD [byteAt (WEdit.new p) 0, byteAt (WEdit.new p) 1, byteAt (WEdit.new p) 2, byteAt (WEdit.new p) 3, byteAt (WEdit.new p) 4, byteAt (WEdit.new p) 5, byteAt (WEdit.new p) 6, byteAt (WEdit.new p) 7] (Int.toNat x15) 0) → (Tr ((named (WEdit.mask p) x15) = true)) ∧ ((Tr ((named (WEdit.mask p) x15) = true))) ∧ (((bif (named (WEdit.mask p) x15) then (!(named (WEdit.mask q) x15)) else false) = true → ((0 : Int) ≤ x15 ∧ x15 < ((8 : Nat) : Int)) ∧ ((0 : Int) ≤ x15 ∧ x15 < ((8 : Nat) : Int)) ∧ (A25 [1, 1, 1, 1, 1, 1, 0, 1, 0, 0, 1, 1] (head25_4 p q x11 x15 x12_a ml13_0_c ml13_1_c ml13_2_c ml13_3_c ml13_4_c ml13_5_c ml13_6_c ml13_7_c (aSet x15 0 y_1 ml14_0_b) (aSet x15 1 y_1 ml14_1_b) (aSet x15 2 y_1 ml14_2_b) (aSet x15 3 y_1 ml14_3_b) (aSet x15 4 y_1 ml14_4_b) (aSet x15 5 y_1 ml14_5_b) (aSet x15 6 y_1 ml14_6_b) (aSet x15 7 y_1 ml14_7_b)) (AExit.then N0 (AExit.inBlock 0 (S25 [1, 1, 1, 1, 1, 1, 1] Q))))) ∧ ((bif (named (WEdit.mask p) x15) then (!(named (WEdit.mask q) x15)) else false) = false → A25 [1, 1, 1, 1, 1, 1, 0, 1, 0, 0, 1, 1] (head25_4 p q x11 x15 x12_a ml13_0_c ml13_1_c ml13_2_c ml13_3_c ml13_4_c ml13_5_c ml13_6_c ml13_7_c ml14_0_b ml14_1_b ml14_2_b ml14_3_b ml14_4_b ml14_5_b ml14_6_b ml14_7_b) (AExit.then N0 (AExit.inBlock 0 (S25 [1, 1, 1, 1, 1, 1, 1] Q)))))) :
    A25 [1, 1, 1, 1, 1, 1, 0, 1, 0, 0, 1, 0, 0, 1, 1, 1, 1, 1, 1] (head25_3 p q x11 x15 x12_a ml14_0_b ml14_1_b ml14_2_b ml14_3_b ml14_4_b ml14_5_b ml14_6_b ml14_7_b ml13_0_c ml13_1_c ml13_2_c ml13_3_c ml13_4_c ml13_5_c ml13_6_c ml13_7_c) (AExit.inBlock 1 (S25 [1, 1, 1, 1, 1, 1, 0, 1, 0, 0, 1, 1] (AExit.then N0 (AExit.inBlock 0 (S25 [1, 1, 1, 1, 1, 1, 1] Q))))) :=
  Eq.mpr (by kernel_rfl) (h _ rfl)
theorem vc25_c4 (p : WEdit) (q : WEdit) (x11 : Int) (x15 : Int) (x12_a : Int) (ml13_0_c : Int) (ml13_1_c : Int) (ml13_2_c : Int) (ml13_3_c : Int) (ml13_4_c : Int) (ml13_5_c : Int) (ml13_6_c : Int) (ml13_7_c : Int) (ml14_0_d : Int) (ml14_1_d : Int) (ml14_2_d : Int) (ml14_3_d : Int) (ml14_4_d : Int) (ml14_5_d : Int) (ml14_6_d : Int) (ml14_7_d : Int) (N0 : LSt U → Prop) (Q : AExit → LSt U → Prop) (h : (InR ((x15 : Int) + 1)) ∧ (N0 (head25_0 p q ((2 : Int) * x11) x12_a ((x15 : Int) + 1) ml13_0_c ml13_1_c ml13_2_c ml13_3_c ml13_4_c ml13_5_c ml13_6_c ml13_7_c ml14_0_d ml14_1_d ml14_2_d ml14_3_d ml14_4_d ml14_5_d ml14_6_d ml14_7_d))) :
    A25 [1, 1, 1, 1, 1, 1, 0, 1, 0, 0, 1, 1] (head25_4 p q x11 x15 x12_a ml13_0_c ml13_1_c ml13_2_c ml13_3_c ml13_4_c ml13_5_c ml13_6_c ml13_7_c ml14_0_d ml14_1_d ml14_2_d ml14_3_d ml14_4_d ml14_5_d ml14_6_d ml14_7_d) (AExit.then N0 (AExit.inBlock 0 (S25 [1, 1, 1, 1, 1, 1, 1] Q))) :=
  Eq.mpr (by kernel_rfl) h
def Body25 (p : WEdit) (q : WEdit)  : Prop := awp cfg (know (know25)) (drawOk cfg (know (know25))) Try.f25.ntmps lv25 (cd Try.f25 []) (entry (args25.can (p, q, ())) []) (EndsQ cfg Try.f25.ntmps Try.f25.results.toList (res25 (p, q, ())) [])
theorem make25 (c67 : Contract Try.prog cfg 67 spec67) (c68 : Contract Try.prog cfg 68 spec68) (c69 : Contract Try.prog cfg 69 spec69) (hb : ∀ (p : WEdit) (q : WEdit) (_ : Unit), pre25 (p, q, ()) → Body25 p q) : Contract Try.prog cfg 25 spec25 :=
  contract_flat (l := [(67, spec67), (68, spec68), (69, spec69)]) cfgOk rfl (⟨c67, c68, c69, trivial⟩) lv25 Try.func25 rfl rfl 2 (fun _ => rfl) (by decide) (fun ⟨p, q, _⟩ => hb p q ())
end Go.AM.Ytpjenobkibfpcaa

namespace Go.AM.Ytpjenobkibfpcaa
open Go.AM Go.Proofs
theorem reOk_wk {e : Edit} (h : reOk e) : Wk e := by obtain ⟨d, hr⟩ := h.2.2; exact .of hr h.2.1
theorem com_facts {p q : Edit} (hp : reOk p) (hq : reOk q) : ComWk True (comE p q) p q := com_wk _ p q (Nat.le_refl _) (reOk_wk hp) (reOk_wk hq)
theorem com_nrm {p q : Edit} (hp : reOk p) (hq : reOk q) (h : (comE p q).2 = true) : pre57 ((comE p q).1, ()) := by
  have H := com_facts hp hq
  have := H.ct trivial h
  have := mass_ct (comE p q).1
  have := hp.1
  have := hq.1
  exact ⟨by dsimp only; omega, -1, (H.wk h).r⟩
theorem c21 : Contract Try.prog cfg 21 spec21 := by
  refine make21 c60 c57_76.1 ?_
  intro p q _ hp
  refine vc21 _ _ _ ?_
  intro y1 h1 y2 h2 y3 h3
  subst h1 h2
  (simp only [vcT, vcS])
  refine ⟨hp, fun hc => ?_, fun hc => ?_⟩
  · refine ends_eq (r' := .tup [(true, enc .edit Edit.nil), (false, [.bool false])]) ?_ (by (repeat' (first | exact trivial | exact rfl | apply And.intro)))
    simp only [res21, comN]
    rw [if_neg (by rw [hc]; decide)]
    rfl
  · refine ⟨by rw [h3]; exact com_nrm hp.1 hp.2 hc, ends_eq (r' := .tup [(true, enc .edit (nrmE y3)), (false, [.bool true])]) ?_ (by (repeat' (first | exact trivial | exact rfl | apply And.intro)))⟩
    simp only [res21, comN]
    rw [if_pos hc, h3]
    rfl
theorem of8_congr {f g : Nat → Int} (h : ∀ i, i < 8 → f i = g i) : of8 f = of8 g := by
  unfold of8
  rw [h 0 (by omega), h 1 (by omega), h 2 (by omega), h 3 (by omega), h 4 (by omega), h 5 (by omega), h 6 (by omega), h 7 (by omega)]
theorem comWok_iff {p q : WEdit} (rp : rngW p) (rq : rngW q) : comWok p q = true ↔ ∀ i : Nat, i < 8 → named p.mask (i : Int) = true → named q.mask (i : Int) = true → byteAt p.new i = byteAt q.old i := by
  obtain ⟨_, h⟩ := andM_in rp.2.1 rq.2.1
  unfold comWok
  rw [decide_eq_true_eq]
  constructor
  · intro e i hi h1 h2
    have := congrArg (fun w => byteAt w i) e
    simp only [mix_at hi] at this
    rw [h i, h1, h2] at this
    simpa using this
  · intro e
    refine of8_congr fun i hi => ?_
    unfold mixAt
    rw [h i]
    split
    · rename_i hn
      rw [Bool.and_eq_true] at hn
      exact e i hi hn.1 hn.2
    · rfl
theorem bit_step {m i : Int} (h0 : 0 ≤ m) (hi : 0 ≤ i) (h8 : i < 8) : m % 2 ^ (i + 1).toNat = m % 2 ^ i.toNat + if named m i = true then 2 ^ i.toNat else 0 := by
  have e : named m i = decide (m / 2 ^ i.toNat % 2 = 1) := rfl
  rw [e]
  simp only [decide_eq_true_eq]
  have : i = 0 ∨ i = 1 ∨ i = 2 ∨ i = 3 ∨ i = 4 ∨ i = 5 ∨ i = 6 ∨ i = 7 := by omega
  rcases this with rfl | rfl | rfl | rfl | rfl | rfl | rfl | rfl <;> simp <;> split <;> omega
theorem bit_pow {i : Int} (hi : 0 ≤ i) : (2 : Int) * 2 ^ i.toNat = 2 ^ (i + 1).toNat := by
  rw [show (i + 1).toNat = i.toNat + 1 by omega, Int.pow_succ, Int.mul_comm]
theorem bit_le {i : Int} (h0 : 0 ≤ i) (hi : i ≤ 8) : (1 : Int) ≤ 2 ^ i.toNat ∧ (2 : Int) ^ i.toNat ≤ 256 := by
  have : i = 0 ∨ i = 1 ∨ i = 2 ∨ i = 3 ∨ i = 4 ∨ i = 5 ∨ i = 6 ∨ i = 7 ∨ i = 8 := by omega
  rcases this with rfl | rfl | rfl | rfl | rfl | rfl | rfl | rfl | rfl <;> simp
def wOld (p q : WEdit) (j : Nat) : Int := if named p.mask (j : Int) = true then byteAt p.old j else if named q.mask (j : Int) = true then byteAt q.old j else 0
def wNew (p q : WEdit) (j : Nat) : Int := if named q.mask (j : Int) = true then byteAt q.new j else if named p.mask (j : Int) = true then byteAt p.new j else 0
theorem c25 : Contract Try.prog cfg 25 spec25 := by
  refine make25 c67 c68 c69 ?_
  intro p q _ hp
  obtain ⟨⟨rp, op, np⟩, rq, oq, nq⟩ := hp
  dsimp only at rp op np rq oq nq
  obtain ⟨om, ob⟩ := orM_in rp.2.1 rq.2.1
  refine vc25 _ _ _ ?_
  refine ⟨rp.2.2.1, rp.2.2.2, rq.2.2.1, rq.2.2.2, ?_⟩
  let st := fun (F : Nat → Int) (i : Int) (j : Nat) => if (j : Int) < i then F j else 0
  refine loop_rule (ι := Int) (fun i => head25_0 p q (2 ^ i.toNat) (orM p.mask q.mask % 2 ^ i.toNat) i (st (wOld p q) i 0) (st (wOld p q) i 1) (st (wOld p q) i 2) (st (wOld p q) i 3) (st (wOld p q) i 4) (st (wOld p q) i 5) (st (wOld p q) i 6) (st (wOld p q) i 7)
    (st (wNew p q) i 0) (st (wNew p q) i 1) (st (wNew p q) i 2) (st (wNew p q) i 3) (st (wNew p q) i 4) (st (wNew p q) i 5) (st (wNew p q) i 6) (st (wNew p q) i 7))
    (fun i => (0 ≤ i ∧ i ≤ 8) ∧ ∀ j : Nat, (j : Int) < i → named p.mask (j : Int) = true → named q.mask (j : Int) = true → byteAt p.new j = byteAt q.old j) (fun i => (8 - i).toNat) 0 ?_ ⟨⟨by omega, by omega⟩, fun j hj => by omega⟩ ?_
  · simp [head25_0, st]
  rintro i ⟨⟨h1, h2⟩, hok⟩
  have bs := bit_step (m := orM p.mask q.mask) om.1 h1
  have bp := bit_pow h1
  have bl := bit_le h1 h2
  have orb : named (orM p.mask q.mask) i = (named p.mask i || named q.mask i) := by
    have := ob i.toNat
    rwa [show ((i.toNat : Nat) : Int) = i by omega] at this
  refine vc25_l0 _ _ _ _ _ _ _ _ _ _ _ _ _ _ _ _ _ _ _ _ _ _ _ ?_
  have f1 : ∀ (F : Nat → Int) (v : Int), v = F i.toNat → ∀ j : Nat, aSet i j v (st F i j) = st F (i + 1) j := fun F v hv j => aSet_if (F := F) (G := fun _ => 0) h1 hv
  have f2 : ∀ (F : Nat → Int), F i.toNat = 0 → ∀ j : Nat, st F i j = st F (i + 1) j := fun F hv j => if_step (F := F) (G := fun _ => 0) hv h1
  have f3 : ∀ (v w x : Int) (j : Nat), aSet i j v (aSet i j w x) = aSet i j v x := fun v w x j => by unfold aSet; split <;> rfl
  have gd : ∀ w : Int, i < 8 → List.getD [byteAt w 0, byteAt w 1, byteAt w 2, byteAt w 3, byteAt w 4, byteAt w 5, byteAt w 6, byteAt w 7] i.toNat 0 = byteAt w i.toNat := fun w h => getD8 (byteAt w) (by omega)
  have ie : ((i.toNat : Nat) : Int) = i := by omega
  have tl : ∀ (m : Int) (N0 : LSt U → Prop) (Q : AExit → LSt U → Prop), i < 8 → N0 (head25_0 p q (2 * 2 ^ i.toNat) m (i + 1) (st (wOld p q) (i + 1) 0) (st (wOld p q) (i + 1) 1) (st (wOld p q) (i + 1) 2) (st (wOld p q) (i + 1) 3) (st (wOld p q) (i + 1) 4) (st (wOld p q) (i + 1) 5) (st (wOld p q) (i + 1) 6) (st (wOld p q) (i + 1) 7) (st (wNew p q) (i + 1) 0) (st (wNew p q) (i + 1) 1) (st (wNew p q) (i + 1) 2) (st (wNew p q) (i + 1) 3) (st (wNew p q) (i + 1) 4) (st (wNew p q) (i + 1) 5) (st (wNew p q) (i + 1) 6) (st (wNew p q) (i + 1) 7)) →
      A25 [1, 1, 1, 1, 1, 1, 0, 1, 0, 0, 1, 0, 0, 1, 1, 1] (head25_1 p q (2 ^ i.toNat) i (st (wOld p q) i 0) (st (wOld p q) i 1) (st (wOld p q) i 2) (st (wOld p q) i 3) (st (wOld p q) i 4) (st (wOld p q) i 5) (st (wOld p q) i 6) (st (wOld p q) i 7) (st (wNew p q) i 0) (st (wNew p q) i 1) (st (wNew p q) i 2) (st (wNew p q) i 3) (st (wNew p q) i 4) (st (wNew p q) i 5) (st (wNew p q) i 6) (st (wNew p q) i 7) m) (AExit.inBlock 1 (S25 [1, 1, 1, 1, 1, 1, 0, 1, 0, 0, 1, 1] (AExit.then N0 (AExit.inBlock 0 (S25 [1, 1, 1, 1, 1, 1, 1] Q))))) := by
    intro m N0 Q h8 hN
    refine vc25_c1 _ _ _ _ _ _ _ _ _ _ _ _ _ _ _ _ _ _ _ _ _ _ _ ?_
    intro y1 hy1 y2 hy2
    rw [gd _ h8] at hy1 hy2
    subst hy1 hy2
    have ir : InR (2 * 2 ^ i.toNat) := by unfold InR; omega
    have ir2 : InR (i + 1) := by unfold InR; omega
    have rg : (0 : Int) ≤ i ∧ i < ((8 : Nat) : Int) := ⟨h1, by omega⟩
    have wo : wOld p q i.toNat = if named p.mask i = true then byteAt p.old i.toNat else if named q.mask i = true then byteAt q.old i.toNat else 0 := by unfold wOld; rw [ie]
    have wn : wNew p q i.toNat = if named q.mask i = true then byteAt q.new i.toNat else if named p.mask i = true then byteAt p.new i.toNat else 0 := by unfold wNew; rw [ie]
    refine ⟨ir, fun hY => ⟨rg, rg, rg, rg, ?_⟩, fun hY => ?_⟩
    · rw [if_pos hY] at wn
      refine vc25_c2 _ _ _ _ _ _ _ _ _ _ _ _ _ _ _ _ _ _ _ _ _ _ _ _ ?_
      intro y1 hy1
      rw [gd _ h8] at hy1
      subst hy1
      refine ⟨fun hX => ⟨rg, rg, ?_⟩, fun hX => ?_⟩
      · rw [if_pos hX] at wo
        refine vc25_c3 _ _ _ _ _ _ _ _ _ _ _ _ _ _ _ _ _ _ _ _ _ _ _ ?_
        intro y1 hy1
        refine ⟨fun h => h, fun h => h, fun hZ => ?_, fun hZ => ?_⟩
        · rw [hX, hY] at hZ; cases hZ
        · refine vc25_c4 _ _ _ _ _ _ _ _ _ _ _ _ _ _ _ _ _ _ _ _ _ _ _ ⟨ir2, ?_⟩
          rw [f3 _ _ _ 0, f3 _ _ _ 1, f3 _ _ _ 2, f3 _ _ _ 3, f3 _ _ _ 4, f3 _ _ _ 5, f3 _ _ _ 6, f3 _ _ _ 7]
          rw [f1 _ _ wo.symm 0, f1 _ _ wo.symm 1, f1 _ _ wo.symm 2, f1 _ _ wo.symm 3, f1 _ _ wo.symm 4, f1 _ _ wo.symm 5, f1 _ _ wo.symm 6, f1 _ _ wo.symm 7]
          rw [f1 _ _ wn.symm 0, f1 _ _ wn.symm 1, f1 _ _ wn.symm 2, f1 _ _ wn.symm 3, f1 _ _ wn.symm 4, f1 _ _ wn.symm 5, f1 _ _ wn.symm 6, f1 _ _ wn.symm 7]
          exact hN
      · rw [if_neg (by rw [hX]; decide), if_pos hY] at wo
        refine vc25_c3 _ _ _ _ _ _ _ _ _ _ _ _ _ _ _ _ _ _ _ _ _ _ _ ?_
        intro y1 hy1
        refine ⟨fun h => h, fun h => h, fun hZ => ?_, fun hZ => ?_⟩
        · rw [hX] at hZ; cases hZ
        · refine vc25_c4 _ _ _ _ _ _ _ _ _ _ _ _ _ _ _ _ _ _ _ _ _ _ _ ⟨ir2, ?_⟩
          rw [f1 _ _ wo.symm 0, f1 _ _ wo.symm 1, f1 _ _ wo.symm 2, f1 _ _ wo.symm 3, f1 _ _ wo.symm 4, f1 _ _ wo.symm 5, f1 _ _ wo.symm 6, f1 _ _ wo.symm 7]
          rw [f1 _ _ wn.symm 0, f1 _ _ wn.symm 1, f1 _ _ wn.symm 2, f1 _ _ wn.symm 3, f1 _ _ wn.symm 4, f1 _ _ wn.symm 5, f1 _ _ wn.symm 6, f1 _ _ wn.symm 7]
          exact hN
    · rw [if_neg (by rw [hY]; decide)] at wn
      refine vc25_c2 _ _ _ _ _ _ _ _ _ _ _ _ _ _ _ _ _ _ _ _ _ _ _ _ ?_
      intro y1 hy1
      rw [gd _ h8] at hy1
      subst hy1
      refine ⟨fun hX => ⟨rg, rg, ?_⟩, fun hX => ?_⟩
      · rw [if_pos hX] at wo wn
        refine vc25_c3 _ _ _ _ _ _ _ _ _ _ _ _ _ _ _ _ _ _ _ _ _ _ _ ?_
        intro y1 hy1
        rw [gd _ h8] at hy1
        subst hy1
        refine ⟨fun h => h, fun h => h, fun hZ => ⟨rg, rg, ?_⟩, fun hZ => ?_⟩
        · refine vc25_c4 _ _ _ _ _ _ _ _ _ _ _ _ _ _ _ _ _ _ _ _ _ _ _ ⟨ir2, ?_⟩
          rw [f1 _ _ wo.symm 0, f1 _ _ wo.symm 1, f1 _ _ wo.symm 2, f1 _ _ wo.symm 3, f1 _ _ wo.symm 4, f1 _ _ wo.symm 5, f1 _ _ wo.symm 6, f1 _ _ wo.symm 7]
          rw [f1 _ _ wn.symm 0, f1 _ _ wn.symm 1, f1 _ _ wn.symm 2, f1 _ _ wn.symm 3, f1 _ _ wn.symm 4, f1 _ _ wn.symm 5, f1 _ _ wn.symm 6, f1 _ _ wn.symm 7]
          exact hN
        · rw [hX, hY] at hZ; cases hZ
      · rw [if_neg (by rw [hX]; decide)] at wo wn
        rw [if_neg (by rw [hY]; decide)] at wo
        refine vc25_c3 _ _ _ _ _ _ _ _ _ _ _ _ _ _ _ _ _ _ _ _ _ _ _ ?_
        intro y1 hy1
        refine ⟨fun h => h, fun h => h, fun hZ => ?_, fun hZ => ?_⟩
        · rw [hX] at hZ; cases hZ
        · refine vc25_c4 _ _ _ _ _ _ _ _ _ _ _ _ _ _ _ _ _ _ _ _ _ _ _ ⟨ir2, ?_⟩
          rw [f2 _ wo 0, f2 _ wo 1, f2 _ wo 2, f2 _ wo 3, f2 _ wo 4, f2 _ wo 5, f2 _ wo 6, f2 _ wo 7]
          rw [f2 _ wn 0, f2 _ wn 1, f2 _ wn 2, f2 _ wn 3, f2 _ wn 4, f2 _ wn 5, f2 _ wn 6, f2 _ wn 7]
          exact hN
  have ext : i < 8 → (named p.mask i = true → named q.mask i = true → byteAt p.new i.toNat = byteAt q.old i.toNat) → ∀ j : Nat, (j : Int) < i + 1 → named p.mask (j : Int) = true → named q.mask (j : Int) = true → byteAt p.new j = byteAt q.old j := by
    intro h8 h j hj hx hy
    by_cases hji : (j : Int) < i
    · exact hok j hji hx hy
    · have : (j : Int) = i := by omega
      have hj' : j = i.toNat := by omega
      subst hj'
      rw [this] at hx hy
      exact h hx hy
  (simp only [vcT, vcS])
  refine ⟨fun h8 => ⟨⟨rp.2.1, h1, by dsimp only; omega⟩, ⟨rq.2.1, h1, by dsimp only; omega⟩, fun _ => ⟨h1, by omega⟩, fun _ => ⟨h1, by omega⟩, fun hne => ?_, fun hk => ?_⟩, fun h8 => ?_⟩
  · rw [gd _ h8, gd _ h8] at hne
    have hc : comWok p q = false := by
      rw [← Bool.not_eq_true, comWok_iff rp rq]
      intro h
      have := h i.toNat (by omega) (by rw [ie]; exact hne.1.1) (by rw [ie]; exact hne.1.2)
      exact hne.2 this
    refine ends_eq (r' := .tup [(true, enc .wedit (⟨0, 0, 0, 0⟩ : WEdit)), (false, [.bool false])]) ?_ (by (repeat' (first | exact trivial | exact rfl | apply And.intro)))
    simp only [res25, comW]
    rw [hc]
    rfl
  · rw [gd _ h8, gd _ h8] at hk
    have hk' : named p.mask i = true → named q.mask i = true → byteAt p.new i.toNat = byteAt q.old i.toNat := by
      intro hx hy
      rcases hk with (h | h) | h
      · rw [hx] at h; cases h
      · rw [hy] at h; cases h
      · exact h
    have fin : ∀ m : Int, m = orM p.mask q.mask % 2 ^ (i + 1).toNat → ∃ j : Int, head25_0 p q (2 * 2 ^ i.toNat) m (i + 1) (st (wOld p q) (i + 1) 0) (st (wOld p q) (i + 1) 1) (st (wOld p q) (i + 1) 2) (st (wOld p q) (i + 1) 3) (st (wOld p q) (i + 1) 4) (st (wOld p q) (i + 1) 5) (st (wOld p q) (i + 1) 6) (st (wOld p q) (i + 1) 7) (st (wNew p q) (i + 1) 0) (st (wNew p q) (i + 1) 1) (st (wNew p q) (i + 1) 2) (st (wNew p q) (i + 1) 3) (st (wNew p q) (i + 1) 4) (st (wNew p q) (i + 1) 5) (st (wNew p q) (i + 1) 6) (st (wNew p q) (i + 1) 7) =
        head25_0 p q (2 ^ j.toNat) (orM p.mask q.mask % 2 ^ j.toNat) j (st (wOld p q) j 0) (st (wOld p q) j 1) (st (wOld p q) j 2) (st (wOld p q) j 3) (st (wOld p q) j 4) (st (wOld p q) j 5) (st (wOld p q) j 6) (st (wOld p q) j 7) (st (wNew p q) j 0) (st (wNew p q) j 1) (st (wNew p q) j 2) (st (wNew p q) j 3) (st (wNew p q) j 4) (st (wNew p q) j 5) (st (wNew p q) j 6) (st (wNew p q) j 7) ∧ ((0 ≤ j ∧ j ≤ 8) ∧ ∀ k : Nat, (k : Int) < j → named p.mask (k : Int) = true → named q.mask (k : Int) = true → byteAt p.new k = byteAt q.old k) ∧ (8 - j).toNat < (8 - i).toNat := by
      intro m hm
      refine ⟨i + 1, ?_, ⟨⟨by omega, by omega⟩, ext h8 hk'⟩, by omega⟩
      rw [bp, hm]
    have bm : 0 ≤ orM p.mask q.mask % 2 ^ i.toNat ∧ orM p.mask q.mask % 2 ^ i.toNat < 2 ^ i.toNat := ⟨Int.emod_nonneg _ (by omega), Int.emod_lt_of_pos _ (by omega)⟩
    refine ⟨fun hor => ⟨by unfold InR; omega, tl _ _ _ h8 (fin _ ?_)⟩, fun hno => tl _ _ _ h8 (fin _ ?_)⟩
    · rw [bs h8, orb, if_pos]
      rcases hor with h | h <;> rw [h] <;> simp
    · rw [bs h8, orb, if_neg]
      · omega
      · rw [hno.1, hno.2]; decide
  · have h8 : i = 8 := by omega
    subst h8
    have by_ : ∀ (w : Int) (j : Nat), 0 ≤ byteAt w j ∧ byteAt w j < 256 := fun w j => byteAt_range w j
    have z : (0 : Int) ≤ 0 ∧ (0 : Int) < 256 := by decide
    have ro : ∀ j, 0 ≤ wOld p q j ∧ wOld p q j < 256 := fun j => by unfold wOld; split; exact by_ _ _; split; exact by_ _ _; exact z
    have rn : ∀ j, 0 ≤ wNew p q j ∧ wNew p q j < 256 := fun j => by unfold wNew; split; exact by_ _ _; split; exact by_ _ _; exact z
    have all : ∀ (F : Nat → Int), (∀ j, 0 ≤ F j ∧ F j < 256) → ∀ x ∈ [st F 8 0, st F 8 1, st F 8 2, st F 8 3, st F 8 4, st F 8 5, st F 8 6, st F 8 7], 0 ≤ x ∧ x < 256 := by
      intro F hF x hx
      simp only [st] at hx
      simp at hx
      rcases hx with rfl | rfl | rfl | rfl | rfl | rfl | rfl | rfl <;> exact hF _
    have hc : comWok p q = true := (comWok_iff rp rq).2 fun j hj => hok j (by omega)
    refine ⟨⟨rfl, rfl, all _ ro⟩, ⟨rfl, rfl, all _ rn⟩, ?_⟩
    have e1 : (of8 fun j => [st (wOld p q) 8 0, st (wOld p q) 8 1, st (wOld p q) 8 2, st (wOld p q) 8 3, st (wOld p q) 8 4, st (wOld p q) 8 5, st (wOld p q) 8 6, st (wOld p q) 8 7].getD j 0) = mix q.old p.old p.mask := by
      refine of8_congr fun j hj => ?_
      rw [getD8 (st (wOld p q) 8) hj]
      simp only [st]
      rw [if_pos (by omega)]
      unfold wOld mixAt
      split
      · rfl
      · split
        · rfl
        · rename_i hn; exact (within_byte oq hj (by simpa using hn)).symm
    have e2 : (of8 fun j => [st (wNew p q) 8 0, st (wNew p q) 8 1, st (wNew p q) 8 2, st (wNew p q) 8 3, st (wNew p q) 8 4, st (wNew p q) 8 5, st (wNew p q) 8 6, st (wNew p q) 8 7].getD j 0) = mix p.new q.new q.mask := by
      refine of8_congr fun j hj => ?_
      rw [getD8 (st (wNew p q) 8) hj]
      simp only [st]
      rw [if_pos (by omega)]
      unfold wNew mixAt
      split
      · rfl
      · split
        · rfl
        · rename_i hn; exact (within_byte np hj (by simpa using hn)).symm
    have e3 : IntKind.u8.wrap (orM p.mask q.mask % 2 ^ (8 : Int).toNat) = orM p.mask q.mask := by
      rw [show (2 : Int) ^ (8 : Int).toNat = 256 from rfl, Int.emod_eq_of_lt om.1 om.2]
      exact wrap_u8 om.1 om.2
    rw [e1, e2, e3]
    refine ends_eq (r' := .tup [(true, enc .wedit (⟨p.at_, orM p.mask q.mask, mix q.old p.old p.mask, mix p.new q.new q.mask⟩ : WEdit)), (false, [.bool true])]) ?_ (by (repeat' (first | exact trivial | exact rfl | apply And.intro)))
    simp only [res25, comW]
    rw [hc]
    rfl
end Go.AM.Ytpjenobkibfpcaa

namespace Go.AM.Ytpjenobkibfpcaa
open Go.AM Go.Proofs
def args20 : ArgL (Unit) := .nil
def pre20 (a : Unit) : Prop := True
noncomputable def res20 (a : Unit) : V U := .c (.bool true)
noncomputable def spec20 : Fs U := fs args20 (fun a => [pre20 a]) res20
def args5 : ArgL (WEdit × WEdit × Unit) := (.cons (aEl .wedit) (.cons (aEl .wedit) .nil))
def pre5 (a : WEdit × WEdit × Unit) : Prop := rngW a.1 ∧ rngW a.2.1
noncomputable def res5 (a : WEdit × WEdit × Unit) : V U := .c (.bool true)
noncomputable def spec5 : Fs U := fs args5 (fun a => [pre5 a]) res5
noncomputable def know20 : List (FuncId × Fs U) := [(21, spec21)]
def lv20 : Lives U := fun i => match i with
  | 0 => ([], [])
  | 1 => ([(1, [])], [])
  | 2 => ([(1, []), (2, [])], [((.loc 2), [])])
  | 3 => ([(2, []), (3, [])], [((.loc 2), []), ((.loc 3), [])])
  | 4 => ([(4, []), (5, [])], [((.loc 4), [])])
  | 5 => ([(0, [])], [])
  | _ => ([], [])
noncomputable abbrev A20 (p : List Nat) := awp cfg (know know20) (drawOk cfg (know know20)) Try.f20.ntmps lv20 (cd Try.f20 p)
theorem vc20 (Q : AExit → LSt U → Prop) (h : ∀ y_1, y_1 = (Edit.mk 0 (Tree.mk 0 ([]) ([])) (Tree.mk 0 ([]) ([])) ([]) ([]) 0 ([])) → ∀ y_2, y_2 = (Edit.mk 3 (Tree.mk 0 ([]) ([])) (Tree.mk 0 ([]) ([])) ([]) ([]) 4 ([(OpOf.mk 1 0 ([(Tree.mk 10 ([1]) ([]))]) y_1), (OpOf.mk 0 1 ([]) y_1)])) → ∀ y_3, y_3 = (Edit.mk 3 (Tree.mk 0 ([]) ([])) (Tree.mk 0 ([]) ([])) ([]) ([]) 4 ([(OpOf.mk 2 0 ([(Tree.mk 10 ([1]) ([]))]) y_1), (OpOf.mk 0 1 ([]) y_1)])) → ∀ y_4, y_4 = (List.getD (Edit.ops ((comN y_3 y_2).1)) (Int.toNat 0) Op.nil) → (((((pre21 (y_3, y_2, ())) ∧ ((Tr (((comN y_3 y_2).2) = true)) ∧ (Tr (((comN y_3 y_2).2) = true)) ∧ ((Tr (((comN y_3 y_2).2) = true))) ∧ (Tr ((bif ((comN y_3 y_2).2) then (((Edit.kind ((comN y_3 y_2).1)) : Int) == 3) else false) = true)) ∧ (Tr ((bif ((comN y_3 y_2).2) then (((Edit.kind ((comN y_3 y_2).1)) : Int) == 3) else false) = true)) ∧ (Tr ((bif ((comN y_3 y_2).2) then (((Edit.kind ((comN y_3 y_2).1)) : Int) == 3) else false) = true)) ∧ ((Tr ((bif ((comN y_3 y_2).2) then (((Edit.kind ((comN y_3 y_2).1)) : Int) == 3) else false) = true))) ∧ (Tr ((bif (bif ((comN y_3 y_2).2) then (((Edit.kind ((comN y_3 y_2).1)) : Int) == 3) else false) then ((((Edit.ops ((comN y_3 y_2).1)).length : Int) : Int) == 1) else false) = true)) ∧ (Tr ((bif (bif ((comN y_3 y_2).2) then (((Edit.kind ((comN y_3 y_2).1)) : Int) == 3) else false) then ((((Edit.ops ((comN y_3 y_2).1)).length : Int) : Int) == 1) else false) = true)) ∧ ((bif (bif ((comN y_3 y_2).2) then (((Edit.kind ((comN y_3 y_2).1)) : Int) == 3) else false) then ((((Edit.ops ((comN y_3 y_2).1)).length : Int) : Int) == 1) else false) = true → (0 : Int) ≤ 0 ∧ 0 < ((Edit.ops ((comN y_3 y_2).1)).length : Int)) ∧ (Tr ((bif (bif ((comN y_3 y_2).2) then (((Edit.kind ((comN y_3 y_2).1)) : Int) == 3) else false) then ((((Edit.ops ((comN y_3 y_2).1)).length : Int) : Int) == 1) else false) = true)) ∧ (Tr ((bif (bif ((comN y_3 y_2).2) then (((Edit.kind ((comN y_3 y_2).1)) : Int) == 3) else false) then ((((Edit.ops ((comN y_3 y_2).1)).length : Int) : Int) == 1) else false) = true)) ∧ (Tr ((bif (bif ((comN y_3 y_2).2) then (((Edit.kind ((comN y_3 y_2).1)) : Int) == 3) else false) then ((((Edit.ops ((comN y_3 y_2).1)).length : Int) : Int) == 1) else false) = true)) ∧ ((Tr ((bif (bif ((comN y_3 y_2).2) then (((Edit.kind ((comN y_3 y_2).1)) : Int) == 3) else false) then ((((Edit.ops ((comN y_3 y_2).1)).length : Int) : Int) == 1) else false) = true))) ∧ (Tr ((bif (bif (bif ((comN y_3 y_2).2) then (((Edit.kind ((comN y_3 y_2).1)) : Int) == 3) else false) then ((((Edit.ops ((comN y_3 y_2).1)).length : Int) : Int) == 1) else false) then (((OpOf.kind y_4) : Int) == 0) else false) = true)) ∧ (Tr ((bif (bif (bif ((comN y_3 y_2).2) then (((Edit.kind ((comN y_3 y_2).1)) : Int) == 3) else false) then ((((Edit.ops ((comN y_3 y_2).1)).length : Int) : Int) == 1) else false) then (((OpOf.kind y_4) : Int) == 0) else false) = true)) ∧ ((bif (bif (bif ((comN y_3 y_2).2) then (((Edit.kind ((comN y_3 y_2).1)) : Int) == 3) else false) then ((((Edit.ops ((comN y_3 y_2).1)).length : Int) : Int) == 1) else false) then (((OpOf.kind y_4) : Int) == 0) else false) = true → (0 : Int) ≤ 0 ∧ 0 < ((Edit.ops ((comN y_3 y_2).1)).length : Int)) ∧ (Tr ((bif (bif (bif ((comN y_3 y_2).2) then (((Edit.kind ((comN y_3 y_2).1)) : Int) == 3) else false) then ((((Edit.ops ((comN y_3 y_2).1)).length : Int) : Int) == 1) else false) then (((OpOf.kind y_4) : Int) == 0) else false) = true)) ∧ (Tr ((bif (bif (bif ((comN y_3 y_2).2) then (((Edit.kind ((comN y_3 y_2).1)) : Int) == 3) else false) then ((((Edit.ops ((comN y_3 y_2).1)).length : Int) : Int) == 1) else false) then (((OpOf.kind y_4) : Int) == 0) else false) = true)) ∧ (Tr ((bif (bif (bif ((comN y_3 y_2).2) then (((Edit.kind ((comN y_3 y_2).1)) : Int) == 3) else false) then ((((Edit.ops ((comN y_3 y_2).1)).length : Int) : Int) == 1) else false) then (((OpOf.kind y_4) : Int) == 0) else false) = true)) ∧ ((Tr ((bif (bif (bif ((comN y_3 y_2).2) then (((Edit.kind ((comN y_3 y_2).1)) : Int) == 3) else false) then ((((Edit.ops ((comN y_3 y_2).1)).length : Int) : Int) == 1) else false) then (((OpOf.kind y_4) : Int) == 0) else false) = true))) ∧ (Q .ret (⟨[(0, .c (.bool (bif (bif (bif (bif ((comN y_3 y_2).2) then (((Edit.kind ((comN y_3 y_2).1)) : Int) == 3) else false) then ((((Edit.ops ((comN y_3 y_2).1)).length : Int) : Int) == 1) else false) then (((OpOf.kind y_4) : Int) == 0) else false) then (((OpOf.n y_4) : Int) == 1) else false)))], [], []⟩ : LSt U)))))))) :
    A20 [] (⟨[], [], []⟩ : LSt U) Q :=
  Eq.mpr (by kernel_rfl) (h _ rfl _ rfl _ rfl _ rfl)
def Body20  : Prop := awp cfg (know (know20)) (drawOk cfg (know (know20))) Try.f20.ntmps lv20 (cd Try.f20 []) (entry (args20.can (())) []) (EndsQ cfg Try.f20.ntmps Try.f20.results.toList (res20 (())) [])
theorem make20 (c21 : Contract Try.prog cfg 21 spec21) (hb : ∀ (_ : Unit), pre20 (()) → Body20 ) : Contract Try.prog cfg 20 spec20 :=
  contract_flat (l := [(21, spec21)]) cfgOk rfl (⟨c21, trivial⟩) lv20 Try.func20 rfl rfl 0 (fun _ => rfl) (by decide) (fun _ => hb  ())
noncomputable def know5 : List (FuncId × Fs U) := [(23, spec23), (20, spec20), (24, spec24), (25, spec25)]
def lv5 : Lives U := fun i => match i with
  | 0 => ([(2, []), (3, [])], [((.loc 2), []), ((.loc 3), [])])
  | 1 => ([(2, []), (3, [])], [((.loc 2), []), ((.loc 3), [])])
  | 2 => ([(2, []), (3, []), (23, [])], [((.loc 2), []), ((.loc 3), [])])
  | 3 => ([(4, [])], [])
  | 4 => ([(2, []), (3, []), (5, []), (6, [])], [((.loc 2), []), ((.loc 3), []), ((.loc 5), [])])
  | 5 => ([(5, []), (6, []), (7, []), (8, [])], [((.loc 5), []), ((.loc 7), [])])
  | 6 => ([(4, [])], [])
  | _ => ([], [])
noncomputable abbrev A5 (p : List Nat) := awp cfg (know know5) (drawOk cfg (know know5)) Try.f5.ntmps lv5 (cd Try.f5 p)
theorem vc5 (p : WEdit) (q : WEdit) (Q : AExit → LSt U → Prop) (h : ∀ y_1, y_1 = (p) → ∀ y_2, y_2 = (WEdit.mk (WEdit.at_ p) (WEdit.mask q) (WEdit.old q) (WEdit.new q)) → ∀ y_3, y_3 = (Edit.mk 2 (Tree.mk 0 ([]) ([])) (Tree.mk 0 ([]) ([])) ([y_1]) ([]) 0 ([])) → ∀ y_4, y_4 = (Edit.mk 2 (Tree.mk 0 ([]) ([])) (Tree.mk 0 ([]) ([])) ([y_2]) ([]) 0 ([])) → (((pre23 (y_3, 64, ())) ∧ (Tr ((!(!(rightE y_3 64))) = true)) ∧ (Tr ((!(!(rightE y_3 64))) = true)) ∧ (Tr ((!(!(rightE y_3 64))) = true)) ∧ ((!(!(rightE y_3 64))) = true → pre23 (y_4, 64, ())) ∧ (Tr ((!(!(rightE y_3 64))) = true)) ∧ (((!(rightE y_3 64)) = false → (!(!(rightE y_3 64))) = true)) ∧ (((bif (!(rightE y_3 64)) then true else (!(rightE y_4 64))) = true → (pre20 (())) ∧ (Q .ret (⟨[(4, .c (.bool true))], [], []⟩ : LSt U))) ∧ ((bif (!(rightE y_3 64)) then true else (!(rightE y_4 64))) = false → (pre24 (y_1, y_2, ())) ∧ ((pre25 (y_1, y_2, ())) ∧ ((Tr ((((comW y_1 y_2).2) == ((comW y_1 y_2).2)) = true)) ∧ (Tr ((((comW y_1 y_2).2) == ((comW y_1 y_2).2)) = true)) ∧ ((Tr ((((comW y_1 y_2).2) == ((comW y_1 y_2).2)) = true))) ∧ ((bif (((comW y_1 y_2).2) == ((comW y_1 y_2).2)) then ((((WEdit.at_ ((comW y_1 y_2).1)) : Int) == (WEdit.at_ ((comW y_1 y_2).1))) && ((((WEdit.mask ((comW y_1 y_2).1)) : Int) == (WEdit.mask ((comW y_1 y_2).1))) && ((((WEdit.old ((comW y_1 y_2).1)) : Int) == (WEdit.old ((comW y_1 y_2).1))) && ((((WEdit.new ((comW y_1 y_2).1)) : Int) == (WEdit.new ((comW y_1 y_2).1))) && true)))) else false) = true → pre20 (())) ∧ ((Tr ((bif (((comW y_1 y_2).2) == ((comW y_1 y_2).2)) then ((((WEdit.at_ ((comW y_1 y_2).1)) : Int) == (WEdit.at_ ((comW y_1 y_2).1))) && ((((WEdit.mask ((comW y_1 y_2).1)) : Int) == (WEdit.mask ((comW y_1 y_2).1))) && ((((WEdit.old ((comW y_1 y_2).1)) : Int) == (WEdit.old ((comW y_1 y_2).1))) && ((((WEdit.new ((comW y_1 y_2).1)) : Int) == (WEdit.new ((comW y_1 y_2).1))) && true)))) else false) = true))) ∧ (Q .ret (⟨[(4, .c (.bool (bif (bif (((comW y_1 y_2).2) == ((comW y_1 y_2).2)) then ((((WEdit.at_ ((comW y_1 y_2).1)) : Int) == (WEdit.at_ ((comW y_1 y_2).1))) && ((((WEdit.mask ((comW y_1 y_2).1)) : Int) == (WEdit.mask ((comW y_1 y_2).1))) && ((((WEdit.old ((comW y_1 y_2).1)) : Int) == (WEdit.old ((comW y_1 y_2).1))) && ((((WEdit.new ((comW y_1 y_2).1)) : Int) == (WEdit.new ((comW y_1 y_2).1))) && true)))) else false) then true else false)))], [], []⟩ : LSt U))))))))) :
    A5 [] (⟨[(0, .agg [.int .i64 (WEdit.at_ p), .int .u8 (WEdit.mask p), .int .u64 (WEdit.old p), .int .u64 (WEdit.new p)]), (1, .agg [.int .i64 (WEdit.at_ q), .int .u8 (WEdit.mask q), .int .u64 (WEdit.old q), .int .u64 (WEdit.new q)])], [], []⟩ : LSt U) Q :=
  Eq.mpr (by kernel_rfl) (h _ (reWedit_eq _) _ rfl _ rfl _ rfl)
def Body5 (p : WEdit) (q : WEdit)  : Prop := awp cfg (know (know5)) (drawOk cfg (know (know5))) Try.f5.ntmps lv5 (cd Try.f5 []) (entry (args5.can (p, q, ())) []) (EndsQ cfg Try.f5.ntmps Try.f5.results.toList (res5 (p, q, ())) [])
theorem make5 (c23 : Contract Try.prog cfg 23 spec23) (c20 : Contract Try.prog cfg 20 spec20) (c24 : Contract Try.prog cfg 24 spec24) (c25 : Contract Try.prog cfg 25 spec25) (hb : ∀ (p : WEdit) (q : WEdit) (_ : Unit), pre5 (p, q, ()) → Body5 p q) : Contract Try.prog cfg 5 spec5 :=
  contract_flat (l := [(23, spec23), (20, spec20), (24, spec24), (25, spec25)]) cfgOk rfl (⟨c23, c20, c24, c25, trivial⟩) lv5 Try.func5 rfl rfl 2 (fun _ => rfl) (by decide) (fun ⟨p, q, _⟩ => hb p q ())
end Go.AM.Ytpjenobkibfpcaa

namespace Go.AM.Ytpjenobkibfpcaa
open Go.AM Go.Proofs
def atom1 : Tree := .mk 10 [1] []
def insDel (k : Int) : Edit := .mk 3 Tree.nil Tree.nil [] [] 4 [⟨k, 0, [atom1], Edit.nil⟩, ⟨0, 1, [], Edit.nil⟩]
theorem insDel_right (k : Int) (h : k = 1 ∨ k = 2) : rightE (insDel k) 64 = true := by rcases h with rfl | rfl <;> rfl
theorem insDel_rng (k : Int) (h : k = 1 ∨ k = 2) : rngE (insDel k) := by
  have z := rng_nilT'
  have i0 : isI 0 := isI_n (by decide) (by decide)
  have zn : rngE Edit.nil := ⟨i0, z, z, by simp, i0, trivial, trivial⟩
  refine ⟨isI_n (by decide) (by decide), z, z, by simp, isI_n (by decide) (by decide), trivial, ⟨?_, i0, ⟨⟨by decide, ?_, trivial⟩, trivial⟩, zn⟩, ⟨i0, isI_n (by decide) (by decide), trivial, zn⟩, trivial⟩
  · unfold isI; omega
  · intro x hx
    rw [List.mem_singleton.1 hx]; decide
theorem insDel_com : comN (insDel 2) (insDel 1) = (.mk 3 Tree.nil Tree.nil [] [] 4 [⟨0, 1, [], Edit.nil⟩], true) := by
  have hp : pairG 1 2 (insDel 2).ops (insDel 1).ops [] = ([⟨0, ⟨2, 0, [atom1], Edit.nil⟩, ⟨1, 0, [atom1], Edit.nil⟩⟩, ⟨0, ⟨0, 1, [], Edit.nil⟩, ⟨0, 1, [], Edit.nil⟩⟩], true, [], []) := by
    have e1 : ∀ k, (insDel k).ops = [⟨k, 0, [atom1], Edit.nil⟩, ⟨0, 1, [], Edit.nil⟩] := fun _ => rfl
    rw [e1, e1, pairG, dif_neg (by simp [sgl]), dif_neg (by simp [sgl]), dif_neg (by simp)]
    simp only [List.getD_cons_zero, opLen]
    simp only [takeF, takeR, opLen]
    simp
    rw [pairG, dif_neg (by simp [sgl]), dif_neg (by simp [sgl]), dif_neg (by simp)]
    simp [takeF, takeR, opLen]
    rw [pairG, dif_neg (by simp [sgl]), dif_neg (by simp [sgl]), dif_pos (by simp)]
    simp
  have hc : comE (insDel 2) (insDel 1) = (.mk 3 Tree.nil Tree.nil [] [] 4 [⟨0, 1, [], Edit.nil⟩], true) := by
    rw [comE_step (insDel_right 2 (.inr rfl)) (insDel_right 1 (.inl rfl))]
    have hco : comOs comE (insDel 2).ops (insDel 1).ops = some [⟨0, 1, [], Edit.nil⟩] := by
      unfold comOs
      rw [hp, if_pos rfl]
      have c1 : comP comE ⟨0, ⟨2, 0, [atom1], Edit.nil⟩, ⟨1, 0, [atom1], Edit.nil⟩⟩ = ⟨Op.nil, false, true⟩ := by
        unfold comP
        rw [if_neg (by simp), if_neg (by simp), if_pos (by simp)]
        congr 1
        exact eqvL_yes rfl
      have c2 : comP comE ⟨0, ⟨0, 1, [], Edit.nil⟩, ⟨0, 1, [], Edit.nil⟩⟩ = ⟨⟨0, 1, [], Edit.nil⟩, true, true⟩ := by
        unfold comP
        rw [if_pos (by simp)]
      rw [comPs, c1, if_pos rfl, comPs, c2, if_pos rfl, comPs]
      rfl
    unfold comStep
    have k : ∀ n, (insDel n).kind = 3 ∧ (insDel n).list = 4 := fun _ => ⟨rfl, rfl⟩
    rw [if_neg (by rw [(k 2).1]; decide), if_neg (by rw [(k 1).1]; decide), if_neg (by rw [(k 2).1]; decide), if_neg (by rw [(k 1).1]; decide), if_neg (by rw [(k 1).1, (k 2).1, (k 1).2, (k 2).2]; decide), if_neg (by rw [(k 2).1]; decide), hco]
    rfl
  unfold comN
  rw [hc, if_pos rfl, nrmE_3]
  rfl
theorem reOk_ins (k : Int) (h : k = 1 ∨ k = 2) : reOk (insDel k) := ⟨by show ctE (insDel k) ≤ _; simp [ctE, ctKs, ctOs, ctOp, insDel, mass, massK, Tree.nil, Edit.nil, atom1], insDel_rng k h, 64, insDel_right k h⟩
theorem c20 : Contract Try.prog cfg 20 spec20 := by
  refine make20 c21 ?_
  intro _ _
  refine vc20 _ ?_
  intro y1 h1 y2 h2 y3 h3 y4 h4
  have e1 : y1 = Edit.nil := h1
  subst e1
  have e2 : y2 = insDel 1 := h2
  have e3 : y3 = insDel 2 := h3
  subst e2 e3
  rw [insDel_com] at h4 ⊢
  have e4 : y4 = ⟨0, 1, [], Edit.nil⟩ := h4
  subst e4
  refine ⟨⟨reOk_ins 2 (.inr rfl), reOk_ins 1 (.inl rfl)⟩, ?_⟩
  simp only [Tr]
  repeat' (first | exact (fun x => x) | exact (fun _ => ⟨by decide, by decide⟩) | exact ends_bool rfl rfl | apply And.intro)
theorem c5 : Contract Try.prog cfg 5 spec5 := by
  refine make5 c23_90.1 c20 c24 c25 ?_
  intro p q _ hp
  refine vc5 _ _ _ ?_
  intro y1 h1 y2 h2 y3 h3 y4 h4
  have z := rng_nilT'
  have i0 : isI 0 := isI_n (by decide) (by decide)
  have ew : ∀ w : WEdit, rngW w → pre23 (Edit.mk 2 (Tree.mk 0 [] []) (Tree.mk 0 [] []) [w] [] 0 [], 64, ()) := by
    intro w hw
    exact ⟨⟨by simp [massE, mass, massK, massKs, massOs], isI_n (by decide) (by decide), z, z, fun x hx => by rw [List.mem_singleton.1 hx]; exact hw, i0, trivial, trivial⟩, by dsimp only; omega, by dsimp only; omega⟩
  have r1 : rngW y1 := by rw [h1]; exact hp.1
  have r2 : rngW y2 := by rw [h2]; exact ⟨hp.1.1, hp.2.2⟩
  (simp only [vcT, vcS])
  refine ⟨by rw [h3]; exact ew _ r1, fun _ => by rw [h4]; exact ew _ r2, fun _ => ⟨trivial, ends_bool rfl rfl⟩, fun hr => ?_⟩
  have wk : ∀ {w : WEdit} {e : Edit}, e = Edit.mk 2 (Tree.mk 0 [] []) (Tree.mk 0 [] []) [w] [] 0 [] → rightE e 64 = true → rngW w → wOk w := by
    intro w e he hr hw
    have a := wordsOk_all (rightE_all hr).words w (by rw [he]; simp)
    exact ⟨hw, a.2.2.2.1, a.2.2.2.2⟩
  refine ⟨⟨r1, r2⟩, ⟨wk h3 hr.1 r1, wk h4 hr.2 r2⟩, trivial, ends_bool rfl ?_⟩
  simp
end Go.AM.Ytpjenobkibfpcaa
