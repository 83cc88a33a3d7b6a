/- Printed by program: what is known of each function, and the conditions that its code comes to. -/
import Derived.Test.YtlahjnelghpmeaaM07
set_option linter.unusedSimpArgs false
set_option linter.unusedVariables false
namespace Go.AM.Ytlahjnelghpmeaa
open Go.AM Go.Proofs

def args124 : ArgL (List Tree × Unit) := (.cons (aSl .tree) .nil)
def pre124 (a : List Tree × Unit) : Prop := massK a.1 ≤ 1000000
noncomputable def res124 (a : List Tree × Unit) : V U := .c (.slice (U := U) .tree (normsT a.1) .unk)
noncomputable def spec124 : Fs U := fs args124 (fun a => [pre124 a]) res124

def args108 : ArgL (List Op × Int × Int × Unit) := (.cons (aSl .op) (.cons (aInt .i64) (.cons (aInt .i64) .nil)))
def pre108 (a : List Op × Int × Int × Unit) : Prop := massOs a.1 ≤ 1000000 ∧ 0 ≤ a.2.1 ∧ a.2.1 ≤ (a.1).length
noncomputable def res108 (a : List Op × Int × Int × Unit) : V U := .tup [(false, [.slice (U := U) .tree (gapT a.2.2.1 ((a.1).drop (a.2.1).toNat)) .unk]), (false, [.int .i64 (a.2.1 + gapN ((a.1).drop (a.2.1).toNat))])]
noncomputable def spec108 : Fs U := fs args108 (fun a => [pre108 a]) res108

def args79 : ArgL (Edit × Unit) := (.cons (aEl .edit) .nil)
def pre79 (a : Edit × Unit) : Prop := massE a.1 ≤ 1000000
def mu79 (a : Edit × Unit) : Nat := 2 * massE a.1
noncomputable def res79 (a : Edit × Unit) : V U := .agg [.int .i64 (Edit.kind (turnE a.1)), .int .i64 (Tree.kind (Edit.old (turnE a.1))), .slice (U := U) .u64 (Tree.words (Edit.old (turnE a.1))) .unk, .slice (U := U) .tree (Tree.kids (Edit.old (turnE a.1))) .unk, .int .i64 (Tree.kind (Edit.new (turnE a.1))), .slice (U := U) .u64 (Tree.words (Edit.new (turnE a.1))) .unk, .slice (U := U) .tree (Tree.kids (Edit.new (turnE a.1))) .unk, .slice (U := U) .wedit (Edit.words (turnE a.1)) .unk, .slice (U := U) .kid (Edit.kids (turnE a.1)) .unk, .int .i64 (Edit.list (turnE a.1)), .slice (U := U) .op (Edit.ops (turnE a.1)) .unk]
noncomputable def spec79 : Fs U := fs args79 (fun a => [pre79 a]) res79

def args110 : ArgL (Op × Unit) := (.cons (aEl .op) .nil)
def pre110 (a : Op × Unit) : Prop := massOp a.1 ≤ 1000000
def mu110 (a : Op × Unit) : Nat := 2 * massOp a.1 + 1
noncomputable def res110 (a : Op × Unit) : V U := .agg [.int .i64 (OpOf.kind (turnOp a.1)), .int .i64 (OpOf.n (turnOp a.1)), .slice (U := U) .tree (OpOf.l (turnOp a.1)) .unk, .int .i64 (Edit.kind (OpOf.e (turnOp a.1))), .int .i64 (Tree.kind (Edit.old (OpOf.e (turnOp a.1)))), .slice (U := U) .u64 (Tree.words (Edit.old (OpOf.e (turnOp a.1)))) .unk, .slice (U := U) .tree (Tree.kids (Edit.old (OpOf.e (turnOp a.1)))) .unk, .int .i64 (Tree.kind (Edit.new (OpOf.e (turnOp a.1)))), .slice (U := U) .u64 (Tree.words (Edit.new (OpOf.e (turnOp a.1)))) .unk, .slice (U := U) .tree (Tree.kids (Edit.new (OpOf.e (turnOp a.1)))) .unk, .slice (U := U) .wedit (Edit.words (OpOf.e (turnOp a.1))) .unk, .slice (U := U) .kid (Edit.kids (OpOf.e (turnOp a.1))) .unk, .int .i64 (Edit.list (OpOf.e (turnOp a.1))), .slice (U := U) .op (Edit.ops (OpOf.e (turnOp a.1))) .unk]
noncomputable def spec110 : Fs U := fs args110 (fun a => [pre110 a]) res110

noncomputable def know124 : List (FuncId × Fs U) := [(31, spec31)]
def lv124 : Lives U := fun i => match i with
  | 0 => ([(0, [])], [])
  | 1 => ([(0, []), (3, [])], [])
  | 2 => ([(0, []), (3, [.own .tree]), (4, [])], [])
  | 3 => ([(0, []), (3, []), (4, []), (8, [])], [])
  | 4 => ([(0, []), (3, [.own .tree]), (4, [])], [])
  | 5 => ([(0, []), (3, []), (4, [])], [])
  | 6 => ([(2, [])], [])
  | _ => ([], [])
def head124_0 (l : List Tree) (x4 : Int) (x3 : List Tree) : LSt U := (⟨[(0, .c (.slice (U := U) .tree l .unk)), (3, .c (.slice (U := U) .tree x3 (.own (.e 3 0)))), (4, .c (.int .i64 x4))], [], []⟩ : LSt U)
abbrev W124 (l : List Tree) (Q : AExit → LSt U → Prop) : Prop := awp cfg (know know124) (drawOk cfg (know know124)) Try.f124.ntmps lv124 (cd Try.f124 []) (⟨[(0, .c (.slice (U := U) .tree l .unk))], [], []⟩ : LSt U) Q
theorem vc124 (l : List Tree) (Q : AExit → LSt U → Prop) (h : LoopWp (awp cfg (know know124) (drawOk cfg (know know124)) Try.f124.ntmps lv124 (cd Try.f124 [1, 1, 0, 1, 0, 0])) (head124_0 l 0 ([])) (AExit.inBlock 0 (seqK cfg (know know124) (drawOk cfg (know know124)) Try.f124.ntmps lv124 (cd Try.f124 [1, 1, 1]) Q))) :
    W124 l Q := by
  have e_ : (W124 l Q) = ((((LoopWp (awp cfg (know know124) (drawOk cfg (know know124)) Try.f124.ntmps lv124 (cd Try.f124 [1, 1, 0, 1, 0, 0])) (head124_0 l 0 ([])) (AExit.inBlock 0 (seqK cfg (know know124) (drawOk cfg (know know124)) Try.f124.ntmps lv124 (cd Try.f124 [1, 1, 1]) Q)))))) := by kernel_rfl
  exact e_.mpr h
abbrev W124_l0 (l : List Tree) (x4 : Int) (x3 : List Tree) (N0 : LSt U → Prop) (Q : AExit → LSt U → Prop) : Prop := awp cfg (know know124) (drawOk cfg (know know124)) Try.f124.ntmps lv124 (cd Try.f124 [1, 1, 0, 1, 0, 0]) (head124_0 l x4 x3) (AExit.then N0 (AExit.inBlock 0 (seqK cfg (know know124) (drawOk cfg (know know124)) Try.f124.ntmps lv124 (cd Try.f124 [1, 1, 1]) Q)))
theorem vc124_l0 (l : List Tree) (x4 : Int) (x3 : List Tree) (N0 : LSt U → Prop) (Q : AExit → LSt U → Prop) (h : ((decide ((x4 : Int) < (l.length : Int))) = true → ((0 : Int) ≤ x4 ∧ x4 < (l.length : Int)) ∧ (pre31 ((Tree.mk (Tree.kind (List.getD l (Int.toNat x4) Tree.nil)) (Tree.words (List.getD l (Int.toNat x4) Tree.nil)) (Tree.kids (List.getD l (Int.toNat x4) Tree.nil))), ())) ∧ ((x3.length + ([(Tree.mk (Tree.kind (normT (Tree.mk (Tree.kind (List.getD l (Int.toNat x4) Tree.nil)) (Tree.words (List.getD l (Int.toNat x4) Tree.nil)) (Tree.kids (List.getD l (Int.toNat x4) Tree.nil))))) (Tree.words (normT (Tree.mk (Tree.kind (List.getD l (Int.toNat x4) Tree.nil)) (Tree.words (List.getD l (Int.toNat x4) Tree.nil)) (Tree.kids (List.getD l (Int.toNat x4) Tree.nil))))) (Tree.kids (normT (Tree.mk (Tree.kind (List.getD l (Int.toNat x4) Tree.nil)) (Tree.words (List.getD l (Int.toNat x4) Tree.nil)) (Tree.kids (List.getD l (Int.toNat x4) Tree.nil))))))]).length) * 56 ≤ 140737488355328) ∧ ((InR ((x4 : Int) + 1)) ∧ (N0 (head124_0 l ((x4 : Int) + 1) (x3 ++ ([(Tree.mk (Tree.kind (normT (Tree.mk (Tree.kind (List.getD l (Int.toNat x4) Tree.nil)) (Tree.words (List.getD l (Int.toNat x4) Tree.nil)) (Tree.kids (List.getD l (Int.toNat x4) Tree.nil))))) (Tree.words (normT (Tree.mk (Tree.kind (List.getD l (Int.toNat x4) Tree.nil)) (Tree.words (List.getD l (Int.toNat x4) Tree.nil)) (Tree.kids (List.getD l (Int.toNat x4) Tree.nil))))) (Tree.kids (normT (Tree.mk (Tree.kind (List.getD l (Int.toNat x4) Tree.nil)) (Tree.words (List.getD l (Int.toNat x4) Tree.nil)) (Tree.kids (List.getD l (Int.toNat x4) Tree.nil))))))])))))) ∧ ((decide ((x4 : Int) < (l.length : Int))) = false → Q .ret (⟨[(2, .c (.slice (U := U) .tree x3 (.own (.e 2 0))))], [], []⟩ : LSt U))) :
    W124_l0 l x4 x3 N0 Q := by
  have e_ : (W124_l0 l x4 x3 N0 Q) = ((((decide ((x4 : Int) < (l.length : Int))) = true → ((0 : Int) ≤ x4 ∧ x4 < (l.length : Int)) ∧ (pre31 ((Tree.mk (Tree.kind (List.getD l (Int.toNat x4) Tree.nil)) (Tree.words (List.getD l (Int.toNat x4) Tree.nil)) (Tree.kids (List.getD l (Int.toNat x4) Tree.nil))), ())) ∧ ((x3.length + ([(Tree.mk (Tree.kind (normT (Tree.mk (Tree.kind (List.getD l (Int.toNat x4) Tree.nil)) (Tree.words (List.getD l (Int.toNat x4) Tree.nil)) (Tree.kids (List.getD l (Int.toNat x4) Tree.nil))))) (Tree.words (normT (Tree.mk (Tree.kind (List.getD l (Int.toNat x4) Tree.nil)) (Tree.words (List.getD l (Int.toNat x4) Tree.nil)) (Tree.kids (List.getD l (Int.toNat x4) Tree.nil))))) (Tree.kids (normT (Tree.mk (Tree.kind (List.getD l (Int.toNat x4) Tree.nil)) (Tree.words (List.getD l (Int.toNat x4) Tree.nil)) (Tree.kids (List.getD l (Int.toNat x4) Tree.nil))))))]).length) * 56 ≤ 140737488355328) ∧ ((InR ((x4 : Int) + 1)) ∧ (N0 (head124_0 l ((x4 : Int) + 1) (x3 ++ ([(Tree.mk (Tree.kind (normT (Tree.mk (Tree.kind (List.getD l (Int.toNat x4) Tree.nil)) (Tree.words (List.getD l (Int.toNat x4) Tree.nil)) (Tree.kids (List.getD l (Int.toNat x4) Tree.nil))))) (Tree.words (normT (Tree.mk (Tree.kind (List.getD l (Int.toNat x4) Tree.nil)) (Tree.words (List.getD l (Int.toNat x4) Tree.nil)) (Tree.kids (List.getD l (Int.toNat x4) Tree.nil))))) (Tree.kids (normT (Tree.mk (Tree.kind (List.getD l (Int.toNat x4) Tree.nil)) (Tree.words (List.getD l (Int.toNat x4) Tree.nil)) (Tree.kids (List.getD l (Int.toNat x4) Tree.nil))))))])))))) ∧ ((decide ((x4 : Int) < (l.length : Int))) = false → (Q .ret (⟨[(2, .c (.slice (U := U) .tree x3 (.own (.e 2 0))))], [], []⟩ : LSt U))))) := by kernel_rfl
  exact e_.mpr ⟨fun c_1 => ⟨(h.1 c_1).1, (h.1 c_1).2.1, (h.1 c_1).2.2.1, ⟨(h.1 c_1).2.2.2.1, (h.1 c_1).2.2.2.2⟩⟩, fun c_1 => (h.2 c_1)⟩
def Body124 (l : List Tree)  : Prop := awp cfg (know (know124)) (drawOk cfg (know (know124))) Try.f124.ntmps lv124 (cd Try.f124 []) (entry (args124.can (l, ())) []) (EndsQ cfg Try.f124.ntmps Try.f124.results.toList (res124 (l, ())) [])
theorem make124 (c31 : Contract Try.prog cfg 31 spec31) (hb : ∀ (l : List Tree) (_ : Unit), pre124 (l, ()) → Body124 l) : Contract Try.prog cfg 124 spec124 :=
  contract_flat (l := [(31, spec31)]) cfgOk rfl (⟨c31, trivial⟩) lv124 Try.func124 rfl rfl 1 (fun _ => rfl) (by decide) (fun ⟨l, _⟩ => hb l ())

noncomputable def know108 : List (FuncId × Fs U) := [(124, spec124)]
def lv108 : Lives U := fun i => match i with
  | 0 => ([(0, []), (1, []), (2, [])], [])
  | 1 => ([(0, []), (1, []), (2, []), (8, [])], [])
  | 2 => ([(0, []), (2, []), (8, [.own .tree]), (9, [])], [])
  | 3 => ([(0, []), (2, []), (8, []), (9, []), (30, [])], [])
  | 4 => ([(0, []), (2, []), (8, []), (9, []), (37, [])], [])
  | 5 => ([(0, []), (2, []), (8, []), (9, [])], [])
  | 6 => ([(0, []), (2, []), (8, [.own .tree]), (9, [])], [])
  | 7 => ([(6, []), (7, [])], [])
  | _ => ([], [])
def head108_0 (l : List Op) (from_ : Int) (kind : Int) (x9 : Int) (x8 : List Tree) : LSt U := (⟨[(0, .c (.slice (U := U) .op l .unk)), (2, .c (.int .i64 kind)), (8, .c (.slice (U := U) .tree x8 (.own (.e 8 0)))), (9, .c (.int .i64 x9))], [], []⟩ : LSt U)
abbrev W108 (l : List Op) (from_ : Int) (kind : Int) (Q : AExit → LSt U → Prop) : Prop := awp cfg (know know108) (drawOk cfg (know know108)) Try.f108.ntmps lv108 (cd Try.f108 []) (⟨[(0, .c (.slice (U := U) .op l .unk)), (1, .c (.int .i64 from_)), (2, .c (.int .i64 kind))], [], []⟩ : LSt U) Q
theorem vc108 (l : List Op) (from_ : Int) (kind : Int) (Q : AExit → LSt U → Prop) (h : LoopWp (awp cfg (know know108) (drawOk cfg (know know108)) Try.f108.ntmps lv108 (cd Try.f108 [1, 1, 1, 0, 0, 0])) (head108_0 l from_ kind from_ ([])) (AExit.inBlock 0 (seqK cfg (know know108) (drawOk cfg (know know108)) Try.f108.ntmps lv108 (cd Try.f108 [1, 1, 1, 1]) Q))) :
    W108 l from_ kind Q := by
  have e_ : (W108 l from_ kind Q) = ((((LoopWp (awp cfg (know know108) (drawOk cfg (know know108)) Try.f108.ntmps lv108 (cd Try.f108 [1, 1, 1, 0, 0, 0])) (head108_0 l from_ kind from_ ([])) (AExit.inBlock 0 (seqK cfg (know know108) (drawOk cfg (know know108)) Try.f108.ntmps lv108 (cd Try.f108 [1, 1, 1, 1]) Q)))))) := by kernel_rfl
  exact e_.mpr h
abbrev W108_l0 (l : List Op) (from_ : Int) (kind : Int) (x9 : Int) (x8 : List Tree) (N0 : LSt U → Prop) (Q : AExit → LSt U → Prop) : Prop := awp cfg (know know108) (drawOk cfg (know know108)) Try.f108.ntmps lv108 (cd Try.f108 [1, 1, 1, 0, 0, 0]) (head108_0 l from_ kind x9 x8) (AExit.then N0 (AExit.inBlock 0 (seqK cfg (know know108) (drawOk cfg (know know108)) Try.f108.ntmps lv108 (cd Try.f108 [1, 1, 1, 1]) Q)))
theorem vc108_l0 (l : List Op) (from_ : Int) (kind : Int) (x9 : Int) (x8 : List Tree) (N0 : LSt U → Prop) (Q : AExit → LSt U → Prop) (h : ∀ y_1, y_1 = (List.getD l (Int.toNat x9) Op.nil) → ((decide ((x9 : Int) < (l.length : Int))) = true → (0 : Int) ≤ x9 ∧ x9 < (l.length : Int)) ∧ (((decide ((x9 : Int) < (l.length : Int))) && (!(((OpOf.kind y_1) : Int) == 1))) = true → (0 : Int) ≤ x9 ∧ x9 < (l.length : Int)) ∧ (((bif (decide ((x9 : Int) < (l.length : Int))) then (bif (((OpOf.kind y_1) : Int) == 1) then true else (((OpOf.kind y_1) : Int) == 2)) else false) = true → ((0 : Int) ≤ x9 ∧ x9 < (l.length : Int)) ∧ (((((OpOf.kind y_1) : Int) == kind) = true → ((0 : Int) ≤ x9 ∧ x9 < (l.length : Int)) ∧ (pre124 ((OpOf.l y_1), ())) ∧ ((x8.length + (normsT (OpOf.l y_1)).length) * 56 ≤ 140737488355328) ∧ ((InR ((x9 : Int) + 1)) ∧ (N0 (head108_0 l from_ kind ((x9 : Int) + 1) (x8 ++ (normsT (OpOf.l y_1))))))) ∧ ((((OpOf.kind y_1) : Int) == kind) = false → (InR ((x9 : Int) + 1)) ∧ (N0 (head108_0 l from_ kind ((x9 : Int) + 1) x8))))) ∧ ((bif (decide ((x9 : Int) < (l.length : Int))) then (bif (((OpOf.kind y_1) : Int) == 1) then true else (((OpOf.kind y_1) : Int) == 2)) else false) = false → Q .ret (⟨[(6, .c (.slice (U := U) .tree x8 (.own (.e 6 0)))), (7, .c (.int .i64 x9))], [], []⟩ : LSt U)))) :
    W108_l0 l from_ kind x9 x8 N0 Q := by
  have e_ : (W108_l0 l from_ kind x9 x8 N0 Q) = (let y_1 := (List.getD l (Int.toNat x9) Op.nil); ((decide ((x9 : Int) < (l.length : Int))) = true → (decide ((x9 : Int) < (l.length : Int))) = true) ∧ ((decide ((x9 : Int) < (l.length : Int))) = true → (decide ((x9 : Int) < (l.length : Int))) = true) ∧ ((decide ((x9 : Int) < (l.length : Int))) = true → (0 : Int) ≤ x9 ∧ x9 < (l.length : Int)) ∧ ((decide ((x9 : Int) < (l.length : Int))) = true → (decide ((x9 : Int) < (l.length : Int))) = true) ∧ ((decide ((x9 : Int) < (l.length : Int))) = true → (decide ((x9 : Int) < (l.length : Int))) = true) ∧ ((decide ((x9 : Int) < (l.length : Int))) = true → (decide ((x9 : Int) < (l.length : Int))) = true) ∧ ((decide ((x9 : Int) < (l.length : Int))) = true → (decide ((x9 : Int) < (l.length : Int))) = true) ∧ (((decide ((x9 : Int) < (l.length : Int))) && (!(((OpOf.kind y_1) : Int) == 1))) = true → ((decide ((x9 : Int) < (l.length : Int))) && (!(((OpOf.kind y_1) : Int) == 1))) = true) ∧ (((decide ((x9 : Int) < (l.length : Int))) && (!(((OpOf.kind y_1) : Int) == 1))) = true → ((decide ((x9 : Int) < (l.length : Int))) && (!(((OpOf.kind y_1) : Int) == 1))) = true) ∧ (((decide ((x9 : Int) < (l.length : Int))) && (!(((OpOf.kind y_1) : Int) == 1))) = true → (0 : Int) ≤ x9 ∧ x9 < (l.length : Int)) ∧ (((decide ((x9 : Int) < (l.length : Int))) && (!(((OpOf.kind y_1) : Int) == 1))) = true → ((decide ((x9 : Int) < (l.length : Int))) && (!(((OpOf.kind y_1) : Int) == 1))) = true) ∧ (((decide ((x9 : Int) < (l.length : Int))) && (!(((OpOf.kind y_1) : Int) == 1))) = true → ((decide ((x9 : Int) < (l.length : Int))) && (!(((OpOf.kind y_1) : Int) == 1))) = true) ∧ (((decide ((x9 : Int) < (l.length : Int))) && (!(((OpOf.kind y_1) : Int) == 1))) = true → ((decide ((x9 : Int) < (l.length : Int))) && (!(((OpOf.kind y_1) : Int) == 1))) = true) ∧ ((decide ((x9 : Int) < (l.length : Int))) = true → (True → (decide ((x9 : Int) < (l.length : Int))) = true)) ∧ ((decide ((x9 : Int) < (l.length : Int))) = true → ((((OpOf.kind y_1) : Int) == 1) = false → ((decide ((x9 : Int) < (l.length : Int))) && (!(((OpOf.kind y_1) : Int) == 1))) = true)) ∧ (((decide ((x9 : Int) < (l.length : Int))) = true → (decide ((x9 : Int) < (l.length : Int))) = true)) ∧ (((bif (decide ((x9 : Int) < (l.length : Int))) then (bif (((OpOf.kind y_1) : Int) == 1) then true else (((OpOf.kind y_1) : Int) == 2)) else false) = true → ((0 : Int) ≤ x9 ∧ x9 < (l.length : Int)) ∧ (((((OpOf.kind y_1) : Int) == kind) = true → ((0 : Int) ≤ x9 ∧ x9 < (l.length : Int)) ∧ (pre124 ((OpOf.l y_1), ())) ∧ ((x8.length + (normsT (OpOf.l y_1)).length) * 56 ≤ 140737488355328) ∧ ((InR ((x9 : Int) + 1)) ∧ (N0 (head108_0 l from_ kind ((x9 : Int) + 1) (x8 ++ (normsT (OpOf.l y_1))))))) ∧ ((((OpOf.kind y_1) : Int) == kind) = false → (InR ((x9 : Int) + 1)) ∧ (N0 (head108_0 l from_ kind ((x9 : Int) + 1) x8))))) ∧ ((bif (decide ((x9 : Int) < (l.length : Int))) then (bif (((OpOf.kind y_1) : Int) == 1) then true else (((OpOf.kind y_1) : Int) == 2)) else false) = false → (Q .ret (⟨[(6, .c (.slice (U := U) .tree x8 (.own (.e 6 0)))), (7, .c (.int .i64 x9))], [], []⟩ : LSt U))))) := by kernel_rfl
  exact e_.mpr (by intro y_1; have hh := h y_1 rfl; exact ⟨fun x => x, fun x => x, hh.1, fun x => x, fun x => x, fun x => x, fun x => x, fun x => x, fun x => x, hh.2.1, fun x => x, fun x => x, fun x => x, (by generalize (decide ((x9 : Int) < (l.length : Int))) = b0; revert b0; decide), (by generalize (((OpOf.kind y_1) : Int) == 1) = b0; generalize (decide ((x9 : Int) < (l.length : Int))) = b1; revert b0 b1; decide), (by generalize (decide ((x9 : Int) < (l.length : Int))) = b0; revert b0; decide), ⟨fun c_2 => ⟨(hh.2.2.1 c_2).1, ⟨fun c_3 => ⟨((hh.2.2.1 c_2).2.1 c_3).1, ((hh.2.2.1 c_2).2.1 c_3).2.1, ((hh.2.2.1 c_2).2.1 c_3).2.2.1, ⟨((hh.2.2.1 c_2).2.1 c_3).2.2.2.1, ((hh.2.2.1 c_2).2.1 c_3).2.2.2.2⟩⟩, fun c_3 => ⟨((hh.2.2.1 c_2).2.2 c_3).1, ((hh.2.2.1 c_2).2.2 c_3).2⟩⟩⟩, fun c_2 => (hh.2.2.2 c_2)⟩⟩)
def Body108 (l : List Op) (from_ : Int) (kind : Int)  : Prop := awp cfg (know (know108)) (drawOk cfg (know (know108))) Try.f108.ntmps lv108 (cd Try.f108 []) (entry (args108.can (l, from_, kind, ())) []) (EndsQ cfg Try.f108.ntmps Try.f108.results.toList (res108 (l, from_, kind, ())) [])
theorem make108 (c124 : Contract Try.prog cfg 124 spec124) (hb : ∀ (l : List Op) (from_ : Int) (kind : Int) (_ : Unit), pre108 (l, from_, kind, ()) → Body108 l from_ kind) : Contract Try.prog cfg 108 spec108 :=
  contract_flat (l := [(124, spec124)]) cfgOk rfl (⟨c124, trivial⟩) lv108 Try.func108 rfl rfl 3 (fun _ => rfl) (by decide) (fun ⟨l, from_, kind, _⟩ => hb l from_ kind ())

noncomputable def know79 (N : Nat) : List (FuncId × Fs U) := (79, fs args79 (fun a => [pre79 a, mu79 a < N]) res79) :: (110, fs args110 (fun a => [pre110 a, mu110 a < N]) res110) :: []
def lv79 : Lives U := fun i => match i with
  | 0 => ([(1, []), (2, [])], [((.loc 1), []), ((.loc 2), [])])
  | 1 => ([(1, []), (2, []), (3, [])], [((.loc 1), []), ((.loc 2), []), ((.loc 3), [])])
  | 2 => ([(1, []), (2, []), (3, []), (20, []), (21, []), (22, [])], [((.loc 1), []), ((.loc 2), []), ((.loc 3), [.any, .any, .any, .any, .any, .any, .any, .own .wedit])])
  | 3 => ([(1, []), (2, []), (3, []), (20, []), (21, []), (22, []), (23, [])], [((.loc 1), []), ((.loc 2), []), ((.loc 3), [])])
  | 4 => ([(1, []), (2, []), (3, []), (5, []), (20, []), (21, []), (22, [])], [((.loc 1), []), ((.loc 2), []), ((.loc 3), []), ((.loc 5), [])])
  | 5 => ([(1, []), (2, []), (3, []), (20, []), (21, []), (22, [])], [((.loc 1), []), ((.loc 2), []), ((.loc 3), [])])
  | 6 => ([(1, []), (2, []), (3, []), (20, []), (21, []), (22, [])], [((.loc 1), []), ((.loc 2), []), ((.loc 3), [.any, .any, .any, .any, .any, .any, .any, .own .wedit])])
  | 7 => ([(1, []), (2, []), (3, []), (42, []), (43, []), (44, [])], [((.loc 1), []), ((.loc 2), []), ((.loc 3), [.any, .any, .any, .any, .any, .any, .any, .any, .own .kid])])
  | 8 => ([(1, []), (2, []), (3, []), (42, []), (43, []), (44, []), (45, [])], [((.loc 1), []), ((.loc 2), []), ((.loc 3), [])])
  | 9 => ([(1, []), (2, []), (3, []), (7, []), (42, []), (43, []), (44, [])], [((.loc 1), []), ((.loc 2), []), ((.loc 3), []), ((.loc 7), [])])
  | 10 => ([(1, []), (2, []), (3, []), (42, []), (43, []), (44, [])], [((.loc 1), []), ((.loc 2), []), ((.loc 3), [])])
  | 11 => ([(1, []), (2, []), (3, []), (42, []), (43, []), (44, [])], [((.loc 1), []), ((.loc 2), []), ((.loc 3), [.any, .any, .any, .any, .any, .any, .any, .any, .own .kid])])
  | 12 => ([(2, []), (3, []), (61, []), (62, []), (63, [])], [((.loc 2), []), ((.loc 3), [.any, .any, .any, .any, .any, .any, .any, .any, .any, .any, .own .op])])
  | 13 => ([(2, []), (3, []), (61, []), (62, []), (63, []), (64, [])], [((.loc 2), []), ((.loc 3), [])])
  | 14 => ([(2, []), (3, []), (9, []), (61, []), (62, []), (63, [])], [((.loc 2), []), ((.loc 3), []), ((.loc 9), [])])
  | 15 => ([(2, []), (3, []), (61, []), (62, []), (63, [])], [((.loc 2), []), ((.loc 3), [])])
  | 16 => ([(2, []), (3, []), (61, []), (62, []), (63, [])], [((.loc 2), []), ((.loc 3), [.any, .any, .any, .any, .any, .any, .any, .any, .any, .any, .own .op])])
  | 17 => ([(2, [])], [((.loc 2), [])])
  | _ => ([], [])
def head79_0 (e : Edit) (x22 : Int) (ml3_7 : List WEdit) : LSt U := (⟨[(1, .ptr (.loc 1) 0), (2, .ptr (.loc 2) 0), (3, .ptr (.loc 3) 0), (20, .c (.slice (U := U) .wedit (Edit.words e) .unk)), (21, .c (.int .i64 ((Edit.words e).length : Int))), (22, .c (.int .i64 x22))], [((.loc 1), [.int .i64 (Edit.kind e), .int .i64 (Tree.kind (Edit.old e)), .slice (U := U) .u64 (Tree.words (Edit.old e)) .unk, .slice (U := U) .tree (Tree.kids (Edit.old e)) .unk, .int .i64 (Tree.kind (Edit.new e)), .slice (U := U) .u64 (Tree.words (Edit.new e)) .unk, .slice (U := U) .tree (Tree.kids (Edit.new e)) .unk, .slice (U := U) .wedit (Edit.words e) .unk, .slice (U := U) .kid (Edit.kids e) .unk, .int .i64 (Edit.list e), .slice (U := U) .op (Edit.ops e) .unk]), ((.loc 2), [.int .i64 0, .int .i64 0, .nils, .nils, .int .i64 0, .nils, .nils, .nils, .nils, .int .i64 0, .nils]), ((.loc 3), [.int .i64 (Edit.kind e), .int .i64 (Tree.kind (Edit.new e)), .slice (U := U) .u64 (Tree.words (Edit.new e)) .unk, .slice (U := U) .tree (Tree.kids (Edit.new e)) .unk, .int .i64 (Tree.kind (Edit.old e)), .slice (U := U) .u64 (Tree.words (Edit.old e)) .unk, .slice (U := U) .tree (Tree.kids (Edit.old e)) .unk, .slice (U := U) .wedit ml3_7 (.own (.l 3 7)), .nils, .int .i64 (Edit.list e), .nils])], []⟩ : LSt U)
def head79_1 (e : Edit) (ml3_7 : List WEdit) (x44_a : Int) (ml3_8_a : List Kid) : LSt U := (⟨[(1, .ptr (.loc 1) 0), (2, .ptr (.loc 2) 0), (3, .ptr (.loc 3) 0), (42, .c (.slice (U := U) .kid (Edit.kids e) .unk)), (43, .c (.int .i64 ((Edit.kids e).length : Int))), (44, .c (.int .i64 x44_a))], [((.loc 1), [.int .i64 (Edit.kind e), .int .i64 (Tree.kind (Edit.old e)), .slice (U := U) .u64 (Tree.words (Edit.old e)) .unk, .slice (U := U) .tree (Tree.kids (Edit.old e)) .unk, .int .i64 (Tree.kind (Edit.new e)), .slice (U := U) .u64 (Tree.words (Edit.new e)) .unk, .slice (U := U) .tree (Tree.kids (Edit.new e)) .unk, .slice (U := U) .wedit (Edit.words e) .unk, .slice (U := U) .kid (Edit.kids e) .unk, .int .i64 (Edit.list e), .slice (U := U) .op (Edit.ops e) .unk]), ((.loc 2), [.int .i64 0, .int .i64 0, .nils, .nils, .int .i64 0, .nils, .nils, .nils, .nils, .int .i64 0, .nils]), ((.loc 3), [.int .i64 (Edit.kind e), .int .i64 (Tree.kind (Edit.new e)), .slice (U := U) .u64 (Tree.words (Edit.new e)) .unk, .slice (U := U) .tree (Tree.kids (Edit.new e)) .unk, .int .i64 (Tree.kind (Edit.old e)), .slice (U := U) .u64 (Tree.words (Edit.old e)) .unk, .slice (U := U) .tree (Tree.kids (Edit.old e)) .unk, .slice (U := U) .wedit ml3_7 (.own (.l 3 7)), .slice (U := U) .kid ml3_8_a (.own (.l 3 8)), .int .i64 (Edit.list e), .nils])], []⟩ : LSt U)
def head79_2 (e : Edit) (ml3_7 : List WEdit) (ml3_8_a : List Kid) (x63_b : Int) (ml3_10_b : List Op) : LSt U := (⟨[(2, .ptr (.loc 2) 0), (3, .ptr (.loc 3) 0), (61, .c (.slice (U := U) .op (Edit.ops e) .unk)), (62, .c (.int .i64 ((Edit.ops e).length : Int))), (63, .c (.int .i64 x63_b))], [((.loc 2), [.int .i64 0, .int .i64 0, .nils, .nils, .int .i64 0, .nils, .nils, .nils, .nils, .int .i64 0, .nils]), ((.loc 3), [.int .i64 (Edit.kind e), .int .i64 (Tree.kind (Edit.new e)), .slice (U := U) .u64 (Tree.words (Edit.new e)) .unk, .slice (U := U) .tree (Tree.kids (Edit.new e)) .unk, .int .i64 (Tree.kind (Edit.old e)), .slice (U := U) .u64 (Tree.words (Edit.old e)) .unk, .slice (U := U) .tree (Tree.kids (Edit.old e)) .unk, .slice (U := U) .wedit ml3_7 (.own (.l 3 7)), .slice (U := U) .kid ml3_8_a (.own (.l 3 8)), .int .i64 (Edit.list e), .slice (U := U) .op ml3_10_b (.own (.l 3 10))])], []⟩ : LSt U)
abbrev W79 (N : Nat) (e : Edit) (Q : AExit → LSt U → Prop) : Prop := awp cfg (know (know79 N)) (drawOk cfg (know (know79 N))) Try.f79.ntmps lv79 (cd Try.f79 []) (⟨[(0, .agg [.int .i64 (Edit.kind e), .int .i64 (Tree.kind (Edit.old e)), .slice (U := U) .u64 (Tree.words (Edit.old e)) .unk, .slice (U := U) .tree (Tree.kids (Edit.old e)) .unk, .int .i64 (Tree.kind (Edit.new e)), .slice (U := U) .u64 (Tree.words (Edit.new e)) .unk, .slice (U := U) .tree (Tree.kids (Edit.new e)) .unk, .slice (U := U) .wedit (Edit.words e) .unk, .slice (U := U) .kid (Edit.kids e) .unk, .int .i64 (Edit.list e), .slice (U := U) .op (Edit.ops e) .unk])], [], []⟩ : LSt U) Q
theorem vc79 (N : Nat) (e : Edit) (Q : AExit → LSt U → Prop) (h : LoopWp (awp cfg (know (know79 N)) (drawOk cfg (know (know79 N))) Try.f79.ntmps lv79 (cd Try.f79 [1, 1, 0, 1, 0, 0])) (head79_0 e 0 ([])) (AExit.inBlock 0 (seqK cfg (know (know79 N)) (drawOk cfg (know (know79 N))) Try.f79.ntmps lv79 (cd Try.f79 [1, 1, 1]) Q))) :
    W79 N e Q := by
  have e_ : (W79 N e Q) = ((((LoopWp (awp cfg (know (know79 N)) (drawOk cfg (know (know79 N))) Try.f79.ntmps lv79 (cd Try.f79 [1, 1, 0, 1, 0, 0])) (head79_0 e 0 ([])) (AExit.inBlock 0 (seqK cfg (know (know79 N)) (drawOk cfg (know (know79 N))) Try.f79.ntmps lv79 (cd Try.f79 [1, 1, 1]) Q)))))) := by kernel_rfl
  exact e_.mpr h
abbrev W79_l0 (N : Nat) (e : Edit) (x22 : Int) (ml3_7 : List WEdit) (N0 : LSt U → Prop) (Q : AExit → LSt U → Prop) : Prop := awp cfg (know (know79 N)) (drawOk cfg (know (know79 N))) Try.f79.ntmps lv79 (cd Try.f79 [1, 1, 0, 1, 0, 0]) (head79_0 e x22 ml3_7) (AExit.then N0 (AExit.inBlock 0 (seqK cfg (know (know79 N)) (drawOk cfg (know (know79 N))) Try.f79.ntmps lv79 (cd Try.f79 [1, 1, 1]) Q)))
theorem vc79_l0 (N : Nat) (e : Edit) (x22 : Int) (ml3_7 : List WEdit) (N0 : LSt U → Prop) (Q : AExit → LSt U → Prop) (h : ((decide ((x22 : Int) < ((Edit.words e).length : Int))) = true → ((0 : Int) ≤ x22 ∧ x22 < ((Edit.words e).length : Int)) ∧ (((ml3_7.length + ([(WEdit.mk (WEdit.at_ (List.getD (Edit.words e) (Int.toNat x22) (WEdit.mk 0 0 0 0))) (WEdit.mask (List.getD (Edit.words e) (Int.toNat x22) (WEdit.mk 0 0 0 0))) (WEdit.new (List.getD (Edit.words e) (Int.toNat x22) (WEdit.mk 0 0 0 0))) (WEdit.old (List.getD (Edit.words e) (Int.toNat x22) (WEdit.mk 0 0 0 0))))]).length) * 32 ≤ 140737488355328) ∧ ((InR ((x22 : Int) + 1)) ∧ (N0 (head79_0 e ((x22 : Int) + 1) (ml3_7 ++ ([(WEdit.mk (WEdit.at_ (List.getD (Edit.words e) (Int.toNat x22) (WEdit.mk 0 0 0 0))) (WEdit.mask (List.getD (Edit.words e) (Int.toNat x22) (WEdit.mk 0 0 0 0))) (WEdit.new (List.getD (Edit.words e) (Int.toNat x22) (WEdit.mk 0 0 0 0))) (WEdit.old (List.getD (Edit.words e) (Int.toNat x22) (WEdit.mk 0 0 0 0))))]))))))) ∧ ((decide ((x22 : Int) < ((Edit.words e).length : Int))) = false → LoopWp (awp cfg (know (know79 N)) (drawOk cfg (know (know79 N))) Try.f79.ntmps lv79 (cd Try.f79 [1, 1, 1, 0, 1, 0, 0])) (head79_1 e ml3_7 0 ([])) (AExit.inBlock 2 (seqK cfg (know (know79 N)) (drawOk cfg (know (know79 N))) Try.f79.ntmps lv79 (cd Try.f79 [1, 1, 1, 1]) Q)))) :
    W79_l0 N e x22 ml3_7 N0 Q := by
  have e_ : (W79_l0 N e x22 ml3_7 N0 Q) = ((((decide ((x22 : Int) < ((Edit.words e).length : Int))) = true → ((0 : Int) ≤ x22 ∧ x22 < ((Edit.words e).length : Int)) ∧ (((ml3_7.length + ([(WEdit.mk (WEdit.at_ (List.getD (Edit.words e) (Int.toNat x22) (WEdit.mk 0 0 0 0))) (WEdit.mask (List.getD (Edit.words e) (Int.toNat x22) (WEdit.mk 0 0 0 0))) (WEdit.new (List.getD (Edit.words e) (Int.toNat x22) (WEdit.mk 0 0 0 0))) (WEdit.old (List.getD (Edit.words e) (Int.toNat x22) (WEdit.mk 0 0 0 0))))]).length) * 32 ≤ 140737488355328) ∧ ((InR ((x22 : Int) + 1)) ∧ (N0 (head79_0 e ((x22 : Int) + 1) (ml3_7 ++ ([(WEdit.mk (WEdit.at_ (List.getD (Edit.words e) (Int.toNat x22) (WEdit.mk 0 0 0 0))) (WEdit.mask (List.getD (Edit.words e) (Int.toNat x22) (WEdit.mk 0 0 0 0))) (WEdit.new (List.getD (Edit.words e) (Int.toNat x22) (WEdit.mk 0 0 0 0))) (WEdit.old (List.getD (Edit.words e) (Int.toNat x22) (WEdit.mk 0 0 0 0))))]))))))) ∧ ((decide ((x22 : Int) < ((Edit.words e).length : Int))) = false → (LoopWp (awp cfg (know (know79 N)) (drawOk cfg (know (know79 N))) Try.f79.ntmps lv79 (cd Try.f79 [1, 1, 1, 0, 1, 0, 0])) (head79_1 e ml3_7 0 ([])) (AExit.inBlock 2 (seqK cfg (know (know79 N)) (drawOk cfg (know (know79 N))) Try.f79.ntmps lv79 (cd Try.f79 [1, 1, 1, 1]) Q)))))) := by kernel_rfl
  exact e_.mpr ⟨fun c_7 => ⟨(h.1 c_7).1, ⟨(h.1 c_7).2.1, ⟨(h.1 c_7).2.2.1, (h.1 c_7).2.2.2⟩⟩⟩, fun c_7 => (h.2 c_7)⟩
abbrev W79_l1 (N : Nat) (e : Edit) (ml3_7 : List WEdit) (x44_a : Int) (ml3_8_a : List Kid) (N1 : LSt U → Prop) (Q : AExit → LSt U → Prop) : Prop := awp cfg (know (know79 N)) (drawOk cfg (know (know79 N))) Try.f79.ntmps lv79 (cd Try.f79 [1, 1, 1, 0, 1, 0, 0]) (head79_1 e ml3_7 x44_a ml3_8_a) (AExit.then N1 (AExit.inBlock 2 (seqK cfg (know (know79 N)) (drawOk cfg (know (know79 N))) Try.f79.ntmps lv79 (cd Try.f79 [1, 1, 1, 1]) Q)))
theorem vc79_l1 (N : Nat) (e : Edit) (ml3_7 : List WEdit) (x44_a : Int) (ml3_8_a : List Kid) (N1 : LSt U → Prop) (Q : AExit → LSt U → Prop) (h : ∀ y_1, y_1 = (List.getD (Edit.kids e) (Int.toNat x44_a) (KidOf.mk 0 Edit.nil)) → ∀ y_2, y_2 = ((KidOf.e y_1)) → ∀ y_3, y_3 = ((turnE y_2)) → ((decide ((x44_a : Int) < ((Edit.kids e).length : Int))) = true → ((0 : Int) ≤ x44_a ∧ x44_a < ((Edit.kids e).length : Int)) ∧ ((pre79 (y_2, ())) ∧ (mu79 (y_2, ()) < N) ∧ ((ml3_8_a.length + ([(KidOf.mk (KidOf.at_ y_1) y_3 : Kid)]).length) * 208 ≤ 140737488355328) ∧ ((InR ((x44_a : Int) + 1)) ∧ (N1 (head79_1 e ml3_7 ((x44_a : Int) + 1) (ml3_8_a ++ ([(KidOf.mk (KidOf.at_ y_1) y_3 : Kid)]))))))) ∧ ((decide ((x44_a : Int) < ((Edit.kids e).length : Int))) = false → LoopWp (awp cfg (know (know79 N)) (drawOk cfg (know (know79 N))) Try.f79.ntmps lv79 (cd Try.f79 [1, 1, 1, 1, 0, 1, 0, 0])) (head79_2 e ml3_7 ml3_8_a 0 ([])) (AExit.inBlock 4 (seqK cfg (know (know79 N)) (drawOk cfg (know (know79 N))) Try.f79.ntmps lv79 (cd Try.f79 [1, 1, 1, 1, 1]) Q)))) :
    W79_l1 N e ml3_7 x44_a ml3_8_a N1 Q := by
  have e_ : (W79_l1 N e ml3_7 x44_a ml3_8_a N1 Q) = (let y_1 := (List.getD (Edit.kids e) (Int.toNat x44_a) (KidOf.mk 0 Edit.nil)); let y_2 := (reEdit (KidOf.e y_1)); let y_3 := (reEdit (turnE y_2)); (((decide ((x44_a : Int) < ((Edit.kids e).length : Int))) = true → ((0 : Int) ≤ x44_a ∧ x44_a < ((Edit.kids e).length : Int)) ∧ ((pre79 (y_2, ())) ∧ (mu79 (y_2, ()) < N) ∧ ((ml3_8_a.length + ([(KidOf.mk (KidOf.at_ y_1) y_3 : Kid)]).length) * 208 ≤ 140737488355328) ∧ ((InR ((x44_a : Int) + 1)) ∧ (N1 (head79_1 e ml3_7 ((x44_a : Int) + 1) (ml3_8_a ++ ([(KidOf.mk (KidOf.at_ y_1) y_3 : Kid)]))))))) ∧ ((decide ((x44_a : Int) < ((Edit.kids e).length : Int))) = false → (LoopWp (awp cfg (know (know79 N)) (drawOk cfg (know (know79 N))) Try.f79.ntmps lv79 (cd Try.f79 [1, 1, 1, 1, 0, 1, 0, 0])) (head79_2 e ml3_7 ml3_8_a 0 ([])) (AExit.inBlock 4 (seqK cfg (know (know79 N)) (drawOk cfg (know (know79 N))) Try.f79.ntmps lv79 (cd Try.f79 [1, 1, 1, 1, 1]) Q)))))) := by kernel_rfl
  exact e_.mpr (by intro y_1 y_2 y_3; have hh := h y_1 rfl y_2 (reEdit_eq _) y_3 (reEdit_eq _); exact ⟨fun c_8 => ⟨(hh.1 c_8).1, ⟨(hh.1 c_8).2.1, (hh.1 c_8).2.2.1, (hh.1 c_8).2.2.2.1, ⟨(hh.1 c_8).2.2.2.2.1, (hh.1 c_8).2.2.2.2.2⟩⟩⟩, fun c_8 => (hh.2 c_8)⟩)
abbrev W79_l2 (N : Nat) (e : Edit) (ml3_7 : List WEdit) (ml3_8_a : List Kid) (x63_b : Int) (ml3_10_b : List Op) (N2 : LSt U → Prop) (Q : AExit → LSt U → Prop) : Prop := awp cfg (know (know79 N)) (drawOk cfg (know (know79 N))) Try.f79.ntmps lv79 (cd Try.f79 [1, 1, 1, 1, 0, 1, 0, 0]) (head79_2 e ml3_7 ml3_8_a x63_b ml3_10_b) (AExit.then N2 (AExit.inBlock 4 (seqK cfg (know (know79 N)) (drawOk cfg (know (know79 N))) Try.f79.ntmps lv79 (cd Try.f79 [1, 1, 1, 1, 1]) Q)))
theorem vc79_l2 (N : Nat) (e : Edit) (ml3_7 : List WEdit) (ml3_8_a : List Kid) (x63_b : Int) (ml3_10_b : List Op) (N2 : LSt U → Prop) (Q : AExit → LSt U → Prop) (h : ∀ y_1, y_1 = (List.getD (Edit.ops e) (Int.toNat x63_b) Op.nil) → ∀ y_2, y_2 = (y_1) → ∀ y_3, y_3 = ((turnOp y_2)) → ((decide ((x63_b : Int) < ((Edit.ops e).length : Int))) = true → ((0 : Int) ≤ x63_b ∧ x63_b < ((Edit.ops e).length : Int)) ∧ ((pre110 (y_2, ())) ∧ (mu110 (y_2, ()) < N) ∧ ((ml3_10_b.length + ([y_3]).length) * 240 ≤ 140737488355328) ∧ ((InR ((x63_b : Int) + 1)) ∧ (N2 (head79_2 e ml3_7 ml3_8_a ((x63_b : Int) + 1) (ml3_10_b ++ ([y_3]))))))) ∧ ((decide ((x63_b : Int) < ((Edit.ops e).length : Int))) = false → Q .ret (⟨[(2, .ptr (.loc 2) 0)], [((.loc 2), [.int .i64 (Edit.kind e), .int .i64 (Tree.kind (Edit.new e)), .slice (U := U) .u64 (Tree.words (Edit.new e)) .unk, .slice (U := U) .tree (Tree.kids (Edit.new e)) .unk, .int .i64 (Tree.kind (Edit.old e)), .slice (U := U) .u64 (Tree.words (Edit.old e)) .unk, .slice (U := U) .tree (Tree.kids (Edit.old e)) .unk, .slice (U := U) .wedit ml3_7 (.own (.l 2 7)), .slice (U := U) .kid ml3_8_a (.own (.l 2 8)), .int .i64 (Edit.list e), .slice (U := U) .op ml3_10_b (.own (.l 2 10))])], []⟩ : LSt U))) :
    W79_l2 N e ml3_7 ml3_8_a x63_b ml3_10_b N2 Q := by
  have e_ : (W79_l2 N e ml3_7 ml3_8_a x63_b ml3_10_b N2 Q) = (let y_1 := (List.getD (Edit.ops e) (Int.toNat x63_b) Op.nil); let y_2 := (reOp y_1); let y_3 := (reOp (turnOp y_2)); (((decide ((x63_b : Int) < ((Edit.ops e).length : Int))) = true → ((0 : Int) ≤ x63_b ∧ x63_b < ((Edit.ops e).length : Int)) ∧ ((pre110 (y_2, ())) ∧ (mu110 (y_2, ()) < N) ∧ ((ml3_10_b.length + ([y_3]).length) * 240 ≤ 140737488355328) ∧ ((InR ((x63_b : Int) + 1)) ∧ (N2 (head79_2 e ml3_7 ml3_8_a ((x63_b : Int) + 1) (ml3_10_b ++ ([y_3]))))))) ∧ ((decide ((x63_b : Int) < ((Edit.ops e).length : Int))) = false → (Q .ret (⟨[(2, .ptr (.loc 2) 0)], [((.loc 2), [.int .i64 (Edit.kind e), .int .i64 (Tree.kind (Edit.new e)), .slice (U := U) .u64 (Tree.words (Edit.new e)) .unk, .slice (U := U) .tree (Tree.kids (Edit.new e)) .unk, .int .i64 (Tree.kind (Edit.old e)), .slice (U := U) .u64 (Tree.words (Edit.old e)) .unk, .slice (U := U) .tree (Tree.kids (Edit.old e)) .unk, .slice (U := U) .wedit ml3_7 (.own (.l 2 7)), .slice (U := U) .kid ml3_8_a (.own (.l 2 8)), .int .i64 (Edit.list e), .slice (U := U) .op ml3_10_b (.own (.l 2 10))])], []⟩ : LSt U))))) := by kernel_rfl
  exact e_.mpr (by intro y_1 y_2 y_3; have hh := h y_1 rfl y_2 (reOp_eq _) y_3 (reOp_eq _); exact ⟨fun c_9 => ⟨(hh.1 c_9).1, ⟨(hh.1 c_9).2.1, (hh.1 c_9).2.2.1, (hh.1 c_9).2.2.2.1, ⟨(hh.1 c_9).2.2.2.2.1, (hh.1 c_9).2.2.2.2.2⟩⟩⟩, fun c_9 => (hh.2 c_9)⟩)
def Body79 (N : Nat) (e : Edit)  : Prop := awp cfg (know (know79 N)) (drawOk cfg (know (know79 N))) Try.f79.ntmps lv79 (cd Try.f79 []) (entry (args79.can (e, ())) []) (EndsQ cfg Try.f79.ntmps Try.f79.results.toList (res79 (e, ())) [])
abbrev HB79 : Prop := ∀ (N : Nat) (e : Edit) (_ : Unit), pre79 (e, ()) → mu79 (e, ()) < N + 1 → Body79 N e

noncomputable def know110 (N : Nat) : List (FuncId × Fs U) := (79, fs args79 (fun a => [pre79 a, mu79 a < N]) res79) :: (110, fs args110 (fun a => [pre110 a, mu110 a < N]) res110) :: []
def lv110 : Lives U := fun i => match i with
  | 0 => ([(1, []), (2, [])], [((.loc 1), []), ((.loc 2), [])])
  | 1 => ([(1, []), (2, []), (4, [])], [((.loc 1), []), ((.loc 2), [])])
  | 2 => ([(1, []), (2, []), (4, []), (5, [])], [((.loc 1), []), ((.loc 2), [])])
  | 3 => ([(1, []), (2, [])], [((.loc 1), []), ((.loc 2), [])])
  | 4 => ([(1, []), (2, []), (4, []), (8, [])], [((.loc 1), []), ((.loc 2), [])])
  | 5 => ([(1, []), (2, [])], [((.loc 1), []), ((.loc 2), [])])
  | 6 => ([(1, []), (2, []), (11, [])], [((.loc 1), []), ((.loc 2), [])])
  | 7 => ([(1, []), (2, [])], [((.loc 1), []), ((.loc 2), [])])
  | 8 => ([(2, [])], [((.loc 2), [])])
  | _ => ([], [])
abbrev W110 (N : Nat) (o : Op) (Q : AExit → LSt U → Prop) : Prop := awp cfg (know (know110 N)) (drawOk cfg (know (know110 N))) Try.f110.ntmps lv110 (cd Try.f110 []) (⟨[(0, .agg [.int .i64 (OpOf.kind o), .int .i64 (OpOf.n o), .slice (U := U) .tree (OpOf.l o) .unk, .int .i64 (Edit.kind (OpOf.e o)), .int .i64 (Tree.kind (Edit.old (OpOf.e o))), .slice (U := U) .u64 (Tree.words (Edit.old (OpOf.e o))) .unk, .slice (U := U) .tree (Tree.kids (Edit.old (OpOf.e o))) .unk, .int .i64 (Tree.kind (Edit.new (OpOf.e o))), .slice (U := U) .u64 (Tree.words (Edit.new (OpOf.e o))) .unk, .slice (U := U) .tree (Tree.kids (Edit.new (OpOf.e o))) .unk, .slice (U := U) .wedit (Edit.words (OpOf.e o)) .unk, .slice (U := U) .kid (Edit.kids (OpOf.e o)) .unk, .int .i64 (Edit.list (OpOf.e o)), .slice (U := U) .op (Edit.ops (OpOf.e o)) .unk])], [], []⟩ : LSt U) Q
theorem vc110 (N : Nat) (o : Op) (Q : AExit → LSt U → Prop) (h : ∀ y_1, y_1 = ((OpOf.e o)) → ((((OpOf.kind o) : Int) == 1) = true → Q .ret (⟨[(2, .ptr (.loc 2) 0)], [((.loc 2), [.int .i64 2, .int .i64 (OpOf.n o), .slice (U := U) .tree (OpOf.l o) .unk, .int .i64 (Edit.kind (OpOf.e o)), .int .i64 (Tree.kind (Edit.old (OpOf.e o))), .slice (U := U) .u64 (Tree.words (Edit.old (OpOf.e o))) .unk, .slice (U := U) .tree (Tree.kids (Edit.old (OpOf.e o))) .unk, .int .i64 (Tree.kind (Edit.new (OpOf.e o))), .slice (U := U) .u64 (Tree.words (Edit.new (OpOf.e o))) .unk, .slice (U := U) .tree (Tree.kids (Edit.new (OpOf.e o))) .unk, .slice (U := U) .wedit (Edit.words (OpOf.e o)) .unk, .slice (U := U) .kid (Edit.kids (OpOf.e o)) .unk, .int .i64 (Edit.list (OpOf.e o)), .slice (U := U) .op (Edit.ops (OpOf.e o)) .unk])], []⟩ : LSt U)) ∧ ((((OpOf.kind o) : Int) == 1) = false → ((((OpOf.kind o) : Int) == 2) = true → Q .ret (⟨[(2, .ptr (.loc 2) 0)], [((.loc 2), [.int .i64 1, .int .i64 (OpOf.n o), .slice (U := U) .tree (OpOf.l o) .unk, .int .i64 (Edit.kind (OpOf.e o)), .int .i64 (Tree.kind (Edit.old (OpOf.e o))), .slice (U := U) .u64 (Tree.words (Edit.old (OpOf.e o))) .unk, .slice (U := U) .tree (Tree.kids (Edit.old (OpOf.e o))) .unk, .int .i64 (Tree.kind (Edit.new (OpOf.e o))), .slice (U := U) .u64 (Tree.words (Edit.new (OpOf.e o))) .unk, .slice (U := U) .tree (Tree.kids (Edit.new (OpOf.e o))) .unk, .slice (U := U) .wedit (Edit.words (OpOf.e o)) .unk, .slice (U := U) .kid (Edit.kids (OpOf.e o)) .unk, .int .i64 (Edit.list (OpOf.e o)), .slice (U := U) .op (Edit.ops (OpOf.e o)) .unk])], []⟩ : LSt U)) ∧ ((((OpOf.kind o) : Int) == 2) = false → ((((OpOf.kind o) : Int) == 3) = true → (pre79 (y_1, ())) ∧ (mu79 (y_1, ()) < N) ∧ (Q .ret (⟨[(2, .ptr (.loc 2) 0)], [((.loc 2), [.int .i64 (OpOf.kind o), .int .i64 (OpOf.n o), .slice (U := U) .tree (OpOf.l o) .unk, .int .i64 (Edit.kind (turnE y_1)), .int .i64 (Tree.kind (Edit.old (turnE y_1))), .slice (U := U) .u64 (Tree.words (Edit.old (turnE y_1))) .unk, .slice (U := U) .tree (Tree.kids (Edit.old (turnE y_1))) .unk, .int .i64 (Tree.kind (Edit.new (turnE y_1))), .slice (U := U) .u64 (Tree.words (Edit.new (turnE y_1))) .unk, .slice (U := U) .tree (Tree.kids (Edit.new (turnE y_1))) .unk, .slice (U := U) .wedit (Edit.words (turnE y_1)) .unk, .slice (U := U) .kid (Edit.kids (turnE y_1)) .unk, .int .i64 (Edit.list (turnE y_1)), .slice (U := U) .op (Edit.ops (turnE y_1)) .unk])], []⟩ : LSt U))) ∧ ((((OpOf.kind o) : Int) == 3) = false → Q .ret (⟨[(2, .ptr (.loc 2) 0)], [((.loc 2), [.int .i64 (OpOf.kind o), .int .i64 (OpOf.n o), .slice (U := U) .tree (OpOf.l o) .unk, .int .i64 (Edit.kind (OpOf.e o)), .int .i64 (Tree.kind (Edit.old (OpOf.e o))), .slice (U := U) .u64 (Tree.words (Edit.old (OpOf.e o))) .unk, .slice (U := U) .tree (Tree.kids (Edit.old (OpOf.e o))) .unk, .int .i64 (Tree.kind (Edit.new (OpOf.e o))), .slice (U := U) .u64 (Tree.words (Edit.new (OpOf.e o))) .unk, .slice (U := U) .tree (Tree.kids (Edit.new (OpOf.e o))) .unk, .slice (U := U) .wedit (Edit.words (OpOf.e o)) .unk, .slice (U := U) .kid (Edit.kids (OpOf.e o)) .unk, .int .i64 (Edit.list (OpOf.e o)), .slice (U := U) .op (Edit.ops (OpOf.e o)) .unk])], []⟩ : LSt U))))) :
    W110 N o Q := by
  have e_ : (W110 N o Q) = (let y_1 := (reEdit (OpOf.e o)); (((((((OpOf.kind o) : Int) == 1) = true → ((Q .ret (⟨[(2, .ptr (.loc 2) 0)], [((.loc 2), [.int .i64 2, .int .i64 (OpOf.n o), .slice (U := U) .tree (OpOf.l o) .unk, .int .i64 (Edit.kind (OpOf.e o)), .int .i64 (Tree.kind (Edit.old (OpOf.e o))), .slice (U := U) .u64 (Tree.words (Edit.old (OpOf.e o))) .unk, .slice (U := U) .tree (Tree.kids (Edit.old (OpOf.e o))) .unk, .int .i64 (Tree.kind (Edit.new (OpOf.e o))), .slice (U := U) .u64 (Tree.words (Edit.new (OpOf.e o))) .unk, .slice (U := U) .tree (Tree.kids (Edit.new (OpOf.e o))) .unk, .slice (U := U) .wedit (Edit.words (OpOf.e o)) .unk, .slice (U := U) .kid (Edit.kids (OpOf.e o)) .unk, .int .i64 (Edit.list (OpOf.e o)), .slice (U := U) .op (Edit.ops (OpOf.e o)) .unk])], []⟩ : LSt U)))) ∧ ((((OpOf.kind o) : Int) == 1) = false → (((((OpOf.kind o) : Int) == 2) = true → ((Q .ret (⟨[(2, .ptr (.loc 2) 0)], [((.loc 2), [.int .i64 1, .int .i64 (OpOf.n o), .slice (U := U) .tree (OpOf.l o) .unk, .int .i64 (Edit.kind (OpOf.e o)), .int .i64 (Tree.kind (Edit.old (OpOf.e o))), .slice (U := U) .u64 (Tree.words (Edit.old (OpOf.e o))) .unk, .slice (U := U) .tree (Tree.kids (Edit.old (OpOf.e o))) .unk, .int .i64 (Tree.kind (Edit.new (OpOf.e o))), .slice (U := U) .u64 (Tree.words (Edit.new (OpOf.e o))) .unk, .slice (U := U) .tree (Tree.kids (Edit.new (OpOf.e o))) .unk, .slice (U := U) .wedit (Edit.words (OpOf.e o)) .unk, .slice (U := U) .kid (Edit.kids (OpOf.e o)) .unk, .int .i64 (Edit.list (OpOf.e o)), .slice (U := U) .op (Edit.ops (OpOf.e o)) .unk])], []⟩ : LSt U)))) ∧ ((((OpOf.kind o) : Int) == 2) = false → (((((OpOf.kind o) : Int) == 3) = true → (pre79 (y_1, ())) ∧ (mu79 (y_1, ()) < N) ∧ ((Q .ret (⟨[(2, .ptr (.loc 2) 0)], [((.loc 2), [.int .i64 (OpOf.kind o), .int .i64 (OpOf.n o), .slice (U := U) .tree (OpOf.l o) .unk, .int .i64 (Edit.kind (turnE y_1)), .int .i64 (Tree.kind (Edit.old (turnE y_1))), .slice (U := U) .u64 (Tree.words (Edit.old (turnE y_1))) .unk, .slice (U := U) .tree (Tree.kids (Edit.old (turnE y_1))) .unk, .int .i64 (Tree.kind (Edit.new (turnE y_1))), .slice (U := U) .u64 (Tree.words (Edit.new (turnE y_1))) .unk, .slice (U := U) .tree (Tree.kids (Edit.new (turnE y_1))) .unk, .slice (U := U) .wedit (Edit.words (turnE y_1)) .unk, .slice (U := U) .kid (Edit.kids (turnE y_1)) .unk, .int .i64 (Edit.list (turnE y_1)), .slice (U := U) .op (Edit.ops (turnE y_1)) .unk])], []⟩ : LSt U)))) ∧ ((((OpOf.kind o) : Int) == 3) = false → (Q .ret (⟨[(2, .ptr (.loc 2) 0)], [((.loc 2), [.int .i64 (OpOf.kind o), .int .i64 (OpOf.n o), .slice (U := U) .tree (OpOf.l o) .unk, .int .i64 (Edit.kind (OpOf.e o)), .int .i64 (Tree.kind (Edit.old (OpOf.e o))), .slice (U := U) .u64 (Tree.words (Edit.old (OpOf.e o))) .unk, .slice (U := U) .tree (Tree.kids (Edit.old (OpOf.e o))) .unk, .int .i64 (Tree.kind (Edit.new (OpOf.e o))), .slice (U := U) .u64 (Tree.words (Edit.new (OpOf.e o))) .unk, .slice (U := U) .tree (Tree.kids (Edit.new (OpOf.e o))) .unk, .slice (U := U) .wedit (Edit.words (OpOf.e o)) .unk, .slice (U := U) .kid (Edit.kids (OpOf.e o)) .unk, .int .i64 (Edit.list (OpOf.e o)), .slice (U := U) .op (Edit.ops (OpOf.e o)) .unk])], []⟩ : LSt U))))))))))) := by kernel_rfl
  exact e_.mpr (by intro y_1; have hh := h y_1 (reEdit_eq _); exact ⟨fun c_10 => (hh.1 c_10), fun c_10 => ⟨fun c_11 => ((hh.2 c_10).1 c_11), fun c_11 => ⟨fun c_12 => ⟨(((hh.2 c_10).2 c_11).1 c_12).1, (((hh.2 c_10).2 c_11).1 c_12).2.1, (((hh.2 c_10).2 c_11).1 c_12).2.2⟩, fun c_12 => (((hh.2 c_10).2 c_11).2 c_12)⟩⟩⟩)
def Body110 (N : Nat) (o : Op)  : Prop := awp cfg (know (know110 N)) (drawOk cfg (know (know110 N))) Try.f110.ntmps lv110 (cd Try.f110 []) (entry (args110.can (o, ())) []) (EndsQ cfg Try.f110.ntmps Try.f110.results.toList (res110 (o, ())) [])
abbrev HB110 : Prop := ∀ (N : Nat) (o : Op) (_ : Unit), pre110 (o, ()) → mu110 (o, ()) < N + 1 → Body110 N o

theorem make79_110 (ha : HB79) (hb : HB110) : Contract Try.prog cfg 79 spec79 ∧ Contract Try.prog cfg 110 spec110 :=
  contract_mut2 (μA := mu79) (μB := mu110) (l := []) cfgOk rfl (trivial) lv79 lv110 Try.func79 Try.func110 rfl rfl rfl rfl 1 1 (fun _ => rfl) (fun _ => rfl) (by decide) (by decide) (fun N ⟨e, _⟩ => ha N e ()) (fun N ⟨o, _⟩ => hb N o ())
end Go.AM.Ytlahjnelghpmeaa

namespace Go.AM.Ytlahjnelghpmeaa
open Go.AM Go.Proofs

theorem c124 : Contract Try.prog cfg 124 spec124 := by
  refine make124 c31 ?_
  intro l _ hp
  simp only [pre124] at hp
  have hl := massK_len l
  refine vc124 _ _ ?_
  refine loop_rule (ι := Int × List Tree) (fun s => head124_0 l s.1 s.2) (fun s => 0 ≤ s.1 ∧ s.1 ≤ l.length ∧ s.2.length = s.1 ∧ s.2 ++ normsT (l.drop s.1.toNat) = normsT l) (fun s => ((l.length : Int) - s.1).toNat) (0, []) rfl ⟨by simp, by simp, by simp, by simp⟩ ?_
  rintro ⟨i, out⟩ ⟨h1, h2, h3, h4⟩
  dsimp only at h1 h2 h3 h4
  refine vc124_l0 _ _ _ _ _ ?_
  (simp only [bif_tl, bif_fr, bif_tlf, bif_frf, Bool.not_eq_true', Bool.not_eq_false', decide_eq_true_eq, decide_eq_false_iff_not, beq_iff_eq, beq_eq_false_iff_ne, bne_iff_ne, ne_eq, bne_eq_false_iff_eq, Bool.or_eq_true, Bool.and_eq_true, Bool.or_eq_false_iff, Bool.and_eq_false_imp])
  (simp only [Tree.eta, Edit.eta, Tree.kind_mk, Tree.words_mk, Tree.kids_mk])
  refine ⟨fun hi => ?_, fun hi => ?_⟩
  · have hm := massK_mem (mem_getD (l := l) (i := i.toNat) (by omega) Tree.nil)
    rw [dropI h1 hi Tree.nil] at h4
    simp only [normsT, List.map_cons] at h4
    refine ⟨⟨h1, hi⟩, by simp only [pre31]; omega, by simp; omega, by unfold InR; omega, (i + 1, out ++ [normT (l.getD i.toNat Tree.nil)]), rfl, ⟨by dsimp only; omega, by dsimp only; omega, by simp; omega, ?_⟩, by dsimp only; omega⟩
    simp only [List.append_assoc, List.cons_append, List.nil_append]
    exact h4
  · rw [List.drop_of_length_le (by omega)] at h4
    simp only [normsT, List.map_nil, List.append_nil] at h4
    rw [h4]
    (repeat' (first | exact trivial | exact rfl | refine And.intro ?_ ?_))

theorem gapT_drop {kind : Int} {l : List Op} {i : Int} (h0 : 0 ≤ i) (h : i < l.length) : gapT kind (l.drop i.toNat) = if (l.getD i.toNat Op.nil).kind = 1 ∨ (l.getD i.toNat Op.nil).kind = 2 then (if (l.getD i.toNat Op.nil).kind = kind then normsT (l.getD i.toNat Op.nil).l else []) ++ gapT kind (l.drop (i + 1).toNat) else [] := by
  rw [dropI h0 h Op.nil, gapT]

theorem gapN_drop {l : List Op} {i : Int} (h0 : 0 ≤ i) (h : i < l.length) : gapN (l.drop i.toNat) = if (l.getD i.toNat Op.nil).kind = 1 ∨ (l.getD i.toNat Op.nil).kind = 2 then 1 + gapN (l.drop (i + 1).toNat) else 0 := by
  rw [dropI h0 h Op.nil, gapN]

theorem massOs_drop (n : Nat) : ∀ (l : List Op), massOs (l.drop n) ≤ massOs l := by
  induction n with
  | zero => intro l; simp
  | succ n ih =>
    intro l
    cases l with
    | nil => simp
    | cons t r => simp only [List.drop_succ_cons, massOs]; have := ih r; omega

theorem c108 : Contract Try.prog cfg 108 spec108 := by
  refine make108 c124 ?_
  intro l from_ kind _ hp
  simp only [pre108] at hp
  obtain ⟨hm, hf0, hf1⟩ := hp
  have hl := massOs_len l
  refine vc108 _ _ _ _ ?_
  refine loop_rule (ι := Int × List Tree) (fun s => head108_0 l from_ kind s.1 s.2) (fun s => from_ ≤ s.1 ∧ s.1 ≤ l.length ∧ s.2.length + massOs (l.drop s.1.toNat) ≤ massOs l ∧ s.2 ++ gapT kind (l.drop s.1.toNat) = gapT kind (l.drop from_.toNat) ∧ s.1 + gapN (l.drop s.1.toNat) = from_ + gapN (l.drop from_.toNat)) (fun s => ((l.length : Int) - s.1).toNat) (from_, []) rfl ⟨by simp, by simpa using hf1, by have := massOs_drop from_.toNat l; simpa using this, by simp, rfl⟩ ?_
  rintro ⟨i, out⟩ ⟨h1, h2, h3, h4, h5⟩
  dsimp only at h1 h2 h3 h4 h5
  refine vc108_l0 _ _ _ _ _ _ _ ?_
  rintro y hy
  (simp only [bif_tl, bif_fr, bif_tlf, bif_frf, Bool.not_eq_true', Bool.not_eq_false', decide_eq_true_eq, decide_eq_false_iff_not, beq_iff_eq, beq_eq_false_iff_ne, bne_iff_ne, ne_eq, bne_eq_false_iff_eq, Bool.or_eq_true, Bool.and_eq_true, Bool.or_eq_false_iff, Bool.and_eq_false_imp])
  refine ⟨fun hi => ⟨by omega, hi⟩, fun hi => ⟨by omega, hi.1⟩, fun hi => ?_, fun hi => ?_⟩
  · obtain ⟨hi, hk⟩ := hi
    have hmem := massOs_mem (mem_getD (l := l) (i := i.toNat) (by omega) Op.nil)
    have hd := congrArg massOs (dropI (show 0 ≤ i by omega) hi Op.nil)
    rw [massOs_cons] at hd
    rw [gapT_drop (by omega) hi] at h4
    rw [gapN_drop (by omega) hi] at h5
    rw [← hy] at h4 h5 hmem hd
    rw [if_pos hk] at h4 h5
    rw [massOp_e] at hmem hd
    have hkl := massK_len y.l
    have hyl : (normsT y.l).length = y.l.length := by simp [normsT]
    refine ⟨⟨by omega, hi⟩, fun hq => ⟨⟨by omega, hi⟩, by simp only [pre124]; omega, by rw [hyl]; omega, by unfold InR; omega, (i + 1, out ++ normsT y.l), rfl, ⟨by dsimp only; omega, by dsimp only; omega, by simp; omega, ?_, by dsimp only; omega⟩, by dsimp only; omega⟩, fun hq => ⟨by unfold InR; omega, (i + 1, out), rfl, ⟨by dsimp only; omega, by dsimp only; omega, by dsimp only; omega, ?_, by dsimp only; omega⟩, by dsimp only; omega⟩⟩
    · rw [if_pos hq, ← List.append_assoc] at h4; exact h4
    · rw [if_neg hq, List.nil_append] at h4; exact h4
  · have e1 : gapT kind (l.drop i.toNat) = [] ∧ gapN (l.drop i.toNat) = 0 := by
      by_cases hc : i < l.length
      · rw [gapT_drop (by omega) hc, gapN_drop (by omega) hc, ← hy, if_neg (by omega), if_neg (by omega)]
        exact ⟨rfl, rfl⟩
      · rw [List.drop_of_length_le (by omega)]
        exact ⟨rfl, rfl⟩
    rw [e1.1, List.append_nil] at h4
    rw [e1.2] at h5
    have e2 : i = from_ + gapN (l.drop from_.toNat) := by omega
    simp only [res108, ← h4, ← e2]
    (repeat' (first | exact trivial | exact rfl | refine And.intro ?_ ?_))


theorem turnOp_at (o : Op) : turnOp o = if o.kind = 1 then ⟨2, o.n, o.l, o.e⟩ else if o.kind = 2 then ⟨1, o.n, o.l, o.e⟩ else if o.kind = 3 then ⟨o.kind, o.n, o.l, turnE o.e⟩ else ⟨o.kind, o.n, o.l, o.e⟩ := by cases o; rfl
theorem turnE_at (e : Edit) : turnE e = .mk e.kind e.new e.old (e.words.map turnW) (turnKs e.kids) e.list (turnOs e.ops) := by cases e; rfl
theorem turnKid_at (k : Kid) : turnKid k = ⟨k.at_, turnE k.e⟩ := by cases k; rfl

theorem b110 : HB110 := by
  intro N o _ hp hN
  simp only [pre110, mu110] at hp hN
  rw [massOp_e] at hp hN
  have hpos := massE_pos o.e
  refine vc110 _ _ _ ?_
  rintro y hy
  (simp only [bif_tl, bif_fr, bif_tlf, bif_frf, Bool.not_eq_true', Bool.not_eq_false', decide_eq_true_eq, decide_eq_false_iff_not, beq_iff_eq, beq_eq_false_iff_ne, bne_iff_ne, ne_eq, bne_eq_false_iff_eq, Bool.or_eq_true, Bool.and_eq_true, Bool.or_eq_false_iff, Bool.and_eq_false_imp])
  refine ⟨fun h => ?_, fun h => ⟨fun h2 => ?_, fun h2 => ⟨fun h3 => ⟨by simp only [pre79, hy]; omega, by simp only [mu79, hy]; omega, ?_⟩, fun h3 => ?_⟩⟩⟩
  · have e : turnOp o = ⟨2, o.n, o.l, o.e⟩ := by rw [turnOp_at, if_pos h]
    simp only [res110, e]
    (repeat' (first | exact trivial | exact rfl | refine And.intro ?_ ?_))
  · have e : turnOp o = ⟨1, o.n, o.l, o.e⟩ := by rw [turnOp_at, if_neg h, if_pos h2]
    simp only [res110, e]
    (repeat' (first | exact trivial | exact rfl | refine And.intro ?_ ?_))
  · have e : turnOp o = ⟨o.kind, o.n, o.l, turnE o.e⟩ := by rw [turnOp_at, if_neg h, if_neg h2, if_pos h3]
    simp only [res110, e]
    rw [hy]
    (repeat' (first | exact trivial | exact rfl | refine And.intro ?_ ?_))
  · have e : turnOp o = ⟨o.kind, o.n, o.l, o.e⟩ := by rw [turnOp_at, if_neg h, if_neg h2, if_neg h3]
    simp only [res110, e]
    (repeat' (first | exact trivial | exact rfl | refine And.intro ?_ ?_))

theorem b79 : HB79 := by
  intro N e _ hp hN
  simp only [pre79, mu79] at hp hN
  have h1 := len_massE e
  have h2 := massKs_len e.kids
  have h3 := massOs_len e.ops
  have ha := turnE_at e
  refine vc79 _ _ _ ?_
  refine loop_rule (ι := Int × List WEdit) (fun s => head79_0 e s.1 s.2) (fun s => 0 ≤ s.1 ∧ s.1 ≤ e.words.length ∧ s.2.length = s.1 ∧ s.2 ++ (e.words.drop s.1.toNat).map turnW = e.words.map turnW) (fun s => ((e.words.length : Int) - s.1).toNat) (0, []) rfl ⟨by simp, by simp, by simp, by simp⟩ ?_
  rintro ⟨i, ws⟩ ⟨g1, g2, g3, g4⟩
  dsimp only at g1 g2 g3 g4
  refine vc79_l0 _ _ _ _ _ _ ?_
  (simp only [bif_tl, bif_fr, bif_tlf, bif_frf, Bool.not_eq_true', Bool.not_eq_false', decide_eq_true_eq, decide_eq_false_iff_not, beq_iff_eq, beq_eq_false_iff_ne, bne_iff_ne, ne_eq, bne_eq_false_iff_eq, Bool.or_eq_true, Bool.and_eq_true, Bool.or_eq_false_iff, Bool.and_eq_false_imp])
  refine ⟨fun hi => ?_, fun hi => ?_⟩
  · rw [dropI g1 hi (WEdit.mk 0 0 0 0)] at g4
    simp only [List.map_cons] at g4
    refine ⟨⟨g1, hi⟩, by simp; omega, by unfold InR; omega, (i + 1, ws ++ [turnW (e.words.getD i.toNat (WEdit.mk 0 0 0 0))]), rfl, ⟨by dsimp only; omega, by dsimp only; omega, by simp; omega, ?_⟩, by dsimp only; omega⟩
    simp only [List.append_assoc, List.cons_append, List.nil_append]
    exact g4
  · rw [List.drop_of_length_le (by omega)] at g4
    simp only [List.map_nil, List.append_nil] at g4
    refine loop_rule (ι := Int × List Kid) (fun s => head79_1 e ws s.1 s.2) (fun s => 0 ≤ s.1 ∧ s.1 ≤ e.kids.length ∧ s.2.length = s.1 ∧ s.2 ++ turnKs (e.kids.drop s.1.toNat) = turnKs e.kids) (fun s => ((e.kids.length : Int) - s.1).toNat) (0, []) rfl ⟨by simp, by simp, by simp, by simp⟩ ?_
    rintro ⟨j, ks⟩ ⟨f1, f2, f3, f4⟩
    dsimp only at f1 f2 f3 f4
    refine vc79_l1 _ _ _ _ _ _ _ ?_
    rintro y1 hy1 y2 hy2 y3 hy3
    (simp only [bif_tl, bif_fr, bif_tlf, bif_frf, Bool.not_eq_true', Bool.not_eq_false', decide_eq_true_eq, decide_eq_false_iff_not, beq_iff_eq, beq_eq_false_iff_ne, bne_iff_ne, ne_eq, bne_eq_false_iff_eq, Bool.or_eq_true, Bool.and_eq_true, Bool.or_eq_false_iff, Bool.and_eq_false_imp])
    refine ⟨fun hj => ?_, fun hj => ?_⟩
    · have hm := massKs_mem (mem_getD (l := e.kids) (i := j.toNat) (by omega) (KidOf.mk 0 Edit.nil))
      rw [dropI f1 hj (KidOf.mk 0 Edit.nil)] at f4
      rw [← hy1] at f4 hm
      simp only [turnKs, turnKid_at] at f4
      rw [← hy2] at f4 hm
      rw [← hy3] at f4
      refine ⟨⟨f1, hj⟩, by simp only [pre79]; omega, by simp only [mu79]; omega, by simp; omega, by unfold InR; omega, (j + 1, ks ++ [⟨y1.at_, y3⟩]), rfl, ⟨by dsimp only; omega, by dsimp only; omega, by simp; omega, ?_⟩, by dsimp only; omega⟩
      simp only [List.append_assoc, List.cons_append, List.nil_append]
      exact f4
    · rw [List.drop_of_length_le (by omega)] at f4
      simp only [turnKs, List.append_nil] at f4
      refine loop_rule (ι := Int × List Op) (fun s => head79_2 e ws ks s.1 s.2) (fun s => 0 ≤ s.1 ∧ s.1 ≤ e.ops.length ∧ s.2.length = s.1 ∧ s.2 ++ turnOs (e.ops.drop s.1.toNat) = turnOs e.ops) (fun s => ((e.ops.length : Int) - s.1).toNat) (0, []) rfl ⟨by simp, by simp, by simp, by simp⟩ ?_
      rintro ⟨k, os⟩ ⟨d1, d2, d3, d4⟩
      dsimp only at d1 d2 d3 d4
      refine vc79_l2 _ _ _ _ _ _ _ _ ?_
      rintro z1 hz1 z2 hz2 z3 hz3
      (simp only [bif_tl, bif_fr, bif_tlf, bif_frf, Bool.not_eq_true', Bool.not_eq_false', decide_eq_true_eq, decide_eq_false_iff_not, beq_iff_eq, beq_eq_false_iff_ne, bne_iff_ne, ne_eq, bne_eq_false_iff_eq, Bool.or_eq_true, Bool.and_eq_true, Bool.or_eq_false_iff, Bool.and_eq_false_imp])
      refine ⟨fun hj => ?_, fun hj => ?_⟩
      · have hm := massOs_mem (mem_getD (l := e.ops) (i := k.toNat) (by omega) Op.nil)
        rw [dropI d1 hj Op.nil] at d4
        rw [← hz1, ← hz2] at d4 hm
        simp only [turnOs] at d4
        rw [← hz3] at d4
        refine ⟨⟨d1, hj⟩, by simp only [pre110]; omega, by simp only [mu110]; omega, by simp; omega, by unfold InR; omega, (k + 1, os ++ [z3]), rfl, ⟨by dsimp only; omega, by dsimp only; omega, by simp; omega, ?_⟩, by dsimp only; omega⟩
        simp only [List.append_assoc, List.cons_append, List.nil_append]
        exact d4
      · rw [List.drop_of_length_le (by omega)] at d4
        simp only [turnOs, List.append_nil] at d4
        rw [g4, f4, d4]
        simp only [res79, ha]
        (repeat' (first | exact trivial | exact rfl | refine And.intro ?_ ?_))

theorem c79_110 : Contract Try.prog cfg 79 spec79 ∧ Contract Try.prog cfg 110 spec110 := make79_110 b79 b110

end Go.AM.Ytlahjnelghpmeaa

namespace Go.AM.Ytlahjnelghpmeaa
open Go.AM Go.Proofs

theorem nrmOs_append (list : Int) : ∀ (a b : List Op) (s : Wst), nrmOs list (a ++ b) s = nrmOs list b (nrmOs list a s)
  | [], b, s => rfl
  | o :: r, b, s => by simp only [List.cons_append, nrmOs, nrmOs_append list r]

theorem keepO_keepO : ∀ (l : List Op) (m n : Int), keepO (keepO l m) n = keepO l (m + n)
  | [], m, n => by simp [keepO]
  | [o], m, n => by
    by_cases h : o.kind = 0
    · simp [keepO, h, Int.add_assoc]
    · simp [keepO, h]
  | o :: p :: r, m, n => by
    have ih := keepO_keepO (p :: r) m n
    cases hk : keepO (p :: r) m with
    | nil => cases r <;> simp [keepO] at hk; split at hk <;> cases hk
    | cons x y =>
      rw [hk] at ih
      simp only [keepO]
      rw [hk]
      simp only [keepO]
      rw [ih]

theorem keepO_cases : ∀ (l : List Op) (n : Int), keepO l n = l ++ [⟨0, n, [], Edit.nil⟩] ∨ ∃ a o, l = a ++ [o] ∧ o.kind = 0 ∧ keepO l n = a ++ [⟨o.kind, o.n + n, o.l, o.e⟩]
  | [], n => Or.inl rfl
  | [o], n => by
    by_cases h : o.kind = 0
    · exact Or.inr ⟨[], o, rfl, h, by simp [keepO, h]⟩
    · exact Or.inl (by simp [keepO, h])
  | o :: p :: r, n => by
    rcases keepO_cases (p :: r) n with h | ⟨a, q, h1, h2, h3⟩
    · exact Or.inl (by simp only [keepO, h, List.cons_append])
    · exact Or.inr ⟨o :: a, q, by rw [h1]; rfl, h2, by simp only [keepO, h3, List.cons_append]⟩

def W0 : Wst := ⟨[], [], []⟩
theorem nrm_keep (list : Int) (o : Op) (s : Wst) (h : o.kind = 0) : nrmOs list [o] s = keepW s o.n := by
  simp only [nrmOs, nrmOp_at, h, if_true]

theorem normsT_idem (l : List Tree) : normsT (normsT l) = normsT l := by
  simp only [normsT, List.map_map]
  congr 1
  funext t
  exact normT_idem t

theorem normsT_append (a b : List Tree) : normsT (a ++ b) = normsT a ++ normsT b := by simp [normsT]



end Go.AM.Ytlahjnelghpmeaa

namespace Go.AM.Ytlahjnelghpmeaa
open Go.AM Go.Proofs

def args107 : ArgM ((List Op × List Tree × List Tree × Unit) × Unit) := (.obj 0 (.cons (cWr .op 0 0) (.cons (cOwn .tree 0 1) (.cons (cOwn .tree 0 2) .nil))) .nil)
def pre107 (a : (List Op × List Tree × List Tree × Unit) × Unit) : Prop := (a.1.1).length ≤ 100000000 ∧ (a.1.2.1).length ≤ 100000000 ∧ (a.1.2.2.1).length ≤ 100000000
noncomputable def res107 (a : (List Op × List Tree × List Tree × Unit) × Unit) : V U := .tup []
noncomputable def resX107 (a : (List Op × List Tree × List Tree × Unit) × Unit) : List (List (C U)) := [[.mref (.x 0 0), .slice (U := U) .tree ((flushW (Wst.mk a.1.1 a.1.2.1 a.1.2.2.1)).gone) (.own (.x 0 1)), .slice (U := U) .tree ((flushW (Wst.mk a.1.1 a.1.2.1 a.1.2.2.1)).brought) (.own (.x 0 2))]]
noncomputable def resL107 (a : (List Op × List Tree × List Tree × Unit) × Unit) : List (Tok × LC U) := [(.x 0 0, LC.mk (U := U) .op ((flushW (Wst.mk a.1.1 a.1.2.1 a.1.2.2.1)).out) 0)]
noncomputable def spec107 : Fs U := fsXL args107 (fun a => [pre107 a]) res107 resX107 resL107

def args105 : ArgM ((List Op × List Tree × List Tree × Unit) × Int × Unit) := (.obj 0 (.cons (cWr .op 0 0) (.cons (cOwn .tree 0 1) (.cons (cOwn .tree 0 2) .nil))) (.cons (aInt .i64) .nil))
def pre105 (a : (List Op × List Tree × List Tree × Unit) × Int × Unit) : Prop := (a.1.1).length ≤ 100000000 ∧ (a.1.2.1).length ≤ 100000000 ∧ (a.1.2.2.1).length ≤ 100000000 ∧ (∀ o ∈ a.1.1, 0 ≤ o.n ∧ o.n ≤ 100000000000000) ∧ 0 ≤ a.2.1 ∧ a.2.1 ≤ 1048576
noncomputable def res105 (a : (List Op × List Tree × List Tree × Unit) × Int × Unit) : V U := .tup []
noncomputable def resX105 (a : (List Op × List Tree × List Tree × Unit) × Int × Unit) : List (List (C U)) := [[.mref (.x 0 0), .slice (U := U) .tree ((keepW (Wst.mk a.1.1 a.1.2.1 a.1.2.2.1) a.2.1).gone) (.own (.x 0 1)), .slice (U := U) .tree ((keepW (Wst.mk a.1.1 a.1.2.1 a.1.2.2.1) a.2.1).brought) (.own (.x 0 2))]]
noncomputable def resL105 (a : (List Op × List Tree × List Tree × Unit) × Int × Unit) : List (Tok × LC U) := [(.x 0 0, LC.mk (U := U) .op ((keepW (Wst.mk a.1.1 a.1.2.1 a.1.2.2.1) a.2.1).out) 0)]
noncomputable def spec105 : Fs U := fsXL args105 (fun a => [pre105 a]) res105 resX105 resL105

def args106 : ArgM ((List Op × List Tree × List Tree × Unit) × List Tree × Unit) := (.objAt 0 1 (.cons (cWr .op 0 0) (.cons (cOwn .tree 0 1) (.cons (cOwn .tree 0 2) .nil))) (.cons (aSl .tree) .nil))
def pre106 (a : (List Op × List Tree × List Tree × Unit) × List Tree × Unit) : Prop := (a.1.1).length ≤ 100000000 ∧ (a.1.2.1).length ≤ 100000000 ∧ (a.1.2.2.1).length ≤ 100000000 ∧ massK a.2.1 ≤ 1000000
noncomputable def res106 (a : (List Op × List Tree × List Tree × Unit) × List Tree × Unit) : V U := .tup []
noncomputable def resX106 (a : (List Op × List Tree × List Tree × Unit) × List Tree × Unit) : List (List (C U)) := [[.mref (.x 0 0), .slice (U := U) .tree ((Wst.mk a.1.1 (a.1.2.1 ++ normsT a.2.1) a.1.2.2.1).gone) (.own (.x 0 1)), .slice (U := U) .tree ((Wst.mk a.1.1 (a.1.2.1 ++ normsT a.2.1) a.1.2.2.1).brought) (.own (.x 0 2))]]
noncomputable def resL106 (a : (List Op × List Tree × List Tree × Unit) × List Tree × Unit) : List (Tok × LC U) := [(.x 0 0, LC.mk (U := U) .op ((Wst.mk a.1.1 (a.1.2.1 ++ normsT a.2.1) a.1.2.2.1).out) 0)]
noncomputable def spec106 : Fs U := fsXL args106 (fun a => [pre106 a]) res106 resX106 resL106

def args1106 : ArgM ((List Op × List Tree × List Tree × Unit) × List Tree × Unit) := (.objAt 0 2 (.cons (cWr .op 0 0) (.cons (cOwn .tree 0 1) (.cons (cOwn .tree 0 2) .nil))) (.cons (aSl .tree) .nil))
def pre1106 (a : (List Op × List Tree × List Tree × Unit) × List Tree × Unit) : Prop := (a.1.1).length ≤ 100000000 ∧ (a.1.2.1).length ≤ 100000000 ∧ (a.1.2.2.1).length ≤ 100000000 ∧ massK a.2.1 ≤ 1000000
noncomputable def res1106 (a : (List Op × List Tree × List Tree × Unit) × List Tree × Unit) : V U := .tup []
noncomputable def resX1106 (a : (List Op × List Tree × List Tree × Unit) × List Tree × Unit) : List (List (C U)) := [[.mref (.x 0 0), .slice (U := U) .tree ((Wst.mk a.1.1 a.1.2.1 (a.1.2.2.1 ++ normsT a.2.1)).gone) (.own (.x 0 1)), .slice (U := U) .tree ((Wst.mk a.1.1 a.1.2.1 (a.1.2.2.1 ++ normsT a.2.1)).brought) (.own (.x 0 2))]]
noncomputable def resL1106 (a : (List Op × List Tree × List Tree × Unit) × List Tree × Unit) : List (Tok × LC U) := [(.x 0 0, LC.mk (U := U) .op ((Wst.mk a.1.1 a.1.2.1 (a.1.2.2.1 ++ normsT a.2.1)).out) 0)]
noncomputable def spec1106 : Fs U := fsXL args1106 (fun a => [pre1106 a]) res1106 resX1106 resL1106

def args1042 : ArgL (Int × Edit × Unit) := (.cons (aInt .i64) (.cons (aEl .edit) .nil))
def pre1042 (a : Int × Edit × Unit) : Prop := (Edit.words a.2.1).length ≤ 1000000 ∧ (Edit.kids a.2.1).length ≤ 1000000
noncomputable def res1042 (a : Int × Edit × Unit) : V U := .c (.bool (idleE a.1 a.2.1))
noncomputable def spec1042 : Fs U := fs args1042 (fun a => [pre1042 a]) res1042

def args1109 : ArgL (Int × Edit × Unit) := (.cons (aInt .i64) (.cons (aEl .edit) .nil))
def pre1109 (a : Int × Edit × Unit) : Prop := True
noncomputable def res1109 (a : Int × Edit × Unit) : V U := .c (.bool (idleE a.1 a.2.1))
noncomputable def spec1109 : Fs U := fs args1109 (fun a => [pre1109 a]) res1109

noncomputable def know107 : List (FuncId × Fs U) := []
def lv107 : Lives U := fun i => match i with
  | 0 => ([(0, []), (7, [])], [((.x 0), [.wr .op])])
  | 1 => ([(0, [])], [((.x 0), [.wr .op])])
  | 2 => ([(0, []), (28, [])], [((.x 0), [.wr .op])])
  | 3 => ([(0, [])], [((.x 0), [.wr .op])])
  | 4 => ([], [((.x 0), [.wr .op])])
  | _ => ([], [])
abbrev W107 (wo : List Op) (wg : List Tree) (wb : List Tree) (Q : AExit → LSt U → Prop) : Prop := awp cfg (know know107) (drawOk cfg (know know107)) Try.f107.ntmps lv107 (cd Try.f107 []) (⟨[(0, .ptr (.x 0) 0)], [((.x 0), [.mref (.x 0 0), .slice (U := U) .tree wg (.own (.x 0 1)), .slice (U := U) .tree wb (.own (.x 0 2))])], [(.x 0 0, LC.mk (U := U) .op wo 0)]⟩ : LSt U) Q
theorem vc107 (wo : List Op) (wg : List Tree) (wb : List Tree) (Q : AExit → LSt U → Prop) (h : ∀ y_1, y_1 = (Edit.mk 0 (Tree.mk 0 ([]) ([])) (Tree.mk 0 ([]) ([])) ([]) ([]) 0 ([])) → ∀ y_2, y_2 = (List.set (wo ++ ([(OpOf.mk 0 0 ([]) y_1 : Op)])) (Int.toNat (wo.length : Int)) (OpOf.mk 1 0 wg y_1 : Op)) → ((decide ((0 : Int) < (wg.length : Int))) = true → ((wo.length + ([(OpOf.mk 0 0 ([]) y_1 : Op)]).length) * 240 ≤ 140737488355328) ∧ ((0 : Int) ≤ (wo.length : Int) ∧ (wo.length : Int) < ((wo ++ ([(OpOf.mk 0 0 ([]) y_1 : Op)])).length : Int)) ∧ ((0 : Nat) ≤ (Int.toNat (wo.length : Int))) ∧ (((decide ((0 : Int) < (wb.length : Int))) = true → ((y_2.length + ([(OpOf.mk 0 0 ([]) y_1 : Op)]).length) * 240 ≤ 140737488355328) ∧ ((0 : Int) ≤ (y_2.length : Int) ∧ (y_2.length : Int) < ((y_2 ++ ([(OpOf.mk 0 0 ([]) y_1 : Op)])).length : Int)) ∧ ((0 : Nat) ≤ (Int.toNat (y_2.length : Int))) ∧ (Q .normal (⟨[], [((.x 0), [.mref (.x 0 0), .nils, .nils])], [(.x 0 0, LC.mk (U := U) .op (List.set (y_2 ++ ([(OpOf.mk 0 0 ([]) y_1 : Op)])) (Int.toNat (y_2.length : Int)) (OpOf.mk 2 0 wb y_1 : Op)) 0)]⟩ : LSt U))) ∧ ((decide ((0 : Int) < (wb.length : Int))) = false → Q .normal (⟨[], [((.x 0), [.mref (.x 0 0), .nils, .nils])], [(.x 0 0, LC.mk (U := U) .op y_2 0)]⟩ : LSt U)))) ∧ ((decide ((0 : Int) < (wg.length : Int))) = false → ((decide ((0 : Int) < (wb.length : Int))) = true → ((wo.length + ([(OpOf.mk 0 0 ([]) y_1 : Op)]).length) * 240 ≤ 140737488355328) ∧ ((0 : Int) ≤ (wo.length : Int) ∧ (wo.length : Int) < ((wo ++ ([(OpOf.mk 0 0 ([]) y_1 : Op)])).length : Int)) ∧ ((0 : Nat) ≤ (Int.toNat (wo.length : Int))) ∧ (Q .normal (⟨[], [((.x 0), [.mref (.x 0 0), .nils, .nils])], [(.x 0 0, LC.mk (U := U) .op (List.set (wo ++ ([(OpOf.mk 0 0 ([]) y_1 : Op)])) (Int.toNat (wo.length : Int)) (OpOf.mk 2 0 wb y_1 : Op)) 0)]⟩ : LSt U))) ∧ ((decide ((0 : Int) < (wb.length : Int))) = false → Q .normal (⟨[], [((.x 0), [.mref (.x 0 0), .nils, .nils])], [(.x 0 0, LC.mk (U := U) .op wo 0)]⟩ : LSt U)))) :
    W107 wo wg wb Q := by
  have e_ : (W107 wo wg wb Q) = (let y_1 := (Edit.mk 0 (Tree.mk 0 ([]) ([])) (Tree.mk 0 ([]) ([])) ([]) ([]) 0 ([])); let y_2 := (List.set (wo ++ ([(OpOf.mk 0 0 ([]) y_1 : Op)])) (Int.toNat (wo.length : Int)) (OpOf.mk 1 0 wg y_1 : Op)); (((decide ((0 : Int) < (wg.length : Int))) = true → ((wo.length + ([(OpOf.mk 0 0 ([]) y_1 : Op)]).length) * 240 ≤ 140737488355328) ∧ ((0 : Int) ≤ (wo.length : Int) ∧ (wo.length : Int) < ((wo ++ ([(OpOf.mk 0 0 ([]) y_1 : Op)])).length : Int)) ∧ ((0 : Nat) ≤ (Int.toNat (wo.length : Int))) ∧ ((((decide ((0 : Int) < (wb.length : Int))) = true → ((y_2.length + ([(OpOf.mk 0 0 ([]) y_1 : Op)]).length) * 240 ≤ 140737488355328) ∧ ((0 : Int) ≤ (y_2.length : Int) ∧ (y_2.length : Int) < ((y_2 ++ ([(OpOf.mk 0 0 ([]) y_1 : Op)])).length : Int)) ∧ ((0 : Nat) ≤ (Int.toNat (y_2.length : Int))) ∧ ((Q .normal (⟨[], [((.x 0), [.mref (.x 0 0), .nils, .nils])], [(.x 0 0, LC.mk (U := U) .op (List.set (y_2 ++ ([(OpOf.mk 0 0 ([]) y_1 : Op)])) (Int.toNat (y_2.length : Int)) (OpOf.mk 2 0 wb y_1 : Op)) 0)]⟩ : LSt U)))) ∧ ((decide ((0 : Int) < (wb.length : Int))) = false → (Q .normal (⟨[], [((.x 0), [.mref (.x 0 0), .nils, .nils])], [(.x 0 0, LC.mk (U := U) .op y_2 0)]⟩ : LSt U)))))) ∧ ((decide ((0 : Int) < (wg.length : Int))) = false → (((decide ((0 : Int) < (wb.length : Int))) = true → ((wo.length + ([(OpOf.mk 0 0 ([]) y_1 : Op)]).length) * 240 ≤ 140737488355328) ∧ ((0 : Int) ≤ (wo.length : Int) ∧ (wo.length : Int) < ((wo ++ ([(OpOf.mk 0 0 ([]) y_1 : Op)])).length : Int)) ∧ ((0 : Nat) ≤ (Int.toNat (wo.length : Int))) ∧ ((Q .normal (⟨[], [((.x 0), [.mref (.x 0 0), .nils, .nils])], [(.x 0 0, LC.mk (U := U) .op (List.set (wo ++ ([(OpOf.mk 0 0 ([]) y_1 : Op)])) (Int.toNat (wo.length : Int)) (OpOf.mk 2 0 wb y_1 : Op)) 0)]⟩ : LSt U)))) ∧ ((decide ((0 : Int) < (wb.length : Int))) = false → (Q .normal (⟨[], [((.x 0), [.mref (.x 0 0), .nils, .nils])], [(.x 0 0, LC.mk (U := U) .op wo 0)]⟩ : LSt U))))))) := by kernel_rfl
  exact e_.mpr (by intro y_1 y_2; have hh := h y_1 rfl y_2 rfl; exact ⟨fun c_1 => ⟨(hh.1 c_1).1, (hh.1 c_1).2.1, (hh.1 c_1).2.2.1, ⟨fun c_2 => ⟨((hh.1 c_1).2.2.2.1 c_2).1, ((hh.1 c_1).2.2.2.1 c_2).2.1, ((hh.1 c_1).2.2.2.1 c_2).2.2.1, ((hh.1 c_1).2.2.2.1 c_2).2.2.2⟩, fun c_2 => ((hh.1 c_1).2.2.2.2 c_2)⟩⟩, fun c_1 => ⟨fun c_3 => ⟨((hh.2 c_1).1 c_3).1, ((hh.2 c_1).1 c_3).2.1, ((hh.2 c_1).1 c_3).2.2.1, ((hh.2 c_1).1 c_3).2.2.2⟩, fun c_3 => ((hh.2 c_1).2 c_3)⟩⟩)
def Body107 (wo : List Op) (wg : List Tree) (wb : List Tree)  : Prop := awp cfg (know (know107)) (drawOk cfg (know (know107))) Try.f107.ntmps lv107 (cd Try.f107 []) (entryL (args107.can ((wo, wg, wb, ()), ())) (args107.canX ((wo, wg, wb, ()), ())) (args107.canL ((wo, wg, wb, ()), ()))) (EndsQL cfg Try.f107.ntmps Try.f107.results.toList (res107 ((wo, wg, wb, ()), ())) (resX107 ((wo, wg, wb, ()), ())) (resL107 ((wo, wg, wb, ()), ())))
theorem make107 (hb : ∀ (wo : List Op) (wg : List Tree) (wb : List Tree) (_ : Unit), pre107 ((wo, wg, wb, ()), ()) → Body107 wo wg wb) : Contract Try.prog cfg 107 spec107 :=
  contractXL_flat (l := []) cfgOk rfl (trivial) lv107 Try.func107 rfl rfl 1 (fun _ => rfl) (by decide) (fun ⟨⟨wo, wg, wb, _⟩, _⟩ => hb wo wg wb ())

noncomputable def know105 : List (FuncId × Fs U) := [(107, spec107)]
def lv105 : Lives U := fun i => match i with
  | 0 => ([(0, []), (1, [])], [((.x 0), [.wr .op])])
  | 1 => ([(0, []), (1, []), (4, [])], [((.x 0), [.wr .op])])
  | 2 => ([(0, []), (1, []), (4, []), (25, [])], [((.x 0), [.wr .op])])
  | 3 => ([], [((.x 0), [.wr .op])])
  | 4 => ([], [((.x 0), [.wr .op])])
  | _ => ([], [])
abbrev W105 (wo : List Op) (wg : List Tree) (wb : List Tree) (n : Int) (Q : AExit → LSt U → Prop) : Prop := awp cfg (know know105) (drawOk cfg (know know105)) Try.f105.ntmps lv105 (cd Try.f105 []) (⟨[(0, .ptr (.x 0) 0), (1, .c (.int .i64 n))], [((.x 0), [.mref (.x 0 0), .slice (U := U) .tree wg (.own (.x 0 1)), .slice (U := U) .tree wb (.own (.x 0 2))])], [(.x 0 0, LC.mk (U := U) .op wo 0)]⟩ : LSt U) Q
theorem vc105 (wo : List Op) (wg : List Tree) (wb : List Tree) (n : Int) (Q : AExit → LSt U → Prop) (h : ∀ y_1, y_1 = (Edit.mk 0 (Tree.mk 0 ([]) ([])) (Tree.mk 0 ([]) ([])) ([]) ([]) 0 ([])) → ∀ y_2, y_2 = (Int.toNat (((((flushW (Wst.mk wo wg wb)).out).length : Int) : Int) - 1)) → ∀ y_3, y_3 = (List.getD ((flushW (Wst.mk wo wg wb)).out) y_2 Op.nil) → ∀ y_4, y_4 = ((OpOf.e y_3)) → (pre107 ((wo, wg, wb, ()), ())) ∧ ((InR (((((flushW (Wst.mk wo wg wb)).out).length : Int) : Int) - 1)) ∧ (((decide ((0 : Int) ≤ (((((flushW (Wst.mk wo wg wb)).out).length : Int) : Int) - 1))) = true → (0 : Int) ≤ (((((flushW (Wst.mk wo wg wb)).out).length : Int) : Int) - 1) ∧ (((((flushW (Wst.mk wo wg wb)).out).length : Int) : Int) - 1) < (((flushW (Wst.mk wo wg wb)).out).length : Int)) ∧ (((bif (decide ((0 : Int) ≤ (((((flushW (Wst.mk wo wg wb)).out).length : Int) : Int) - 1))) then (((OpOf.kind y_3) : Int) == 0) else false) = true → ((0 : Int) ≤ (((((flushW (Wst.mk wo wg wb)).out).length : Int) : Int) - 1) ∧ (((((flushW (Wst.mk wo wg wb)).out).length : Int) : Int) - 1) < (((flushW (Wst.mk wo wg wb)).out).length : Int)) ∧ (InR (((OpOf.n y_3) : Int) + n)) ∧ ((0 : Int) ≤ (((((flushW (Wst.mk wo wg wb)).out).length : Int) : Int) - 1) ∧ (((((flushW (Wst.mk wo wg wb)).out).length : Int) : Int) - 1) < (((flushW (Wst.mk wo wg wb)).out).length : Int)) ∧ ((0 : Nat) ≤ y_2) ∧ (Q .ret (⟨[], [((.x 0), [.mref (.x 0 0), .slice (U := U) .tree ((flushW (Wst.mk wo wg wb)).gone) (.own (.x 0 1)), .slice (U := U) .tree ((flushW (Wst.mk wo wg wb)).brought) (.own (.x 0 2))])], [(.x 0 0, LC.mk (U := U) .op (List.set ((flushW (Wst.mk wo wg wb)).out) y_2 (OpOf.mk (OpOf.kind y_3) (((OpOf.n y_3) : Int) + n) (OpOf.l y_3) y_4 : Op)) 0)]⟩ : LSt U))) ∧ ((bif (decide ((0 : Int) ≤ (((((flushW (Wst.mk wo wg wb)).out).length : Int) : Int) - 1))) then (((OpOf.kind y_3) : Int) == 0) else false) = false → ((((flushW (Wst.mk wo wg wb)).out).length + ([(OpOf.mk 0 0 ([]) y_1 : Op)]).length) * 240 ≤ 140737488355328) ∧ ((0 : Int) ≤ (((flushW (Wst.mk wo wg wb)).out).length : Int) ∧ (((flushW (Wst.mk wo wg wb)).out).length : Int) < ((((flushW (Wst.mk wo wg wb)).out) ++ ([(OpOf.mk 0 0 ([]) y_1 : Op)])).length : Int)) ∧ ((0 : Nat) ≤ (Int.toNat (((flushW (Wst.mk wo wg wb)).out).length : Int))) ∧ (Q .normal (⟨[], [((.x 0), [.mref (.x 0 0), .slice (U := U) .tree ((flushW (Wst.mk wo wg wb)).gone) (.own (.x 0 1)), .slice (U := U) .tree ((flushW (Wst.mk wo wg wb)).brought) (.own (.x 0 2))])], [(.x 0 0, LC.mk (U := U) .op (List.set (((flushW (Wst.mk wo wg wb)).out) ++ ([(OpOf.mk 0 0 ([]) y_1 : Op)])) (Int.toNat (((flushW (Wst.mk wo wg wb)).out).length : Int)) (OpOf.mk 0 n ([]) y_1 : Op)) 0)]⟩ : LSt U))))))) :
    W105 wo wg wb n Q := by
  have e_ : (W105 wo wg wb n Q) = (let y_1 := (Edit.mk 0 (Tree.mk 0 ([]) ([])) (Tree.mk 0 ([]) ([])) ([]) ([]) 0 ([])); let y_2 := (Int.toNat (((((flushW (Wst.mk wo wg wb)).out).length : Int) : Int) - 1)); let y_3 := (List.getD ((flushW (Wst.mk wo wg wb)).out) y_2 Op.nil); let y_4 := (reEdit (OpOf.e y_3)); (pre107 ((wo, wg, wb, ()), ())) ∧ ((InR (((((flushW (Wst.mk wo wg wb)).out).length : Int) : Int) - 1)) ∧ (((decide ((0 : Int) ≤ (((((flushW (Wst.mk wo wg wb)).out).length : Int) : Int) - 1))) = true → (decide ((0 : Int) ≤ (((((flushW (Wst.mk wo wg wb)).out).length : Int) : Int) - 1))) = true) ∧ ((decide ((0 : Int) ≤ (((((flushW (Wst.mk wo wg wb)).out).length : Int) : Int) - 1))) = true → (decide ((0 : Int) ≤ (((((flushW (Wst.mk wo wg wb)).out).length : Int) : Int) - 1))) = true) ∧ ((decide ((0 : Int) ≤ (((((flushW (Wst.mk wo wg wb)).out).length : Int) : Int) - 1))) = true → (decide ((0 : Int) ≤ (((((flushW (Wst.mk wo wg wb)).out).length : Int) : Int) - 1))) = true) ∧ ((decide ((0 : Int) ≤ (((((flushW (Wst.mk wo wg wb)).out).length : Int) : Int) - 1))) = true → (decide ((0 : Int) ≤ (((((flushW (Wst.mk wo wg wb)).out).length : Int) : Int) - 1))) = true) ∧ ((decide ((0 : Int) ≤ (((((flushW (Wst.mk wo wg wb)).out).length : Int) : Int) - 1))) = true → (decide ((0 : Int) ≤ (((((flushW (Wst.mk wo wg wb)).out).length : Int) : Int) - 1))) = true) ∧ ((decide ((0 : Int) ≤ (((((flushW (Wst.mk wo wg wb)).out).length : Int) : Int) - 1))) = true → (0 : Int) ≤ (((((flushW (Wst.mk wo wg wb)).out).length : Int) : Int) - 1) ∧ (((((flushW (Wst.mk wo wg wb)).out).length : Int) : Int) - 1) < (((flushW (Wst.mk wo wg wb)).out).length : Int)) ∧ ((decide ((0 : Int) ≤ (((((flushW (Wst.mk wo wg wb)).out).length : Int) : Int) - 1))) = true → (decide ((0 : Int) ≤ (((((flushW (Wst.mk wo wg wb)).out).length : Int) : Int) - 1))) = true) ∧ ((decide ((0 : Int) ≤ (((((flushW (Wst.mk wo wg wb)).out).length : Int) : Int) - 1))) = true → (decide ((0 : Int) ≤ (((((flushW (Wst.mk wo wg wb)).out).length : Int) : Int) - 1))) = true) ∧ ((decide ((0 : Int) ≤ (((((flushW (Wst.mk wo wg wb)).out).length : Int) : Int) - 1))) = true → (decide ((0 : Int) ≤ (((((flushW (Wst.mk wo wg wb)).out).length : Int) : Int) - 1))) = true) ∧ (((decide ((0 : Int) ≤ (((((flushW (Wst.mk wo wg wb)).out).length : Int) : Int) - 1))) = true → (decide ((0 : Int) ≤ (((((flushW (Wst.mk wo wg wb)).out).length : Int) : Int) - 1))) = true)) ∧ (((bif (decide ((0 : Int) ≤ (((((flushW (Wst.mk wo wg wb)).out).length : Int) : Int) - 1))) then (((OpOf.kind y_3) : Int) == 0) else false) = true → ((0 : Int) ≤ (((((flushW (Wst.mk wo wg wb)).out).length : Int) : Int) - 1) ∧ (((((flushW (Wst.mk wo wg wb)).out).length : Int) : Int) - 1) < (((flushW (Wst.mk wo wg wb)).out).length : Int)) ∧ (InR (((OpOf.n y_3) : Int) + n)) ∧ ((0 : Int) ≤ (((((flushW (Wst.mk wo wg wb)).out).length : Int) : Int) - 1) ∧ (((((flushW (Wst.mk wo wg wb)).out).length : Int) : Int) - 1) < (((flushW (Wst.mk wo wg wb)).out).length : Int)) ∧ ((0 : Nat) ≤ y_2) ∧ (Q .ret (⟨[], [((.x 0), [.mref (.x 0 0), .slice (U := U) .tree ((flushW (Wst.mk wo wg wb)).gone) (.own (.x 0 1)), .slice (U := U) .tree ((flushW (Wst.mk wo wg wb)).brought) (.own (.x 0 2))])], [(.x 0 0, LC.mk (U := U) .op (List.set ((flushW (Wst.mk wo wg wb)).out) y_2 (OpOf.mk (OpOf.kind y_3) (((OpOf.n y_3) : Int) + n) (OpOf.l y_3) y_4 : Op)) 0)]⟩ : LSt U))) ∧ ((bif (decide ((0 : Int) ≤ (((((flushW (Wst.mk wo wg wb)).out).length : Int) : Int) - 1))) then (((OpOf.kind y_3) : Int) == 0) else false) = false → ((((flushW (Wst.mk wo wg wb)).out).length + ([(OpOf.mk 0 0 ([]) y_1 : Op)]).length) * 240 ≤ 140737488355328) ∧ ((0 : Int) ≤ (((flushW (Wst.mk wo wg wb)).out).length : Int) ∧ (((flushW (Wst.mk wo wg wb)).out).length : Int) < ((((flushW (Wst.mk wo wg wb)).out) ++ ([(OpOf.mk 0 0 ([]) y_1 : Op)])).length : Int)) ∧ ((0 : Nat) ≤ (Int.toNat (((flushW (Wst.mk wo wg wb)).out).length : Int))) ∧ (Q .normal (⟨[], [((.x 0), [.mref (.x 0 0), .slice (U := U) .tree ((flushW (Wst.mk wo wg wb)).gone) (.own (.x 0 1)), .slice (U := U) .tree ((flushW (Wst.mk wo wg wb)).brought) (.own (.x 0 2))])], [(.x 0 0, LC.mk (U := U) .op (List.set (((flushW (Wst.mk wo wg wb)).out) ++ ([(OpOf.mk 0 0 ([]) y_1 : Op)])) (Int.toNat (((flushW (Wst.mk wo wg wb)).out).length : Int)) (OpOf.mk 0 n ([]) y_1 : Op)) 0)]⟩ : LSt U))))))) := by kernel_rfl
  exact e_.mpr (by intro y_1 y_2 y_3 y_4; have hh := h y_1 rfl y_2 rfl y_3 rfl y_4 (reEdit_eq _); exact ⟨hh.1, ⟨hh.2.1, ⟨fun x => x, fun x => x, fun x => x, fun x => x, fun x => x, hh.2.2.1, fun x => x, fun x => x, fun x => x, (by generalize (decide ((0 : Int) ≤ (((((flushW (Wst.mk wo wg wb)).out).length : Int) : Int) - 1))) = b0; revert b0; decide), ⟨fun c_4 => ⟨(hh.2.2.2.1 c_4).1, (hh.2.2.2.1 c_4).2.1, (hh.2.2.2.1 c_4).2.2.1, (hh.2.2.2.1 c_4).2.2.2.1, (hh.2.2.2.1 c_4).2.2.2.2⟩, fun c_4 => ⟨(hh.2.2.2.2 c_4).1, (hh.2.2.2.2 c_4).2.1, (hh.2.2.2.2 c_4).2.2.1, (hh.2.2.2.2 c_4).2.2.2⟩⟩⟩⟩⟩)
def Body105 (wo : List Op) (wg : List Tree) (wb : List Tree) (n : Int)  : Prop := awp cfg (know (know105)) (drawOk cfg (know (know105))) Try.f105.ntmps lv105 (cd Try.f105 []) (entryL (args105.can ((wo, wg, wb, ()), n, ())) (args105.canX ((wo, wg, wb, ()), n, ())) (args105.canL ((wo, wg, wb, ()), n, ()))) (EndsQL cfg Try.f105.ntmps Try.f105.results.toList (res105 ((wo, wg, wb, ()), n, ())) (resX105 ((wo, wg, wb, ()), n, ())) (resL105 ((wo, wg, wb, ()), n, ())))
theorem make105 (c107 : Contract Try.prog cfg 107 spec107) (hb : ∀ (wo : List Op) (wg : List Tree) (wb : List Tree) (n : Int) (_ : Unit), pre105 ((wo, wg, wb, ()), n, ()) → Body105 wo wg wb n) : Contract Try.prog cfg 105 spec105 :=
  contractXL_flat (l := [(107, spec107)]) cfgOk rfl (⟨c107, trivial⟩) lv105 Try.func105 rfl rfl 2 (fun _ => rfl) (by decide) (fun ⟨⟨wo, wg, wb, _⟩, n, _⟩ => hb wo wg wb n ())

noncomputable def know106 : List (FuncId × Fs U) := [(32, spec32)]
def lv106 : Lives U := fun i => match i with
  | 0 => ([(0, []), (6, []), (7, []), (8, [])], [((.x 0), [.wr .op])])
  | 1 => ([(0, []), (6, []), (7, []), (8, []), (9, [])], [((.x 0), [.wr .op])])
  | 2 => ([(0, []), (5, []), (6, []), (7, []), (8, [])], [((.loc 5), []), ((.x 0), [.wr .op])])
  | 3 => ([(0, []), (6, []), (7, []), (8, [])], [((.x 0), [.wr .op])])
  | 4 => ([(0, []), (6, []), (7, []), (8, [])], [((.x 0), [.wr .op])])
  | _ => ([], [])
def head106_0 (wo : List Op) (wg : List Tree) (wb : List Tree) (l : List Tree) (x8 : Int) (mx0_1 : List Tree) : LSt U := (⟨[(0, .ptr (.x 0) 1), (6, .c (.slice (U := U) .tree l .unk)), (7, .c (.int .i64 (l.length : Int))), (8, .c (.int .i64 x8))], [((.x 0), [.mref (.x 0 0), .slice (U := U) .tree mx0_1 (.own (.x 0 1)), .slice (U := U) .tree wb (.own (.x 0 2))])], [(.x 0 0, LC.mk (U := U) .op wo 0)]⟩ : LSt U)
abbrev W106 (wo : List Op) (wg : List Tree) (wb : List Tree) (l : List Tree) (Q : AExit → LSt U → Prop) : Prop := awp cfg (know know106) (drawOk cfg (know know106)) Try.f106.ntmps lv106 (cd Try.f106 []) (⟨[(0, .ptr (.x 0) 1), (1, .c (.slice (U := U) .tree l .unk))], [((.x 0), [.mref (.x 0 0), .slice (U := U) .tree wg (.own (.x 0 1)), .slice (U := U) .tree wb (.own (.x 0 2))])], [(.x 0 0, LC.mk (U := U) .op wo 0)]⟩ : LSt U) Q
theorem vc106 (wo : List Op) (wg : List Tree) (wb : List Tree) (l : List Tree) (Q : AExit → LSt U → Prop) (h : LoopWp (awp cfg (know know106) (drawOk cfg (know know106)) Try.f106.ntmps lv106 (cd Try.f106 [1, 0, 0])) (head106_0 wo wg wb l 0 wg) (AExit.inBlock 0 Q)) :
    W106 wo wg wb l Q := by
  have e_ : (W106 wo wg wb l Q) = (type_of% h) := by kernel_rfl
  exact e_.mpr h
abbrev W106_l0 (wo : List Op) (wg : List Tree) (wb : List Tree) (l : List Tree) (x8 : Int) (mx0_1 : List Tree) (N0 : LSt U → Prop) (Q : AExit → LSt U → Prop) : Prop := awp cfg (know know106) (drawOk cfg (know know106)) Try.f106.ntmps lv106 (cd Try.f106 [1, 0, 0]) (head106_0 wo wg wb l x8 mx0_1) (AExit.then N0 (AExit.inBlock 0 Q))
theorem vc106_l0 (wo : List Op) (wg : List Tree) (wb : List Tree) (l : List Tree) (x8 : Int) (mx0_1 : List Tree) (N0 : LSt U → Prop) (Q : AExit → LSt U → Prop) (h : ((decide ((x8 : Int) < (l.length : Int))) = true → ((0 : Int) ≤ x8 ∧ x8 < (l.length : Int)) ∧ ((pre32 ((Tree.mk (Tree.kind (List.getD l (Int.toNat x8) Tree.nil)) (Tree.words (List.getD l (Int.toNat x8) Tree.nil)) (Tree.kids (List.getD l (Int.toNat x8) Tree.nil))), ())) ∧ ((mx0_1.length + ([(Tree.mk 0 ([]) ([]))]).length) * 56 ≤ 140737488355328) ∧ ((0 : Int) ≤ (mx0_1.length : Int) ∧ (mx0_1.length : Int) < ((mx0_1 ++ ([(Tree.mk 0 ([]) ([]))])).length : Int)) ∧ (mx0_1.length ≤ (Int.toNat (mx0_1.length : Int))) ∧ ((InR ((x8 : Int) + 1)) ∧ (N0 (head106_0 wo wg wb l ((x8 : Int) + 1) (List.set (mx0_1 ++ ([(Tree.mk 0 ([]) ([]))])) (Int.toNat (mx0_1.length : Int)) (Tree.mk (Tree.kind (normT (Tree.mk (Tree.kind (List.getD l (Int.toNat x8) Tree.nil)) (Tree.words (List.getD l (Int.toNat x8) Tree.nil)) (Tree.kids (List.getD l (Int.toNat x8) Tree.nil))))) (Tree.words (normT (Tree.mk (Tree.kind (List.getD l (Int.toNat x8) Tree.nil)) (Tree.words (List.getD l (Int.toNat x8) Tree.nil)) (Tree.kids (List.getD l (Int.toNat x8) Tree.nil))))) (Tree.kids (normT (Tree.mk (Tree.kind (List.getD l (Int.toNat x8) Tree.nil)) (Tree.words (List.getD l (Int.toNat x8) Tree.nil)) (Tree.kids (List.getD l (Int.toNat x8) Tree.nil)))))))))))) ∧ ((decide ((x8 : Int) < (l.length : Int))) = false → Q .normal (⟨[(0, .ptr (.x 0) 1), (6, .c (.slice (U := U) .tree l .unk)), (7, .c (.int .i64 (l.length : Int))), (8, .c (.int .i64 x8)), (9, .c (.bool (decide ((x8 : Int) < (l.length : Int)))))], [((.x 0), [.mref (.x 0 0), .slice (U := U) .tree mx0_1 (.own (.x 0 1)), .slice (U := U) .tree wb (.own (.x 0 2))])], [(.x 0 0, LC.mk (U := U) .op wo 0)]⟩ : LSt U))) :
    W106_l0 wo wg wb l x8 mx0_1 N0 Q := by
  have e_ : (W106_l0 wo wg wb l x8 mx0_1 N0 Q) = (type_of% h) := by kernel_rfl
  exact e_.mpr ⟨fun c_5 => ⟨(h.1 c_5).1, ⟨(h.1 c_5).2.1, (h.1 c_5).2.2.1, (h.1 c_5).2.2.2.1, (h.1 c_5).2.2.2.2.1, ⟨(h.1 c_5).2.2.2.2.2.1, (h.1 c_5).2.2.2.2.2.2⟩⟩⟩, fun c_5 => (h.2 c_5)⟩
def Body106 (wo : List Op) (wg : List Tree) (wb : List Tree) (l : List Tree)  : Prop := awp cfg (know (know106)) (drawOk cfg (know (know106))) Try.f106.ntmps lv106 (cd Try.f106 []) (entryL (args106.can ((wo, wg, wb, ()), l, ())) (args106.canX ((wo, wg, wb, ()), l, ())) (args106.canL ((wo, wg, wb, ()), l, ()))) (EndsQL cfg Try.f106.ntmps Try.f106.results.toList (res106 ((wo, wg, wb, ()), l, ())) (resX106 ((wo, wg, wb, ()), l, ())) (resL106 ((wo, wg, wb, ()), l, ())))
theorem make106 (c32 : Contract Try.prog cfg 32 spec32) (hb : ∀ (wo : List Op) (wg : List Tree) (wb : List Tree) (l : List Tree) (_ : Unit), pre106 ((wo, wg, wb, ()), l, ()) → Body106 wo wg wb l) : Contract Try.prog cfg 106 spec106 :=
  contractXL_flat (l := [(32, spec32)]) cfgOk rfl (⟨c32, trivial⟩) lv106 Try.func106 rfl rfl 2 (fun _ => rfl) (by decide) (fun ⟨⟨wo, wg, wb, _⟩, l, _⟩ => hb wo wg wb l ())

noncomputable def know1106 : List (FuncId × Fs U) := [(32, spec32)]
def lv1106 : Lives U := fun i => match i with
  | 0 => ([(0, []), (6, []), (7, []), (8, [])], [((.x 0), [.wr .op])])
  | 1 => ([(0, []), (6, []), (7, []), (8, []), (9, [])], [((.x 0), [.wr .op])])
  | 2 => ([(0, []), (5, []), (6, []), (7, []), (8, [])], [((.loc 5), []), ((.x 0), [.wr .op])])
  | 3 => ([(0, []), (6, []), (7, []), (8, [])], [((.x 0), [.wr .op])])
  | 4 => ([(0, []), (6, []), (7, []), (8, [])], [((.x 0), [.wr .op])])
  | _ => ([], [])
def head1106_0 (wo : List Op) (wg : List Tree) (wb : List Tree) (l : List Tree) (x8 : Int) (mx0_2 : List Tree) : LSt U := (⟨[(0, .ptr (.x 0) 2), (6, .c (.slice (U := U) .tree l .unk)), (7, .c (.int .i64 (l.length : Int))), (8, .c (.int .i64 x8))], [((.x 0), [.mref (.x 0 0), .slice (U := U) .tree wg (.own (.x 0 1)), .slice (U := U) .tree mx0_2 (.own (.x 0 2))])], [(.x 0 0, LC.mk (U := U) .op wo 0)]⟩ : LSt U)
abbrev W1106 (wo : List Op) (wg : List Tree) (wb : List Tree) (l : List Tree) (Q : AExit → LSt U → Prop) : Prop := awp cfg (know know1106) (drawOk cfg (know know1106)) Try.f106.ntmps lv1106 (cd Try.f106 []) (⟨[(0, .ptr (.x 0) 2), (1, .c (.slice (U := U) .tree l .unk))], [((.x 0), [.mref (.x 0 0), .slice (U := U) .tree wg (.own (.x 0 1)), .slice (U := U) .tree wb (.own (.x 0 2))])], [(.x 0 0, LC.mk (U := U) .op wo 0)]⟩ : LSt U) Q
theorem vc1106 (wo : List Op) (wg : List Tree) (wb : List Tree) (l : List Tree) (Q : AExit → LSt U → Prop) (h : LoopWp (awp cfg (know know1106) (drawOk cfg (know know1106)) Try.f106.ntmps lv1106 (cd Try.f106 [1, 0, 0])) (head1106_0 wo wg wb l 0 wb) (AExit.inBlock 0 Q)) :
    W1106 wo wg wb l Q := by
  have e_ : (W1106 wo wg wb l Q) = (type_of% h) := by kernel_rfl
  exact e_.mpr h
abbrev W1106_l0 (wo : List Op) (wg : List Tree) (wb : List Tree) (l : List Tree) (x8 : Int) (mx0_2 : List Tree) (N0 : LSt U → Prop) (Q : AExit → LSt U → Prop) : Prop := awp cfg (know know1106) (drawOk cfg (know know1106)) Try.f106.ntmps lv1106 (cd Try.f106 [1, 0, 0]) (head1106_0 wo wg wb l x8 mx0_2) (AExit.then N0 (AExit.inBlock 0 Q))
theorem vc1106_l0 (wo : List Op) (wg : List Tree) (wb : List Tree) (l : List Tree) (x8 : Int) (mx0_2 : List Tree) (N0 : LSt U → Prop) (Q : AExit → LSt U → Prop) (h : ((decide ((x8 : Int) < (l.length : Int))) = true → ((0 : Int) ≤ x8 ∧ x8 < (l.length : Int)) ∧ ((pre32 ((Tree.mk (Tree.kind (List.getD l (Int.toNat x8) Tree.nil)) (Tree.words (List.getD l (Int.toNat x8) Tree.nil)) (Tree.kids (List.getD l (Int.toNat x8) Tree.nil))), ())) ∧ ((mx0_2.length + ([(Tree.mk 0 ([]) ([]))]).length) * 56 ≤ 140737488355328) ∧ ((0 : Int) ≤ (mx0_2.length : Int) ∧ (mx0_2.length : Int) < ((mx0_2 ++ ([(Tree.mk 0 ([]) ([]))])).length : Int)) ∧ (mx0_2.length ≤ (Int.toNat (mx0_2.length : Int))) ∧ ((InR ((x8 : Int) + 1)) ∧ (N0 (head1106_0 wo wg wb l ((x8 : Int) + 1) (List.set (mx0_2 ++ ([(Tree.mk 0 ([]) ([]))])) (Int.toNat (mx0_2.length : Int)) (Tree.mk (Tree.kind (normT (Tree.mk (Tree.kind (List.getD l (Int.toNat x8) Tree.nil)) (Tree.words (List.getD l (Int.toNat x8) Tree.nil)) (Tree.kids (List.getD l (Int.toNat x8) Tree.nil))))) (Tree.words (normT (Tree.mk (Tree.kind (List.getD l (Int.toNat x8) Tree.nil)) (Tree.words (List.getD l (Int.toNat x8) Tree.nil)) (Tree.kids (List.getD l (Int.toNat x8) Tree.nil))))) (Tree.kids (normT (Tree.mk (Tree.kind (List.getD l (Int.toNat x8) Tree.nil)) (Tree.words (List.getD l (Int.toNat x8) Tree.nil)) (Tree.kids (List.getD l (Int.toNat x8) Tree.nil)))))))))))) ∧ ((decide ((x8 : Int) < (l.length : Int))) = false → Q .normal (⟨[(0, .ptr (.x 0) 2), (6, .c (.slice (U := U) .tree l .unk)), (7, .c (.int .i64 (l.length : Int))), (8, .c (.int .i64 x8)), (9, .c (.bool (decide ((x8 : Int) < (l.length : Int)))))], [((.x 0), [.mref (.x 0 0), .slice (U := U) .tree wg (.own (.x 0 1)), .slice (U := U) .tree mx0_2 (.own (.x 0 2))])], [(.x 0 0, LC.mk (U := U) .op wo 0)]⟩ : LSt U))) :
    W1106_l0 wo wg wb l x8 mx0_2 N0 Q := by
  have e_ : (W1106_l0 wo wg wb l x8 mx0_2 N0 Q) = (type_of% h) := by kernel_rfl
  exact e_.mpr ⟨fun c_6 => ⟨(h.1 c_6).1, ⟨(h.1 c_6).2.1, (h.1 c_6).2.2.1, (h.1 c_6).2.2.2.1, (h.1 c_6).2.2.2.2.1, ⟨(h.1 c_6).2.2.2.2.2.1, (h.1 c_6).2.2.2.2.2.2⟩⟩⟩, fun c_6 => (h.2 c_6)⟩
def Body1106 (wo : List Op) (wg : List Tree) (wb : List Tree) (l : List Tree)  : Prop := awp cfg (know (know1106)) (drawOk cfg (know (know1106))) Try.f106.ntmps lv1106 (cd Try.f106 []) (entryL (args1106.can ((wo, wg, wb, ()), l, ())) (args1106.canX ((wo, wg, wb, ()), l, ())) (args1106.canL ((wo, wg, wb, ()), l, ()))) (EndsQL cfg Try.f106.ntmps Try.f106.results.toList (res1106 ((wo, wg, wb, ()), l, ())) (resX1106 ((wo, wg, wb, ()), l, ())) (resL1106 ((wo, wg, wb, ()), l, ())))
theorem make1106 (c32 : Contract Try.prog cfg 32 spec32) (hb : ∀ (wo : List Op) (wg : List Tree) (wb : List Tree) (l : List Tree) (_ : Unit), pre1106 ((wo, wg, wb, ()), l, ()) → Body1106 wo wg wb l) : Contract Try.prog cfg 106 spec1106 :=
  contractXL_flat (l := [(32, spec32)]) cfgOk rfl (⟨c32, trivial⟩) lv1106 Try.func106 rfl rfl 2 (fun _ => rfl) (by decide) (fun ⟨⟨wo, wg, wb, _⟩, l, _⟩ => hb wo wg wb l ())

noncomputable def know1042 : List (FuncId × Fs U) := []
def lv1042 : Lives U := fun i => match i with
  | 0 => ([(0, []), (3, [])], [((.loc 3), [])])
  | 1 => ([(4, [])], [])
  | _ => ([], [])
abbrev W1042 (list : Int) (e : Edit) (Q : AExit → LSt U → Prop) : Prop := awp cfg (know know1042) (drawOk cfg (know know1042)) Try.f42.ntmps lv1042 (cd Try.f42 []) (⟨[(0, .c (.int .i64 list)), (1, .agg [.int .i64 (Edit.kind e), .int .i64 (Tree.kind (Edit.old e)), .slice (U := U) .u64 (Tree.words (Edit.old e)) .unk, .slice (U := U) .tree (Tree.kids (Edit.old e)) .unk, .int .i64 (Tree.kind (Edit.new e)), .slice (U := U) .u64 (Tree.words (Edit.new e)) .unk, .slice (U := U) .tree (Tree.kids (Edit.new e)) .unk, .slice (U := U) .wedit (Edit.words e) .unk, .slice (U := U) .kid (Edit.kids e) .unk, .int .i64 (Edit.list e), .slice (U := U) .op (Edit.ops e) .unk])], [], []⟩ : LSt U) Q
theorem vc1042 (list : Int) (e : Edit) (Q : AExit → LSt U → Prop) (h : (((!(((Edit.kind e) : Int) == 0)) && (bif ((list : Int) == 9) then (((Edit.kind e) : Int) == 2) else false)) = true → InR ((((Edit.words e).length : Int) : Int) + ((Edit.kids e).length : Int))) ∧ (Q .ret (⟨[(4, .c (.bool (bif (((Edit.kind e) : Int) == 0) then true else (bif (bif ((list : Int) == 9) then (((Edit.kind e) : Int) == 2) else false) then ((((((Edit.words e).length : Int) : Int) + ((Edit.kids e).length : Int)) : Int) == 0) else false))))], [], []⟩ : LSt U))) :
    W1042 list e Q := by
  have e_ : (W1042 list e Q) = ((((!(((Edit.kind e) : Int) == 0)) = true → (!(((Edit.kind e) : Int) == 0)) = true) ∧ ((!(((Edit.kind e) : Int) == 0)) = true → (!(((Edit.kind e) : Int) == 0)) = true) ∧ (((!(((Edit.kind e) : Int) == 0)) && ((list : Int) == 9)) = true → ((!(((Edit.kind e) : Int) == 0)) && ((list : Int) == 9)) = true) ∧ (((!(((Edit.kind e) : Int) == 0)) && ((list : Int) == 9)) = true → ((!(((Edit.kind e) : Int) == 0)) && ((list : Int) == 9)) = true) ∧ ((!(((Edit.kind e) : Int) == 0)) = true → (True → (!(((Edit.kind e) : Int) == 0)) = true)) ∧ ((!(((Edit.kind e) : Int) == 0)) = true → (((list : Int) == 9) = true → ((!(((Edit.kind e) : Int) == 0)) && ((list : Int) == 9)) = true)) ∧ ((!(((Edit.kind e) : Int) == 0)) = true → (!(((Edit.kind e) : Int) == 0)) = true) ∧ (((!(((Edit.kind e) : Int) == 0)) && (bif ((list : Int) == 9) then (((Edit.kind e) : Int) == 2) else false)) = true → ((!(((Edit.kind e) : Int) == 0)) && (bif ((list : Int) == 9) then (((Edit.kind e) : Int) == 2) else false)) = true) ∧ (((!(((Edit.kind e) : Int) == 0)) && (bif ((list : Int) == 9) then (((Edit.kind e) : Int) == 2) else false)) = true → ((!(((Edit.kind e) : Int) == 0)) && (bif ((list : Int) == 9) then (((Edit.kind e) : Int) == 2) else false)) = true) ∧ (((!(((Edit.kind e) : Int) == 0)) && (bif ((list : Int) == 9) then (((Edit.kind e) : Int) == 2) else false)) = true → ((!(((Edit.kind e) : Int) == 0)) && (bif ((list : Int) == 9) then (((Edit.kind e) : Int) == 2) else false)) = true) ∧ (((!(((Edit.kind e) : Int) == 0)) && (bif ((list : Int) == 9) then (((Edit.kind e) : Int) == 2) else false)) = true → ((!(((Edit.kind e) : Int) == 0)) && (bif ((list : Int) == 9) then (((Edit.kind e) : Int) == 2) else false)) = true) ∧ (((!(((Edit.kind e) : Int) == 0)) && (bif ((list : Int) == 9) then (((Edit.kind e) : Int) == 2) else false)) = true → ((!(((Edit.kind e) : Int) == 0)) && (bif ((list : Int) == 9) then (((Edit.kind e) : Int) == 2) else false)) = true) ∧ (((!(((Edit.kind e) : Int) == 0)) && (bif ((list : Int) == 9) then (((Edit.kind e) : Int) == 2) else false)) = true → ((!(((Edit.kind e) : Int) == 0)) && (bif ((list : Int) == 9) then (((Edit.kind e) : Int) == 2) else false)) = true) ∧ (((!(((Edit.kind e) : Int) == 0)) && (bif ((list : Int) == 9) then (((Edit.kind e) : Int) == 2) else false)) = true → InR ((((Edit.words e).length : Int) : Int) + ((Edit.kids e).length : Int))) ∧ (((!(((Edit.kind e) : Int) == 0)) && (bif ((list : Int) == 9) then (((Edit.kind e) : Int) == 2) else false)) = true → ((!(((Edit.kind e) : Int) == 0)) && (bif ((list : Int) == 9) then (((Edit.kind e) : Int) == 2) else false)) = true) ∧ ((!(((Edit.kind e) : Int) == 0)) = true → (True → (!(((Edit.kind e) : Int) == 0)) = true)) ∧ ((!(((Edit.kind e) : Int) == 0)) = true → ((bif ((list : Int) == 9) then (((Edit.kind e) : Int) == 2) else false) = true → ((!(((Edit.kind e) : Int) == 0)) && (bif ((list : Int) == 9) then (((Edit.kind e) : Int) == 2) else false)) = true)) ∧ (((((Edit.kind e) : Int) == 0) = false → (!(((Edit.kind e) : Int) == 0)) = true)) ∧ (Q .ret (⟨[(4, .c (.bool (bif (((Edit.kind e) : Int) == 0) then true else (bif (bif ((list : Int) == 9) then (((Edit.kind e) : Int) == 2) else false) then ((((((Edit.words e).length : Int) : Int) + ((Edit.kids e).length : Int)) : Int) == 0) else false))))], [], []⟩ : LSt U)))) := by kernel_rfl
  exact e_.mpr ⟨fun x => x, fun x => x, fun x => x, fun x => x, (by generalize (((Edit.kind e) : Int) == 0) = b0; revert b0; decide), (by generalize (((Edit.kind e) : Int) == 0) = b0; generalize ((list : Int) == 9) = b1; revert b0 b1; decide), fun x => x, fun x => x, fun x => x, fun x => x, fun x => x, fun x => x, fun x => x, h.1, fun x => x, (by generalize (((Edit.kind e) : Int) == 0) = b0; revert b0; decide), (by generalize (((Edit.kind e) : Int) == 2) = b0; generalize (((Edit.kind e) : Int) == 0) = b1; generalize ((list : Int) == 9) = b2; revert b0 b1 b2; decide), (by generalize (((Edit.kind e) : Int) == 0) = b0; revert b0; decide), h.2⟩
def Body1042 (list : Int) (e : Edit)  : Prop := awp cfg (know (know1042)) (drawOk cfg (know (know1042))) Try.f42.ntmps lv1042 (cd Try.f42 []) (entry (args1042.can (list, e, ())) []) (EndsQ cfg Try.f42.ntmps Try.f42.results.toList (res1042 (list, e, ())) [])
theorem make1042 (hb : ∀ (list : Int) (e : Edit) (_ : Unit), pre1042 (list, e, ()) → Body1042 list e) : Contract Try.prog cfg 42 spec1042 :=
  contract_flat (l := []) cfgOk rfl (trivial) lv1042 Try.func42 rfl rfl 2 (fun _ => rfl) (by decide) (fun ⟨list, e, _⟩ => hb list e ())

noncomputable def know1109 : List (FuncId × Fs U) := []
def lv1109 : Lives U := fun i => match i with
  | 0 => ([(0, []), (3, [])], [((.loc 3), [])])
  | 1 => ([(4, [])], [])
  | _ => ([], [])
abbrev W1109 (list : Int) (e : Edit) (Q : AExit → LSt U → Prop) : Prop := awp cfg (know know1109) (drawOk cfg (know know1109)) Try.f109.ntmps lv1109 (cd Try.f109 []) (⟨[(0, .c (.int .i64 list)), (1, .agg [.int .i64 (Edit.kind e), .int .i64 (Tree.kind (Edit.old e)), .slice (U := U) .u64 (Tree.words (Edit.old e)) .unk, .slice (U := U) .tree (Tree.kids (Edit.old e)) .unk, .int .i64 (Tree.kind (Edit.new e)), .slice (U := U) .u64 (Tree.words (Edit.new e)) .unk, .slice (U := U) .tree (Tree.kids (Edit.new e)) .unk, .slice (U := U) .wedit (Edit.words e) .unk, .slice (U := U) .kid (Edit.kids e) .unk, .int .i64 (Edit.list e), .slice (U := U) .op (Edit.ops e) .unk])], [], []⟩ : LSt U) Q
theorem vc1109 (list : Int) (e : Edit) (Q : AExit → LSt U → Prop) (h : Q .ret (⟨[(4, .c (.bool (bif (((Edit.kind e) : Int) == 0) then true else (bif (bif (bif (((Edit.kind e) : Int) == 2) then ((list : Int) == 9) else false) then ((((Edit.words e).length : Int) : Int) == 0) else false) then ((((Edit.kids e).length : Int) : Int) == 0) else false))))], [], []⟩ : LSt U)) :
    W1109 list e Q := by
  have e_ : (W1109 list e Q) = ((((!(((Edit.kind e) : Int) == 0)) = true → (!(((Edit.kind e) : Int) == 0)) = true) ∧ ((!(((Edit.kind e) : Int) == 0)) = true → (!(((Edit.kind e) : Int) == 0)) = true) ∧ ((!(((Edit.kind e) : Int) == 0)) = true → (!(((Edit.kind e) : Int) == 0)) = true) ∧ (((!(((Edit.kind e) : Int) == 0)) && (((Edit.kind e) : Int) == 2)) = true → ((!(((Edit.kind e) : Int) == 0)) && (((Edit.kind e) : Int) == 2)) = true) ∧ ((!(((Edit.kind e) : Int) == 0)) = true → (True → (!(((Edit.kind e) : Int) == 0)) = true)) ∧ ((!(((Edit.kind e) : Int) == 0)) = true → ((((Edit.kind e) : Int) == 2) = true → ((!(((Edit.kind e) : Int) == 0)) && (((Edit.kind e) : Int) == 2)) = true)) ∧ ((!(((Edit.kind e) : Int) == 0)) = true → (!(((Edit.kind e) : Int) == 0)) = true) ∧ (((!(((Edit.kind e) : Int) == 0)) && (bif (((Edit.kind e) : Int) == 2) then ((list : Int) == 9) else false)) = true → ((!(((Edit.kind e) : Int) == 0)) && (bif (((Edit.kind e) : Int) == 2) then ((list : Int) == 9) else false)) = true) ∧ (((!(((Edit.kind e) : Int) == 0)) && (bif (((Edit.kind e) : Int) == 2) then ((list : Int) == 9) else false)) = true → ((!(((Edit.kind e) : Int) == 0)) && (bif (((Edit.kind e) : Int) == 2) then ((list : Int) == 9) else false)) = true) ∧ (((!(((Edit.kind e) : Int) == 0)) && (bif (((Edit.kind e) : Int) == 2) then ((list : Int) == 9) else false)) = true → ((!(((Edit.kind e) : Int) == 0)) && (bif (((Edit.kind e) : Int) == 2) then ((list : Int) == 9) else false)) = true) ∧ ((!(((Edit.kind e) : Int) == 0)) = true → (True → (!(((Edit.kind e) : Int) == 0)) = true)) ∧ ((!(((Edit.kind e) : Int) == 0)) = true → ((bif (((Edit.kind e) : Int) == 2) then ((list : Int) == 9) else false) = true → ((!(((Edit.kind e) : Int) == 0)) && (bif (((Edit.kind e) : Int) == 2) then ((list : Int) == 9) else false)) = true)) ∧ ((!(((Edit.kind e) : Int) == 0)) = true → (!(((Edit.kind e) : Int) == 0)) = true) ∧ (((!(((Edit.kind e) : Int) == 0)) && (bif (bif (((Edit.kind e) : Int) == 2) then ((list : Int) == 9) else false) then ((((Edit.words e).length : Int) : Int) == 0) else false)) = true → ((!(((Edit.kind e) : Int) == 0)) && (bif (bif (((Edit.kind e) : Int) == 2) then ((list : Int) == 9) else false) then ((((Edit.words e).length : Int) : Int) == 0) else false)) = true) ∧ (((!(((Edit.kind e) : Int) == 0)) && (bif (bif (((Edit.kind e) : Int) == 2) then ((list : Int) == 9) else false) then ((((Edit.words e).length : Int) : Int) == 0) else false)) = true → ((!(((Edit.kind e) : Int) == 0)) && (bif (bif (((Edit.kind e) : Int) == 2) then ((list : Int) == 9) else false) then ((((Edit.words e).length : Int) : Int) == 0) else false)) = true) ∧ (((!(((Edit.kind e) : Int) == 0)) && (bif (bif (((Edit.kind e) : Int) == 2) then ((list : Int) == 9) else false) then ((((Edit.words e).length : Int) : Int) == 0) else false)) = true → ((!(((Edit.kind e) : Int) == 0)) && (bif (bif (((Edit.kind e) : Int) == 2) then ((list : Int) == 9) else false) then ((((Edit.words e).length : Int) : Int) == 0) else false)) = true) ∧ ((!(((Edit.kind e) : Int) == 0)) = true → (True → (!(((Edit.kind e) : Int) == 0)) = true)) ∧ ((!(((Edit.kind e) : Int) == 0)) = true → ((bif (bif (((Edit.kind e) : Int) == 2) then ((list : Int) == 9) else false) then ((((Edit.words e).length : Int) : Int) == 0) else false) = true → ((!(((Edit.kind e) : Int) == 0)) && (bif (bif (((Edit.kind e) : Int) == 2) then ((list : Int) == 9) else false) then ((((Edit.words e).length : Int) : Int) == 0) else false)) = true)) ∧ (((((Edit.kind e) : Int) == 0) = false → (!(((Edit.kind e) : Int) == 0)) = true)) ∧ (Q .ret (⟨[(4, .c (.bool (bif (((Edit.kind e) : Int) == 0) then true else (bif (bif (bif (((Edit.kind e) : Int) == 2) then ((list : Int) == 9) else false) then ((((Edit.words e).length : Int) : Int) == 0) else false) then ((((Edit.kids e).length : Int) : Int) == 0) else false))))], [], []⟩ : LSt U)))) := by kernel_rfl
  exact e_.mpr ⟨fun x => x, fun x => x, fun x => x, fun x => x, (by generalize (((Edit.kind e) : Int) == 0) = b0; revert b0; decide), (by generalize (((Edit.kind e) : Int) == 2) = b0; generalize (((Edit.kind e) : Int) == 0) = b1; revert b0 b1; decide), fun x => x, fun x => x, fun x => x, fun x => x, (by generalize (((Edit.kind e) : Int) == 0) = b0; revert b0; decide), (by generalize (((Edit.kind e) : Int) == 2) = b0; generalize (((Edit.kind e) : Int) == 0) = b1; generalize ((list : Int) == 9) = b2; revert b0 b1 b2; decide), fun x => x, fun x => x, fun x => x, fun x => x, (by generalize (((Edit.kind e) : Int) == 0) = b0; revert b0; decide), (by generalize ((((Edit.words e).length : Int) : Int) == 0) = b0; generalize (((Edit.kind e) : Int) == 2) = b1; generalize (((Edit.kind e) : Int) == 0) = b2; generalize ((list : Int) == 9) = b3; revert b0 b1 b2 b3; decide), (by generalize (((Edit.kind e) : Int) == 0) = b0; revert b0; decide), h⟩
def Body1109 (list : Int) (e : Edit)  : Prop := awp cfg (know (know1109)) (drawOk cfg (know (know1109))) Try.f109.ntmps lv1109 (cd Try.f109 []) (entry (args1109.can (list, e, ())) []) (EndsQ cfg Try.f109.ntmps Try.f109.results.toList (res1109 (list, e, ())) [])
theorem make1109 (hb : ∀ (list : Int) (e : Edit) (_ : Unit), pre1109 (list, e, ()) → Body1109 list e) : Contract Try.prog cfg 109 spec1109 :=
  contract_flat (l := []) cfgOk rfl (trivial) lv1109 Try.func109 rfl rfl 2 (fun _ => rfl) (by decide) (fun ⟨list, e, _⟩ => hb list e ())

end Go.AM.Ytlahjnelghpmeaa

namespace Go.AM.Ytlahjnelghpmeaa
open Go.AM Go.Proofs

theorem set_last {α : Type} (l : List α) (z x : α) : (l ++ [z]).set (Int.toNat (l.length : Int)) x = l ++ [x] := by
  rw [Int.toNat_natCast, List.set_append_right _ _ (Nat.le_refl _)]
  simp

theorem keepO_at : ∀ (F : List Op) (n : Int), keepO F n = if F.length ≠ 0 ∧ (F.getD (F.length - 1) Op.nil).kind = 0 then F.set (F.length - 1) ⟨(F.getD (F.length - 1) Op.nil).kind, (F.getD (F.length - 1) Op.nil).n + n, (F.getD (F.length - 1) Op.nil).l, (F.getD (F.length - 1) Op.nil).e⟩ else F ++ [⟨0, n, [], Edit.nil⟩]
  | [], n => by simp [keepO]
  | [o], n => by simp [keepO]
  | o :: p :: r, n => by
    have ih := keepO_at (p :: r) n
    have e : (o :: p :: r).length - 1 = ((p :: r).length - 1) + 1 := by simp
    rw [keepO, ih, e]
    simp only [List.getD_cons_succ, List.set_cons_succ]
    by_cases h : (p :: r).length ≠ 0 ∧ ((p :: r).getD ((p :: r).length - 1) Op.nil).kind = 0
    · rw [if_pos h, if_pos ⟨by simp, h.2⟩]
    · have h' : ¬ ((p :: r).getD ((p :: r).length - 1) Op.nil).kind = 0 := fun e => h ⟨by simp, e⟩
      rw [if_neg h, if_neg (fun e => h' e.2)]
      rfl

theorem flush_len (s : Wst) : (flushW s).out.length ≤ s.out.length + 2 := by
  simp only [flushW, flushO]
  split <;> split <;> simp

theorem flush_mem (s : Wst) : ∀ o ∈ (flushW s).out, o ∈ s.out ∨ o.n = 0 := by
  intro o ho
  simp only [flushW, flushO, List.mem_append] at ho
  rcases ho with h | h | h
  · exact .inl h
  · split at h
    · cases h
    · simp only [List.mem_singleton] at h; subst h; exact .inr rfl
  · split at h
    · cases h
    · simp only [List.mem_singleton] at h; subst h; exact .inr rfl

theorem c107 : Contract Try.prog cfg 107 spec107 := by
  refine make107 ?_
  intro wo wg wb _ hp
  simp only [pre107] at hp
  refine vc107 wo wg wb _ ?_
  rintro y1 hy1 y2 hy2
  have hy : y1 = Edit.nil := hy1
  subst hy
  rw [set_last] at hy2
  subst hy2
  (simp only [bif_tl, bif_fr, bif_tlf, bif_frf, Bool.not_eq_true', Bool.not_eq_false', decide_eq_true_eq, decide_eq_false_iff_not, beq_iff_eq, beq_eq_false_iff_ne, bne_iff_ne, ne_eq, bne_eq_false_iff_eq, Bool.or_eq_true, Bool.and_eq_true, Bool.or_eq_false_iff, Bool.and_eq_false_imp])
  refine ⟨fun h1 => ⟨by simp; omega, by simp; omega, by omega, fun h2 => ⟨by simp; omega, by simp; omega, by omega, ?_⟩, fun h2 => ?_⟩, fun h1 => ⟨fun h2 => ⟨by simp; omega, by simp; omega, by omega, ?_⟩, fun h2 => ?_⟩⟩
  · rw [set_last]
    have e : flushW ⟨wo, wg, wb⟩ = ⟨wo ++ [⟨1, 0, wg, Edit.nil⟩] ++ [⟨2, 0, wb, Edit.nil⟩], [], []⟩ := by
      simp only [flushW, flushO]; rw [if_neg (by omega), if_neg (by omega)]; simp
    simp only [res107, resX107, resL107, e]
    (repeat' (first | exact trivial | exact rfl | refine And.intro ?_ ?_))
  · have e : flushW ⟨wo, wg, wb⟩ = ⟨wo ++ [⟨1, 0, wg, Edit.nil⟩], [], []⟩ := by
      simp only [flushW, flushO]; rw [if_neg (by omega), if_pos (by omega)]; simp
    simp only [res107, resX107, resL107, e]
    (repeat' (first | exact trivial | exact rfl | refine And.intro ?_ ?_))
  · rw [set_last]
    have e : flushW ⟨wo, wg, wb⟩ = ⟨wo ++ [⟨2, 0, wb, Edit.nil⟩], [], []⟩ := by
      simp only [flushW, flushO]; rw [if_pos (by omega), if_neg (by omega)]; simp
    simp only [res107, resX107, resL107, e]
    (repeat' (first | exact trivial | exact rfl | refine And.intro ?_ ?_))
  · have e : flushW ⟨wo, wg, wb⟩ = ⟨wo, [], []⟩ := by
      simp only [flushW, flushO]; rw [if_pos (by omega), if_pos (by omega)]; simp
    simp only [res107, resX107, resL107, e]
    (repeat' (first | exact trivial | exact rfl | refine And.intro ?_ ?_))

theorem c105 : Contract Try.prog cfg 105 spec105 := by
  refine make105 c107 ?_
  intro wo wg wb n _ hp
  simp only [pre105] at hp
  obtain ⟨p1, p2, p3, p4, p5, p6⟩ := hp
  have hfl := flush_len ⟨wo, wg, wb⟩
  have hfm := flush_mem ⟨wo, wg, wb⟩
  have hg : (flushW ⟨wo, wg, wb⟩).gone = [] := rfl
  have hb : (flushW ⟨wo, wg, wb⟩).brought = [] := rfl
  have hk := keepO_at (flushW ⟨wo, wg, wb⟩).out n
  have hkw : keepW ⟨wo, wg, wb⟩ n = ⟨keepO (flushW ⟨wo, wg, wb⟩).out n, [], []⟩ := rfl
  refine vc105 wo wg wb n _ ?_
  simp only [hg, hb, res105, resX105, resL105, hkw]
  generalize (flushW ⟨wo, wg, wb⟩).out = F at *
  simp only at hfl hfm
  rintro y1 hy1 y2 hy2 y3 hy3 y4 hy4
  have hy : y1 = Edit.nil := hy1
  subst hy
  have e2 : y2 = F.length - 1 := by omega
  subst e2
  rw [← hy3, ← hy4] at hk
  (simp only [bif_tl, bif_fr, bif_tlf, bif_frf, Bool.not_eq_true', Bool.not_eq_false', decide_eq_true_eq, decide_eq_false_iff_not, beq_iff_eq, beq_eq_false_iff_ne, bne_iff_ne, ne_eq, bne_eq_false_iff_eq, Bool.or_eq_true, Bool.and_eq_true, Bool.or_eq_false_iff, Bool.and_eq_false_imp])
  refine ⟨by simp only [pre107]; exact ⟨p1, p2, p3⟩, by unfold InR; omega, fun h => ⟨h, by omega⟩, fun h => ?_, fun h => ?_⟩
  · have hy3n : 0 ≤ y3.n ∧ y3.n ≤ 100000000000000 := by
      have hm : y3 ∈ F := by rw [hy3]; exact mem_getD (by omega) _
      rcases hfm y3 hm with h1 | h1
      · exact p4 y3 h1
      · omega
    rw [if_pos ⟨by omega, h.2⟩] at hk
    rw [hk]
    refine ⟨by omega, by unfold InR; omega, by omega, by omega, ?_⟩
    (repeat' (first | exact trivial | exact rfl | refine And.intro ?_ ?_))
  · rw [if_neg (by omega)] at hk
    rw [hk, set_last]
    refine ⟨by simp; omega, by simp; omega, by omega, ?_⟩
    (repeat' (first | exact trivial | exact rfl | refine And.intro ?_ ?_))

theorem c106 : Contract Try.prog cfg 106 spec106 := by
  refine make106 c32 ?_
  intro wo wg wb l _ hp
  simp only [pre106] at hp
  obtain ⟨p1, p2, p3, p4⟩ := hp
  have hl := massK_len l
  refine vc106 _ _ _ _ _ ?_
  refine loop_rule (ι := Int × List Tree) (fun s => head106_0 wo wg wb l s.1 s.2) (fun s => 0 ≤ s.1 ∧ s.1 ≤ l.length ∧ s.2.length = wg.length + s.1 ∧ s.2 ++ normsT (l.drop s.1.toNat) = wg ++ normsT l) (fun s => ((l.length : Int) - s.1).toNat) (0, wg) rfl ⟨by simp, by simp, by simp, by simp⟩ ?_
  rintro ⟨i, out⟩ ⟨h1, h2, h3, h4⟩
  dsimp only at h1 h2 h3 h4
  refine vc106_l0 _ _ _ _ _ _ _ _ ?_
  (simp only [bif_tl, bif_fr, bif_tlf, bif_frf, Bool.not_eq_true', Bool.not_eq_false', decide_eq_true_eq, decide_eq_false_iff_not, beq_iff_eq, beq_eq_false_iff_ne, bne_iff_ne, ne_eq, bne_eq_false_iff_eq, Bool.or_eq_true, Bool.and_eq_true, Bool.or_eq_false_iff, Bool.and_eq_false_imp])
  (simp only [Tree.eta, Edit.eta, Tree.kind_mk, Tree.words_mk, Tree.kids_mk])
  refine ⟨fun hi => ?_, fun hi => ?_⟩
  · have hm := massK_mem (mem_getD (l := l) (i := i.toNat) (by omega) Tree.nil)
    rw [dropI h1 hi Tree.nil] at h4
    simp only [normsT, List.map_cons] at h4
    rw [set_last]
    refine ⟨⟨h1, hi⟩, by simp only [pre32]; omega, by simp; omega, by simp; omega, by omega, by unfold InR; omega, (i + 1, out ++ [normT (l.getD i.toNat Tree.nil)]), rfl, ⟨by dsimp only; omega, by dsimp only; omega, by simp; omega, ?_⟩, by dsimp only; omega⟩
    simp only [List.append_assoc, List.cons_append, List.nil_append]
    exact h4
  · rw [List.drop_of_length_le (by omega)] at h4
    simp only [normsT, List.map_nil, List.append_nil] at h4
    rw [h4]
    (repeat' (first | exact trivial | exact rfl | refine And.intro ?_ ?_))

theorem c1106 : Contract Try.prog cfg 106 spec1106 := by
  refine make1106 c32 ?_
  intro wo wg wb l _ hp
  simp only [pre1106] at hp
  obtain ⟨p1, p2, p3, p4⟩ := hp
  have hl := massK_len l
  refine vc1106 _ _ _ _ _ ?_
  refine loop_rule (ι := Int × List Tree) (fun s => head1106_0 wo wg wb l s.1 s.2) (fun s => 0 ≤ s.1 ∧ s.1 ≤ l.length ∧ s.2.length = wb.length + s.1 ∧ s.2 ++ normsT (l.drop s.1.toNat) = wb ++ normsT l) (fun s => ((l.length : Int) - s.1).toNat) (0, wb) rfl ⟨by simp, by simp, by simp, by simp⟩ ?_
  rintro ⟨i, out⟩ ⟨h1, h2, h3, h4⟩
  dsimp only at h1 h2 h3 h4
  refine vc1106_l0 _ _ _ _ _ _ _ _ ?_
  (simp only [bif_tl, bif_fr, bif_tlf, bif_frf, Bool.not_eq_true', Bool.not_eq_false', decide_eq_true_eq, decide_eq_false_iff_not, beq_iff_eq, beq_eq_false_iff_ne, bne_iff_ne, ne_eq, bne_eq_false_iff_eq, Bool.or_eq_true, Bool.and_eq_true, Bool.or_eq_false_iff, Bool.and_eq_false_imp])
  (simp only [Tree.eta, Edit.eta, Tree.kind_mk, Tree.words_mk, Tree.kids_mk])
  refine ⟨fun hi => ?_, fun hi => ?_⟩
  · have hm := massK_mem (mem_getD (l := l) (i := i.toNat) (by omega) Tree.nil)
    rw [dropI h1 hi Tree.nil] at h4
    simp only [normsT, List.map_cons] at h4
    rw [set_last]
    refine ⟨⟨h1, hi⟩, by simp only [pre32]; omega, by simp; omega, by simp; omega, by omega, by unfold InR; omega, (i + 1, out ++ [normT (l.getD i.toNat Tree.nil)]), rfl, ⟨by dsimp only; omega, by dsimp only; omega, by simp; omega, ?_⟩, by dsimp only; omega⟩
    simp only [List.append_assoc, List.cons_append, List.nil_append]
    exact h4
  · rw [List.drop_of_length_le (by omega)] at h4
    simp only [normsT, List.map_nil, List.append_nil] at h4
    rw [h4]
    (repeat' (first | exact trivial | exact rfl | refine And.intro ?_ ?_))

theorem c1042 : Contract Try.prog cfg 42 spec1042 := by
  refine make1042 ?_
  intro list e _ hp
  simp only [pre1042] at hp
  refine vc1042 _ _ _ ?_
  refine ⟨fun _ => by unfold InR; dsimp only; omega, ends_bool rfl ?_⟩
  rw [Bool.eq_iff_iff]
  simp only [idleE]
  (simp only [bif_tl, bif_fr, bif_tlf, bif_frf, Bool.not_eq_true', Bool.not_eq_false', decide_eq_true_eq, decide_eq_false_iff_not, beq_iff_eq, beq_eq_false_iff_ne, bne_iff_ne, ne_eq, bne_eq_false_iff_eq, Bool.or_eq_true, Bool.and_eq_true, Bool.or_eq_false_iff, Bool.and_eq_false_imp])
  omega

theorem c1109 : Contract Try.prog cfg 109 spec1109 := by
  refine make1109 ?_
  intro list e _ hp
  refine vc1109 _ _ _ ?_
  refine ends_bool rfl ?_
  rw [Bool.eq_iff_iff]
  simp only [idleE]
  (simp only [bif_tl, bif_fr, bif_tlf, bif_frf, Bool.not_eq_true', Bool.not_eq_false', decide_eq_true_eq, decide_eq_false_iff_not, beq_iff_eq, beq_eq_false_iff_ne, bne_iff_ne, ne_eq, bne_eq_false_iff_eq, Bool.or_eq_true, Bool.and_eq_true, Bool.or_eq_false_iff, Bool.and_eq_false_imp])
  omega

noncomputable def spec2106 : Fs U := fsOr spec106 spec1106
theorem c2106 : Contract Try.prog cfg 106 spec2106 := contract_or c106 c1106

end Go.AM.Ytlahjnelghpmeaa
