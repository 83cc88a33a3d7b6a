/- Printed by program: what is known of each function, and the conditions that its code comes to. -/
import Derived.Test.YtlahjnelghpmeaaB22f
set_option linter.unusedSimpArgs false
set_option linter.unusedVariables false
namespace Go.AM.Ytlahjnelghpmeaa
open Go.AM Go.Proofs

def args86 : ArgL (Int × Unit) := (.cons (aInt .u64) .nil)
def pre86 (a : Int × Unit) : Prop := True
noncomputable def res86 (a : Int × Unit) : V U := .agg [.int .i64 (Tree.kind (Tree.mk 10 [a.1] [])), .slice (U := U) .u64 (Tree.words (Tree.mk 10 [a.1] [])) .unk, .slice (U := U) .tree (Tree.kids (Tree.mk 10 [a.1] [])) .unk]
noncomputable def spec86 : Fs U := fs args86 (fun a => [pre86 a]) res86

def args55 : ArgL (Unit) := .nil
def pre55 (a : Unit) : Prop := True
noncomputable def res55 (a : Unit) : V U := .c (.bool true)
noncomputable def spec55 : Fs U := fs args55 (fun a => [pre55 a]) res55

def args18 : ArgL (Edit × Edit × Unit) := (.cons (aEl .edit) (.cons (aEl .edit) .nil))
def pre18 (a : Edit × Edit × Unit) : Prop := (smallE a.1 ∧ rngE a.1) ∧ smallE a.2.1 ∧ rngE a.2.1
noncomputable def res18 (a : Edit × Edit × Unit) : V U := .c (.bool true)
noncomputable def spec18 : Fs U := fs args18 (fun a => [pre18 a]) res18

/-! cento/centolaw20.awake$1 -/
noncomputable def know86 : List (FuncId × Fs U) := []
def lv86 : Lives U := fun i => match i with
  | 0 => ([(0, []), (2, [])], [((.loc 2), [])])
  | 1 => ([(2, [])], [((.loc 2), [])])
  | _ => ([], [])
abbrev W86 (n : Int) (Q : AExit → LSt U → Prop) : Prop := awp cfg (know know86) (drawOk cfg (know know86)) Try.f86.ntmps lv86 (cd Try.f86 []) (⟨[(0, .c (.int .u64 n))], [], []⟩ : LSt U) Q
/-- the body -/
theorem vc86 (n : Int) (Q : AExit → LSt U → Prop) (h : Q .ret (⟨[(2, .ptr (.loc 2) 0)], [((.loc 2), [.int .i64 10, .slice (U := U) .u64 ([n]) .full, .nils])], []⟩ : LSt U)) :
    W86 n Q := by
  have e_ : (awp cfg (know know86) (drawOk cfg (know know86)) Try.f86.ntmps lv86 (cd Try.f86 []) (⟨[(0, .c (.int .u64 n))], [], []⟩ : LSt U) Q) = (((Q .ret (⟨[(2, .ptr (.loc 2) 0)], [((.loc 2), [.int .i64 10, .slice (U := U) .u64 ([n]) .full, .nils])], []⟩ : LSt U)))) := by kernel_rfl
  exact e_.mpr h
def Body86 (n : Int)  : Prop := awp cfg (know (know86)) (drawOk cfg (know (know86))) Try.f86.ntmps lv86 (cd Try.f86 []) (entry (args86.can (n, ())) []) (EndsQ cfg Try.f86.ntmps Try.f86.results.toList (res86 (n, ())) [])
theorem make86 (hb : ∀ (n : Int) (_ : Unit), pre86 (n, ()) → Body86 n) : Contract Try.prog cfg 86 spec86 :=
  contract_flat (l := []) cfgOk rfl (trivial) lv86 Try.func86 rfl rfl 1 (fun _ => rfl) (by decide) (fun ⟨n, _⟩ => hb n ())

/-! cento/centolaw20.awake -/
noncomputable def know55 : List (FuncId × Fs U) := [(86, spec86), (56, spec56), (58, spec58)]
def lv55 : Lives U := fun i => match i with
  | 0 => ([], [])
  | 1 => ([(1, [])], [])
  | 2 => ([(2, [])], [((.loc 2), [])])
  | 3 => ([(2, []), (3, []), (4, [])], [((.loc 2), [])])
  | 4 => ([(0, [])], [])
  | _ => ([], [])
abbrev W55 (Q : AExit → LSt U → Prop) : Prop := awp cfg (know know55) (drawOk cfg (know know55)) Try.f55.ntmps lv55 (cd Try.f55 []) (⟨[], [], []⟩ : LSt U) Q
/-- the body -/
theorem vc55 (Q : AExit → LSt U → Prop) (h : ∀ y_1, y_1 = ((Tree.mk 10 [5] [])) → ∀ y_2, y_2 = ((Tree.mk 10 [6] [])) → ∀ y_3, y_3 = ((Tree.mk 10 [7] [])) → ∀ y_4, y_4 = (Edit.mk 0 (Tree.mk 0 ([]) ([])) (Tree.mk 0 ([]) ([])) ([]) ([]) 0 ([])) → ∀ y_5, y_5 = (Edit.mk 3 (Tree.mk 0 ([]) ([])) (Tree.mk 0 ([]) ([])) ([]) ([]) 4 ([(OpOf.mk 0 2 ([]) y_4 : Op), (OpOf.mk 1 0 ([y_1]) y_4 : Op), (OpOf.mk 2 0 ([y_2, y_3]) y_4 : Op)])) → (pre86 (5, ())) ∧ (pre86 (6, ())) ∧ (pre86 (7, ())) ∧ ((pre56 (y_5, ())) ∧ ((pre58 (y_5, ())) ∧ (Q .ret (⟨[(0, .c (.bool (bif (bif (rightE y_5 64) then (((lenAW (Edit.ops y_5) 0) : Int) == 3) else false) then (((lenBW (Edit.ops y_5) 0) : Int) == 4) else false)))], [], []⟩ : LSt U))))) :
    W55 Q := by
  have e_ : (awp cfg (know know55) (drawOk cfg (know know55)) Try.f55.ntmps lv55 (cd Try.f55 []) (⟨[], [], []⟩ : LSt U) Q) = (let y_1 := (reTree (Tree.mk 10 [5] [])); let y_2 := (reTree (Tree.mk 10 [6] [])); let y_3 := (reTree (Tree.mk 10 [7] [])); let y_4 := (Edit.mk 0 (Tree.mk 0 ([]) ([])) (Tree.mk 0 ([]) ([])) ([]) ([]) 0 ([])); let y_5 := (Edit.mk 3 (Tree.mk 0 ([]) ([])) (Tree.mk 0 ([]) ([])) ([]) ([]) 4 ([(OpOf.mk 0 2 ([]) y_4 : Op), (OpOf.mk 1 0 ([y_1]) y_4 : Op), (OpOf.mk 2 0 ([y_2, y_3]) y_4 : Op)])); (((pre86 (5, ())) ∧ (pre86 (6, ())) ∧ (pre86 (7, ())) ∧ ((pre56 (y_5, ())) ∧ ((pre58 (y_5, ())) ∧ ((rightE y_5 64) = true → (rightE y_5 64) = true) ∧ (((rightE y_5 64) = true → (rightE y_5 64) = true)) ∧ ((bif (rightE y_5 64) then (((lenAW (Edit.ops y_5) 0) : Int) == 3) else false) = true → (bif (rightE y_5 64) then (((lenAW (Edit.ops y_5) 0) : Int) == 3) else false) = true) ∧ (((bif (rightE y_5 64) then (((lenAW (Edit.ops y_5) 0) : Int) == 3) else false) = true → (bif (rightE y_5 64) then (((lenAW (Edit.ops y_5) 0) : Int) == 3) else false) = true)) ∧ (Q .ret (⟨[(0, .c (.bool (bif (bif (rightE y_5 64) then (((lenAW (Edit.ops y_5) 0) : Int) == 3) else false) then (((lenBW (Edit.ops y_5) 0) : Int) == 4) else false)))], [], []⟩ : LSt U))))))) := by kernel_rfl
  exact e_.mpr (by intro y_1 y_2 y_3 y_4 y_5; exact ⟨(h y_1 (reTree_eq _) y_2 (reTree_eq _) y_3 (reTree_eq _) y_4 rfl y_5 rfl).1, (h y_1 (reTree_eq _) y_2 (reTree_eq _) y_3 (reTree_eq _) y_4 rfl y_5 rfl).2.1, (h y_1 (reTree_eq _) y_2 (reTree_eq _) y_3 (reTree_eq _) y_4 rfl y_5 rfl).2.2.1, ⟨(h y_1 (reTree_eq _) y_2 (reTree_eq _) y_3 (reTree_eq _) y_4 rfl y_5 rfl).2.2.2.1, ⟨(h y_1 (reTree_eq _) y_2 (reTree_eq _) y_3 (reTree_eq _) y_4 rfl y_5 rfl).2.2.2.2.1, fun x => x, (by generalize (rightE y_5 64) = b0; revert b0; decide), fun x => x, (by generalize (((lenAW (Edit.ops y_5) 0) : Int) == 3) = b0; generalize (rightE y_5 64) = b1; revert b0 b1; decide), (h y_1 (reTree_eq _) y_2 (reTree_eq _) y_3 (reTree_eq _) y_4 rfl y_5 rfl).2.2.2.2.2⟩⟩⟩)
def Body55  : Prop := awp cfg (know (know55)) (drawOk cfg (know (know55))) Try.f55.ntmps lv55 (cd Try.f55 []) (entry (args55.can (())) []) (EndsQ cfg Try.f55.ntmps Try.f55.results.toList (res55 (())) [])
theorem make55 (c86 : Contract Try.prog cfg 86 spec86) (c56 : Contract Try.prog cfg 56 spec56) (c58 : Contract Try.prog cfg 58 spec58) (hb : ∀ (_ : Unit), pre55 (()) → Body55 ) : Contract Try.prog cfg 55 spec55 :=
  contract_flat (l := [(86, spec86), (56, spec56), (58, spec58)]) cfgOk rfl (⟨c86, c56, c58, trivial⟩) lv55 Try.func55 rfl rfl 0 (fun _ => rfl) (by decide) (fun _ => hb  ())

/-! cento/centolaw20.EditRight -/
/-! cento/centolaw20.EditParts -/
/-! cento/centolaw20.EditEqual -/
noncomputable def know18 : List (FuncId × Fs U) := [(54, spec54), (55, spec55), (61, spec61), (62, spec62)]
def lv18 : Lives U := fun i => match i with
  | 0 => ([(2, []), (3, [])], [((.loc 2), []), ((.loc 3), [])])
  | 1 => ([(2, []), (3, []), (12, [])], [((.loc 2), []), ((.loc 3), [])])
  | 2 => ([(4, [])], [])
  | 3 => ([(4, [])], [])
  | _ => ([], [])
abbrev W18 (a : Edit) (b : Edit) (Q : AExit → LSt U → Prop) : Prop := awp cfg (know know18) (drawOk cfg (know know18)) Try.f18.ntmps lv18 (cd Try.f18 []) (⟨[(0, .agg [.int .i64 (Edit.kind a), .int .i64 (Tree.kind (Edit.old a)), .slice (U := U) .u64 (Tree.words (Edit.old a)) .unk, .slice (U := U) .tree (Tree.kids (Edit.old a)) .unk, .int .i64 (Tree.kind (Edit.new a)), .slice (U := U) .u64 (Tree.words (Edit.new a)) .unk, .slice (U := U) .tree (Tree.kids (Edit.new a)) .unk, .slice (U := U) .wedit (Edit.words a) .unk, .slice (U := U) .kid (Edit.kids a) .unk, .int .i64 (Edit.list a), .slice (U := U) .op (Edit.ops a) .unk]), (1, .agg [.int .i64 (Edit.kind b), .int .i64 (Tree.kind (Edit.old b)), .slice (U := U) .u64 (Tree.words (Edit.old b)) .unk, .slice (U := U) .tree (Tree.kids (Edit.old b)) .unk, .int .i64 (Tree.kind (Edit.new b)), .slice (U := U) .u64 (Tree.words (Edit.new b)) .unk, .slice (U := U) .tree (Tree.kids (Edit.new b)) .unk, .slice (U := U) .wedit (Edit.words b) .unk, .slice (U := U) .kid (Edit.kids b) .unk, .int .i64 (Edit.list b), .slice (U := U) .op (Edit.ops b) .unk])], [], []⟩ : LSt U) Q
/-- the body -/
theorem vc18 (a : Edit) (b : Edit) (Q : AExit → LSt U → Prop) (h : ∀ y_1, y_1 = (a) → ∀ y_2, y_2 = (b) → (pre54 (y_1, ())) ∧ ((!(!(decide (0 ≤ leftE y_1 80 3000)))) = true → pre54 (y_2, ())) ∧ (((bif (!(decide (0 ≤ leftE y_1 80 3000))) then true else (!(decide (0 ≤ leftE y_2 80 3000)))) = true → (pre55 (())) ∧ (Q .ret (⟨[(4, .c (.bool true))], [], []⟩ : LSt U))) ∧ ((bif (!(decide (0 ≤ leftE y_1 80 3000))) then true else (!(decide (0 ≤ leftE y_2 80 3000)))) = false → (pre61 (y_1, y_2, ())) ∧ (pre62 (y_1, y_2, ())) ∧ (((eqX (nE y_1) (nE y_2)) == (eqX (nE y_1) (nE y_2))) = true → pre61 (y_2, y_1, ())) ∧ (((eqX (nE y_1) (nE y_2)) == (eqX (nE y_1) (nE y_2))) = true → pre62 (y_1, y_2, ())) ∧ ((bif ((eqX (nE y_1) (nE y_2)) == (eqX (nE y_1) (nE y_2))) then ((eqX (nE y_2) (nE y_1)) == (eqX (nE y_1) (nE y_2))) else false) = true → pre61 (y_1, y_1, ())) ∧ ((bif (bif ((eqX (nE y_1) (nE y_2)) == (eqX (nE y_1) (nE y_2))) then ((eqX (nE y_2) (nE y_1)) == (eqX (nE y_1) (nE y_2))) else false) then (eqX (nE y_1) (nE y_1)) else false) = true → pre55 (())) ∧ (Q .ret (⟨[(4, .c (.bool (bif (bif (bif ((eqX (nE y_1) (nE y_2)) == (eqX (nE y_1) (nE y_2))) then ((eqX (nE y_2) (nE y_1)) == (eqX (nE y_1) (nE y_2))) else false) then (eqX (nE y_1) (nE y_1)) else false) then true else false)))], [], []⟩ : LSt U))))) :
    W18 a b Q := by
  have e_ : (awp cfg (know know18) (drawOk cfg (know know18)) Try.f18.ntmps lv18 (cd Try.f18 []) (⟨[(0, .agg [.int .i64 (Edit.kind a), .int .i64 (Tree.kind (Edit.old a)), .slice (U := U) .u64 (Tree.words (Edit.old a)) .unk, .slice (U := U) .tree (Tree.kids (Edit.old a)) .unk, .int .i64 (Tree.kind (Edit.new a)), .slice (U := U) .u64 (Tree.words (Edit.new a)) .unk, .slice (U := U) .tree (Tree.kids (Edit.new a)) .unk, .slice (U := U) .wedit (Edit.words a) .unk, .slice (U := U) .kid (Edit.kids a) .unk, .int .i64 (Edit.list a), .slice (U := U) .op (Edit.ops a) .unk]), (1, .agg [.int .i64 (Edit.kind b), .int .i64 (Tree.kind (Edit.old b)), .slice (U := U) .u64 (Tree.words (Edit.old b)) .unk, .slice (U := U) .tree (Tree.kids (Edit.old b)) .unk, .int .i64 (Tree.kind (Edit.new b)), .slice (U := U) .u64 (Tree.words (Edit.new b)) .unk, .slice (U := U) .tree (Tree.kids (Edit.new b)) .unk, .slice (U := U) .wedit (Edit.words b) .unk, .slice (U := U) .kid (Edit.kids b) .unk, .int .i64 (Edit.list b), .slice (U := U) .op (Edit.ops b) .unk])], [], []⟩ : LSt U) Q) = (let y_1 := (reEdit a); let y_2 := (reEdit b); ((pre54 (y_1, ())) ∧ ((!(!(decide (0 ≤ leftE y_1 80 3000)))) = true → (!(!(decide (0 ≤ leftE y_1 80 3000)))) = true) ∧ ((!(!(decide (0 ≤ leftE y_1 80 3000)))) = true → pre54 (y_2, ())) ∧ ((!(!(decide (0 ≤ leftE y_1 80 3000)))) = true → (!(!(decide (0 ≤ leftE y_1 80 3000)))) = true) ∧ (((!(decide (0 ≤ leftE y_1 80 3000))) = false → (!(!(decide (0 ≤ leftE y_1 80 3000)))) = true)) ∧ (((bif (!(decide (0 ≤ leftE y_1 80 3000))) then true else (!(decide (0 ≤ leftE y_2 80 3000)))) = true → (pre55 (())) ∧ (Q .ret (⟨[(4, .c (.bool true))], [], []⟩ : LSt U))) ∧ ((bif (!(decide (0 ≤ leftE y_1 80 3000))) then true else (!(decide (0 ≤ leftE y_2 80 3000)))) = false → (pre61 (y_1, y_2, ())) ∧ (pre62 (y_1, y_2, ())) ∧ (((eqX (nE y_1) (nE y_2)) == (eqX (nE y_1) (nE y_2))) = true → ((eqX (nE y_1) (nE y_2)) == (eqX (nE y_1) (nE y_2))) = true) ∧ (((eqX (nE y_1) (nE y_2)) == (eqX (nE y_1) (nE y_2))) = true → ((eqX (nE y_1) (nE y_2)) == (eqX (nE y_1) (nE y_2))) = true) ∧ (((eqX (nE y_1) (nE y_2)) == (eqX (nE y_1) (nE y_2))) = true → pre61 (y_2, y_1, ())) ∧ (((eqX (nE y_1) (nE y_2)) == (eqX (nE y_1) (nE y_2))) = true → ((eqX (nE y_1) (nE y_2)) == (eqX (nE y_1) (nE y_2))) = true) ∧ (((eqX (nE y_1) (nE y_2)) == (eqX (nE y_1) (nE y_2))) = true → ((eqX (nE y_1) (nE y_2)) == (eqX (nE y_1) (nE y_2))) = true) ∧ (((eqX (nE y_1) (nE y_2)) == (eqX (nE y_1) (nE y_2))) = true → pre62 (y_1, y_2, ())) ∧ (((eqX (nE y_1) (nE y_2)) == (eqX (nE y_1) (nE y_2))) = true → ((eqX (nE y_1) (nE y_2)) == (eqX (nE y_1) (nE y_2))) = true) ∧ (((eqX (nE y_1) (nE y_2)) == (eqX (nE y_1) (nE y_2))) = true → ((eqX (nE y_1) (nE y_2)) == (eqX (nE y_1) (nE y_2))) = true) ∧ ((((eqX (nE y_1) (nE y_2)) == (eqX (nE y_1) (nE y_2))) = true → ((eqX (nE y_1) (nE y_2)) == (eqX (nE y_1) (nE y_2))) = true)) ∧ ((bif ((eqX (nE y_1) (nE y_2)) == (eqX (nE y_1) (nE y_2))) then ((eqX (nE y_2) (nE y_1)) == (eqX (nE y_1) (nE y_2))) else false) = true → (bif ((eqX (nE y_1) (nE y_2)) == (eqX (nE y_1) (nE y_2))) then ((eqX (nE y_2) (nE y_1)) == (eqX (nE y_1) (nE y_2))) else false) = true) ∧ ((bif ((eqX (nE y_1) (nE y_2)) == (eqX (nE y_1) (nE y_2))) then ((eqX (nE y_2) (nE y_1)) == (eqX (nE y_1) (nE y_2))) else false) = true → (bif ((eqX (nE y_1) (nE y_2)) == (eqX (nE y_1) (nE y_2))) then ((eqX (nE y_2) (nE y_1)) == (eqX (nE y_1) (nE y_2))) else false) = true) ∧ ((bif ((eqX (nE y_1) (nE y_2)) == (eqX (nE y_1) (nE y_2))) then ((eqX (nE y_2) (nE y_1)) == (eqX (nE y_1) (nE y_2))) else false) = true → pre61 (y_1, y_1, ())) ∧ (((bif ((eqX (nE y_1) (nE y_2)) == (eqX (nE y_1) (nE y_2))) then ((eqX (nE y_2) (nE y_1)) == (eqX (nE y_1) (nE y_2))) else false) = true → (bif ((eqX (nE y_1) (nE y_2)) == (eqX (nE y_1) (nE y_2))) then ((eqX (nE y_2) (nE y_1)) == (eqX (nE y_1) (nE y_2))) else false) = true)) ∧ ((bif (bif ((eqX (nE y_1) (nE y_2)) == (eqX (nE y_1) (nE y_2))) then ((eqX (nE y_2) (nE y_1)) == (eqX (nE y_1) (nE y_2))) else false) then (eqX (nE y_1) (nE y_1)) else false) = true → pre55 (())) ∧ (((bif (bif ((eqX (nE y_1) (nE y_2)) == (eqX (nE y_1) (nE y_2))) then ((eqX (nE y_2) (nE y_1)) == (eqX (nE y_1) (nE y_2))) else false) then (eqX (nE y_1) (nE y_1)) else false) = true → (bif (bif ((eqX (nE y_1) (nE y_2)) == (eqX (nE y_1) (nE y_2))) then ((eqX (nE y_2) (nE y_1)) == (eqX (nE y_1) (nE y_2))) else false) then (eqX (nE y_1) (nE y_1)) else false) = true)) ∧ (Q .ret (⟨[(4, .c (.bool (bif (bif (bif ((eqX (nE y_1) (nE y_2)) == (eqX (nE y_1) (nE y_2))) then ((eqX (nE y_2) (nE y_1)) == (eqX (nE y_1) (nE y_2))) else false) then (eqX (nE y_1) (nE y_1)) else false) then true else false)))], [], []⟩ : LSt U)))))) := by kernel_rfl
  exact e_.mpr (by intro y_1 y_2; exact ⟨(h y_1 (reEdit_eq _) y_2 (reEdit_eq _)).1, fun x => x, (h y_1 (reEdit_eq _) y_2 (reEdit_eq _)).2.1, fun x => x, (by generalize (decide (0 ≤ leftE y_1 80 3000)) = b0; revert b0; decide), ⟨fun c_8 => ⟨((h y_1 (reEdit_eq _) y_2 (reEdit_eq _)).2.2.1 c_8).1, ((h y_1 (reEdit_eq _) y_2 (reEdit_eq _)).2.2.1 c_8).2⟩, fun c_8 => ⟨((h y_1 (reEdit_eq _) y_2 (reEdit_eq _)).2.2.2 c_8).1, ((h y_1 (reEdit_eq _) y_2 (reEdit_eq _)).2.2.2 c_8).2.1, fun x => x, fun x => x, ((h y_1 (reEdit_eq _) y_2 (reEdit_eq _)).2.2.2 c_8).2.2.1, fun x => x, fun x => x, ((h y_1 (reEdit_eq _) y_2 (reEdit_eq _)).2.2.2 c_8).2.2.2.1, fun x => x, fun x => x, (by generalize ((eqX (nE y_1) (nE y_2)) == (eqX (nE y_1) (nE y_2))) = b0; revert b0; decide), fun x => x, fun x => x, ((h y_1 (reEdit_eq _) y_2 (reEdit_eq _)).2.2.2 c_8).2.2.2.2.1, (by generalize ((eqX (nE y_1) (nE y_2)) == (eqX (nE y_1) (nE y_2))) = b0; generalize ((eqX (nE y_2) (nE y_1)) == (eqX (nE y_1) (nE y_2))) = b1; revert b0 b1; decide), ((h y_1 (reEdit_eq _) y_2 (reEdit_eq _)).2.2.2 c_8).2.2.2.2.2.1, (by generalize ((eqX (nE y_1) (nE y_2)) == (eqX (nE y_1) (nE y_2))) = b0; generalize ((eqX (nE y_2) (nE y_1)) == (eqX (nE y_1) (nE y_2))) = b1; generalize (eqX (nE y_1) (nE y_1)) = b2; revert b0 b1 b2; decide), ((h y_1 (reEdit_eq _) y_2 (reEdit_eq _)).2.2.2 c_8).2.2.2.2.2.2⟩⟩⟩)
def Body18 (a : Edit) (b : Edit)  : Prop := awp cfg (know (know18)) (drawOk cfg (know (know18))) Try.f18.ntmps lv18 (cd Try.f18 []) (entry (args18.can (a, b, ())) []) (EndsQ cfg Try.f18.ntmps Try.f18.results.toList (res18 (a, b, ())) [])
theorem make18 (c54 : Contract Try.prog cfg 54 spec54) (c55 : Contract Try.prog cfg 55 spec55) (c61 : Contract Try.prog cfg 61 spec61) (c62 : Contract Try.prog cfg 62 spec62) (hb : ∀ (a : Edit) (b : Edit) (_ : Unit), pre18 (a, b, ()) → Body18 a b) : Contract Try.prog cfg 18 spec18 :=
  contract_flat (l := [(54, spec54), (55, spec55), (61, spec61), (62, spec62)]) cfgOk rfl (⟨c54, c55, c61, c62, trivial⟩) lv18 Try.func18 rfl rfl 2 (fun _ => rfl) (by decide) (fun ⟨a, b, _⟩ => hb a b ())

end Go.AM.Ytlahjnelghpmeaa

namespace Go.AM.Ytlahjnelghpmeaa
open Go.AM Go.Proofs


theorem rng_nilT : rng Tree.nil := by
  simp only [Tree.nil, rng, rngK]
  exact ⟨by decide, by simp, trivial⟩


/-- But for numbers. -/
structure RngW (w : Wst) : Prop where
  out : ∀ o ∈ w.out, rngK o.l ∧ rngE o.e
  gone : rngK w.gone
  brought : rngK w.brought

theorem rngE_none : rngE Edit.nil := by
  simp only [Edit.nil, rngE, rngKs, rngOs]
  exact ⟨by unfold isI; omega, rng_nilT, rng_nilT, by simp, by unfold isI; omega, trivial, trivial⟩


end Go.AM.Ytlahjnelghpmeaa

namespace Go.AM.Ytlahjnelghpmeaa
open Go.AM Go.Proofs

theorem c86 : Contract Try.prog cfg 86 spec86 := by
  refine make86 ?_
  intro n _ _
  refine vc86 _ _ ?_
  simp only [res86]
  (repeat' (first | exact trivial | exact rfl | refine And.intro ?_ ?_))

theorem c55 : Contract Try.prog cfg 55 spec55 := by
  refine make55 c86 c56 c58 ?_
  intro _ _
  refine vc55 _ ?_
  rintro y1 hy1 y2 hy2 y3 hy3 y4 hy4 y5 hy5
  have hl : lenAW (Edit.ops y5) 0 = 3 ∧ lenBW (Edit.ops y5) 0 = 4 := by
    rw [hy5, hy1, hy2, hy3]
    exact ⟨by rfl, by rfl⟩
  have hr : rightE y5 64 = true := by
    rw [hy5, hy1, hy2, hy3, hy4]
    rfl
  have hm : massE y5 ≤ 900000 := by
    rw [hy5, hy1, hy2, hy3, hy4]
    decide
  have hn : rngE y5 := by
    have h4 : rngE y4 := by rw [hy4]; exact rngE_none
    have ht : ∀ x : Int, 0 ≤ x ∧ x < 18446744073709551616 → rng (Tree.mk 10 [x] []) := by
      intro x hx
      simp only [rng, rngK]
      exact ⟨by decide, by simpa using hx, trivial⟩
    rw [hy5, hy1, hy2, hy3]
    simp only [rngE, rngKs, rngOs, rngOp, rngK]
    have z := rng_nilT
    refine ⟨by unfold isI; omega, z, z, by simp, by unfold isI; omega, trivial, ⟨by unfold isI; omega, by unfold isI; omega, trivial, h4⟩, ⟨by unfold isI; omega, by unfold isI; omega, ⟨ht 5 (by omega), trivial⟩, h4⟩, ⟨by unfold isI; omega, by unfold isI; omega, ⟨ht 6 (by omega), ht 7 (by omega), trivial⟩, h4⟩, trivial⟩
  rw [hl.1, hl.2, hr]
  exact ⟨trivial, trivial, trivial, by simp only [pre56]; omega, by simp only [pre58]; exact ⟨hm, hn⟩, ends_bool rfl rfl⟩

theorem eqX_symm {α : Type} (a b : α) : eqX a b = eqX b a := by
  rw [Bool.eq_iff_iff, eqX_iff, eqX_iff]
  exact ⟨Eq.symm, Eq.symm⟩

theorem c18 : Contract Try.prog cfg 18 spec18 := by
  refine make18 c54 c55 c61 c62 ?_
  intro a b _ hp
  simp only [pre18] at hp
  refine vc18 _ _ _ ?_
  rintro y1 hy1 y2 hy2
  subst hy1 hy2
  refine ⟨by simp only [pre54]; exact hp.1.1, fun _ => by simp only [pre54]; exact hp.2.1, fun hg => ⟨trivial, ends_bool rfl rfl⟩, fun hg => ?_⟩
  have hg : 0 ≤ leftE y1 80 3000 ∧ 0 ≤ leftE y2 80 3000 := by
    revert hg
    by_cases h1 : 0 ≤ leftE y1 80 3000 <;> by_cases h2 : 0 ≤ leftE y2 80 3000 <;> simp [h1, h2]
  have m1 := few_massE hg.1
  have m2 := few_massE hg.2
  refine ⟨by simp only [pre61]; omega, by simp only [pre62]; omega, fun _ => by simp only [pre61]; omega, fun _ => by simp only [pre62]; omega, fun _ => by simp only [pre61]; omega, fun _ => trivial, ends_bool rfl ?_⟩
  rw [eqX_symm (nE y2) (nE y1), eqX_self]
  simp


end Go.AM.Ytlahjnelghpmeaa
