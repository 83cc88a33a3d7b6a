/- Printed by program: what is known of each function, and the conditions that its code comes to. -/
import Derived.Test.YtlahjnelghpmeaaB22f
set_option linter.unusedSimpArgs false
set_option linter.unusedVariables false
namespace Go.AM.Ytlahjnelghpmeaa
open Go.AM Go.Proofs

def args86 : ArgL (Int × Unit) := (.cons (aInt .u64) .nil)
def pre86 (a : Int × Unit) : Prop := True
noncomputable def res86 (a : Int × Unit) : V U := .agg [.int .i64 (Tree.kind (Tree.mk 10 [a.1] [])), .slice (U := U) .u64 (Tree.words (Tree.mk 10 [a.1] [])) .unk, .slice (U := U) .tree (Tree.kids (Tree.mk 10 [a.1] [])) .unk]
noncomputable def spec86 : Fs U := fs args86 (fun a => [pre86 a]) res86

def args55 : ArgL (Unit) := .nil
def pre55 (a : Unit) : Prop := True
noncomputable def res55 (a : Unit) : V U := .c (.bool true)
noncomputable def spec55 : Fs U := fs args55 (fun a => [pre55 a]) res55

def args16 : ArgL (Edit × Unit) := (.cons (aEl .edit) .nil)
def pre16 (a : Edit × Unit) : Prop := smallE a.1 ∧ rngE a.1
noncomputable def res16 (a : Edit × Unit) : V U := .c (.bool true)
noncomputable def spec16 : Fs U := fs args16 (fun a => [pre16 a]) res16

/-! cento/centolaw20.awake$1 -/
noncomputable def know86 : List (FuncId × Fs U) := []
def lv86 : Lives U := fun i => match i with
  | 0 => ([(0, []), (2, [])], [((.loc 2), [])])
  | 1 => ([(2, [])], [((.loc 2), [])])
  | _ => ([], [])
abbrev W86 (n : Int) (Q : AExit → LSt U → Prop) : Prop := awp cfg (know know86) (drawOk cfg (know know86)) Try.f86.ntmps lv86 (cd Try.f86 []) (⟨[(0, .c (.int .u64 n))], [], []⟩ : LSt U) Q
/-- the body -/
theorem vc86 (n : Int) (Q : AExit → LSt U → Prop) (h : Q .ret (⟨[(2, .ptr (.loc 2) 0)], [((.loc 2), [.int .i64 10, .slice (U := U) .u64 ([n]) .full, .nils])], []⟩ : LSt U)) :
    W86 n Q := by
  have e_ : (awp cfg (know know86) (drawOk cfg (know know86)) Try.f86.ntmps lv86 (cd Try.f86 []) (⟨[(0, .c (.int .u64 n))], [], []⟩ : LSt U) Q) = (((Q .ret (⟨[(2, .ptr (.loc 2) 0)], [((.loc 2), [.int .i64 10, .slice (U := U) .u64 ([n]) .full, .nils])], []⟩ : LSt U)))) := by kernel_rfl
  exact e_.mpr h
def Body86 (n : Int)  : Prop := awp cfg (know (know86)) (drawOk cfg (know (know86))) Try.f86.ntmps lv86 (cd Try.f86 []) (entry (args86.can (n, ())) []) (EndsQ cfg Try.f86.ntmps Try.f86.results.toList (res86 (n, ())) [])
theorem make86 (hb : ∀ (n : Int) (_ : Unit), pre86 (n, ()) → Body86 n) : Contract Try.prog cfg 86 spec86 :=
  contract_flat (l := []) cfgOk rfl (trivial) lv86 Try.func86 rfl rfl 1 (fun _ => rfl) (by decide) (fun ⟨n, _⟩ => hb n ())

/-! cento/centolaw20.awake -/
noncomputable def know55 : List (FuncId × Fs U) := [(86, spec86), (56, spec56), (58, spec58)]
def lv55 : Lives U := fun i => match i with
  | 0 => ([], [])
  | 1 => ([(1, [])], [])
  | 2 => ([(2, [])], [((.loc 2), [])])
  | 3 => ([(2, []), (3, []), (4, [])], [((.loc 2), [])])
  | 4 => ([(0, [])], [])
  | _ => ([], [])
abbrev W55 (Q : AExit → LSt U → Prop) : Prop := awp cfg (know know55) (drawOk cfg (know know55)) Try.f55.ntmps lv55 (cd Try.f55 []) (⟨[], [], []⟩ : LSt U) Q
/-- the body -/
theorem vc55 (Q : AExit → LSt U → Prop) (h : ∀ y_1, y_1 = ((Tree.mk 10 [5] [])) → ∀ y_2, y_2 = ((Tree.mk 10 [6] [])) → ∀ y_3, y_3 = ((Tree.mk 10 [7] [])) → ∀ y_4, y_4 = (Edit.mk 0 (Tree.mk 0 ([]) ([])) (Tree.mk 0 ([]) ([])) ([]) ([]) 0 ([])) → ∀ y_5, y_5 = (Edit.mk 3 (Tree.mk 0 ([]) ([])) (Tree.mk 0 ([]) ([])) ([]) ([]) 4 ([(OpOf.mk 0 2 ([]) y_4 : Op), (OpOf.mk 1 0 ([y_1]) y_4 : Op), (OpOf.mk 2 0 ([y_2, y_3]) y_4 : Op)])) → (pre86 (5, ())) ∧ (pre86 (6, ())) ∧ (pre86 (7, ())) ∧ ((pre56 (y_5, ())) ∧ ((pre58 (y_5, ())) ∧ (Q .ret (⟨[(0, .c (.bool (bif (bif (rightE y_5 64) then (((lenAW (Edit.ops y_5) 0) : Int) == 3) else false) then (((lenBW (Edit.ops y_5) 0) : Int) == 4) else false)))], [], []⟩ : LSt U))))) :
    W55 Q := by
  have e_ : (awp cfg (know know55) (drawOk cfg (know know55)) Try.f55.ntmps lv55 (cd Try.f55 []) (⟨[], [], []⟩ : LSt U) Q) = (let y_1 := (reTree (Tree.mk 10 [5] [])); let y_2 := (reTree (Tree.mk 10 [6] [])); let y_3 := (reTree (Tree.mk 10 [7] [])); let y_4 := (Edit.mk 0 (Tree.mk 0 ([]) ([])) (Tree.mk 0 ([]) ([])) ([]) ([]) 0 ([])); let y_5 := (Edit.mk 3 (Tree.mk 0 ([]) ([])) (Tree.mk 0 ([]) ([])) ([]) ([]) 4 ([(OpOf.mk 0 2 ([]) y_4 : Op), (OpOf.mk 1 0 ([y_1]) y_4 : Op), (OpOf.mk 2 0 ([y_2, y_3]) y_4 : Op)])); (((pre86 (5, ())) ∧ (pre86 (6, ())) ∧ (pre86 (7, ())) ∧ ((pre56 (y_5, ())) ∧ ((pre58 (y_5, ())) ∧ ((rightE y_5 64) = true → (rightE y_5 64) = true) ∧ (((rightE y_5 64) = true → (rightE y_5 64) = true)) ∧ ((bif (rightE y_5 64) then (((lenAW (Edit.ops y_5) 0) : Int) == 3) else false) = true → (bif (rightE y_5 64) then (((lenAW (Edit.ops y_5) 0) : Int) == 3) else false) = true) ∧ (((bif (rightE y_5 64) then (((lenAW (Edit.ops y_5) 0) : Int) == 3) else false) = true → (bif (rightE y_5 64) then (((lenAW (Edit.ops y_5) 0) : Int) == 3) else false) = true)) ∧ (Q .ret (⟨[(0, .c (.bool (bif (bif (rightE y_5 64) then (((lenAW (Edit.ops y_5) 0) : Int) == 3) else false) then (((lenBW (Edit.ops y_5) 0) : Int) == 4) else false)))], [], []⟩ : LSt U))))))) := by kernel_rfl
  exact e_.mpr (by intro y_1 y_2 y_3 y_4 y_5; exact ⟨(h y_1 (reTree_eq _) y_2 (reTree_eq _) y_3 (reTree_eq _) y_4 rfl y_5 rfl).1, (h y_1 (reTree_eq _) y_2 (reTree_eq _) y_3 (reTree_eq _) y_4 rfl y_5 rfl).2.1, (h y_1 (reTree_eq _) y_2 (reTree_eq _) y_3 (reTree_eq _) y_4 rfl y_5 rfl).2.2.1, ⟨(h y_1 (reTree_eq _) y_2 (reTree_eq _) y_3 (reTree_eq _) y_4 rfl y_5 rfl).2.2.2.1, ⟨(h y_1 (reTree_eq _) y_2 (reTree_eq _) y_3 (reTree_eq _) y_4 rfl y_5 rfl).2.2.2.2.1, fun x => x, (by generalize (rightE y_5 64) = b0; revert b0; decide), fun x => x, (by generalize (((lenAW (Edit.ops y_5) 0) : Int) == 3) = b0; generalize (rightE y_5 64) = b1; revert b0 b1; decide), (h y_1 (reTree_eq _) y_2 (reTree_eq _) y_3 (reTree_eq _) y_4 rfl y_5 rfl).2.2.2.2.2⟩⟩⟩)
def Body55  : Prop := awp cfg (know (know55)) (drawOk cfg (know (know55))) Try.f55.ntmps lv55 (cd Try.f55 []) (entry (args55.can (())) []) (EndsQ cfg Try.f55.ntmps Try.f55.results.toList (res55 (())) [])
theorem make55 (c86 : Contract Try.prog cfg 86 spec86) (c56 : Contract Try.prog cfg 56 spec56) (c58 : Contract Try.prog cfg 58 spec58) (hb : ∀ (_ : Unit), pre55 (()) → Body55 ) : Contract Try.prog cfg 55 spec55 :=
  contract_flat (l := [(86, spec86), (56, spec56), (58, spec58)]) cfgOk rfl (⟨c86, c56, c58, trivial⟩) lv55 Try.func55 rfl rfl 0 (fun _ => rfl) (by decide) (fun _ => hb  ())

/-! cento/centolaw20.EditRight -/
noncomputable def know16 : List (FuncId × Fs U) := [(43, spec43), (54, spec54), (55, spec55), (56, spec56), (57, spec1057), (58, spec58), (59, spec59), (60, spec60)]
def lv16 : Lives U := fun i => match i with
  | 0 => ([(1, [])], [((.loc 1), [])])
  | 1 => ([(1, []), (9, [])], [((.loc 1), [])])
  | 2 => ([(2, [])], [])
  | 3 => ([(1, []), (3, []), (4, [])], [((.loc 1), [])])
  | 4 => ([(1, []), (3, []), (4, []), (5, []), (6, [])], [((.loc 1), [])])
  | 5 => ([(1, []), (3, []), (4, []), (5, []), (6, []), (32, [])], [((.loc 1), [])])
  | 6 => ([(2, [])], [])
  | 7 => ([(2, [])], [])
  | _ => ([], [])
abbrev W16 (e : Edit) (Q : AExit → LSt U → Prop) : Prop := awp cfg (know know16) (drawOk cfg (know know16)) Try.f16.ntmps lv16 (cd Try.f16 []) (⟨[(0, .agg [.int .i64 (Edit.kind e), .int .i64 (Tree.kind (Edit.old e)), .slice (U := U) .u64 (Tree.words (Edit.old e)) .unk, .slice (U := U) .tree (Tree.kids (Edit.old e)) .unk, .int .i64 (Tree.kind (Edit.new e)), .slice (U := U) .u64 (Tree.words (Edit.new e)) .unk, .slice (U := U) .tree (Tree.kids (Edit.new e)) .unk, .slice (U := U) .wedit (Edit.words e) .unk, .slice (U := U) .kid (Edit.kids e) .unk, .int .i64 (Edit.list e), .slice (U := U) .op (Edit.ops e) .unk])], [], []⟩ : LSt U) Q
/-- the body -/
theorem vc16 (e : Edit) (Q : AExit → LSt U → Prop) (h : ∀ y_1, y_1 = (e) → (pre54 (y_1, ())) ∧ (((!(decide (0 ≤ leftE y_1 80 3000))) = true → (pre55 (())) ∧ (Q .ret (⟨[(2, .c (.bool true))], [], []⟩ : LSt U))) ∧ ((!(decide (0 ≤ leftE y_1 80 3000))) = false → (pre56 (y_1, ())) ∧ ((pre1057 (y_1, ())) ∧ ((pre58 (y_1, ())) ∧ (pre59 (y_1, 64, ())) ∧ ((!((rightE y_1 64) != (rightE y_1 64))) = true → pre43 (y_1, ())) ∧ ((!((rightE y_1 64) != (rightE y_1 64))) = true → pre60 (y_1, ())) ∧ (((bif ((rightE y_1 64) != (rightE y_1 64)) then true else (((countE y_1) : Int) != (countE y_1))) = true → Q .ret (⟨[(2, .c (.bool false))], [], []⟩ : LSt U)) ∧ ((bif ((rightE y_1 64) != (rightE y_1 64)) then true else (((countE y_1) : Int) != (countE y_1))) = false → (pre59 (y_1, 64, ())) ∧ ((bif (!(rightE y_1 64)) then true else (bif (((lenAW (Edit.ops y_1) 0) : Int) == (lenAW (Edit.ops y_1) 0)) then (((lenBW (Edit.ops y_1) 0) : Int) == (lenBW (Edit.ops y_1) 0)) else false)) = true → pre55 (())) ∧ (Q .ret (⟨[(2, .c (.bool (bif (bif (!(rightE y_1 64)) then true else (bif (((lenAW (Edit.ops y_1) 0) : Int) == (lenAW (Edit.ops y_1) 0)) then (((lenBW (Edit.ops y_1) 0) : Int) == (lenBW (Edit.ops y_1) 0)) else false)) then true else false)))], [], []⟩ : LSt U))))))))) :
    W16 e Q := by
  have e_ : (awp cfg (know know16) (drawOk cfg (know know16)) Try.f16.ntmps lv16 (cd Try.f16 []) (⟨[(0, .agg [.int .i64 (Edit.kind e), .int .i64 (Tree.kind (Edit.old e)), .slice (U := U) .u64 (Tree.words (Edit.old e)) .unk, .slice (U := U) .tree (Tree.kids (Edit.old e)) .unk, .int .i64 (Tree.kind (Edit.new e)), .slice (U := U) .u64 (Tree.words (Edit.new e)) .unk, .slice (U := U) .tree (Tree.kids (Edit.new e)) .unk, .slice (U := U) .wedit (Edit.words e) .unk, .slice (U := U) .kid (Edit.kids e) .unk, .int .i64 (Edit.list e), .slice (U := U) .op (Edit.ops e) .unk])], [], []⟩ : LSt U) Q) = (let y_1 := (reEdit e); ((pre54 (y_1, ())) ∧ (((!(decide (0 ≤ leftE y_1 80 3000))) = true → (pre55 (())) ∧ (Q .ret (⟨[(2, .c (.bool true))], [], []⟩ : LSt U))) ∧ ((!(decide (0 ≤ leftE y_1 80 3000))) = false → (pre56 (y_1, ())) ∧ ((pre1057 (y_1, ())) ∧ ((pre58 (y_1, ())) ∧ (pre59 (y_1, 64, ())) ∧ ((!((rightE y_1 64) != (rightE y_1 64))) = true → (!((rightE y_1 64) != (rightE y_1 64))) = true) ∧ ((!((rightE y_1 64) != (rightE y_1 64))) = true → pre43 (y_1, ())) ∧ ((!((rightE y_1 64) != (rightE y_1 64))) = true → (!((rightE y_1 64) != (rightE y_1 64))) = true) ∧ ((!((rightE y_1 64) != (rightE y_1 64))) = true → pre60 (y_1, ())) ∧ ((!((rightE y_1 64) != (rightE y_1 64))) = true → (!((rightE y_1 64) != (rightE y_1 64))) = true) ∧ ((!((rightE y_1 64) != (rightE y_1 64))) = true → (!((rightE y_1 64) != (rightE y_1 64))) = true) ∧ ((((rightE y_1 64) != (rightE y_1 64)) = false → (!((rightE y_1 64) != (rightE y_1 64))) = true)) ∧ (((bif ((rightE y_1 64) != (rightE y_1 64)) then true else (((countE y_1) : Int) != (countE y_1))) = true → (Q .ret (⟨[(2, .c (.bool false))], [], []⟩ : LSt U))) ∧ ((bif ((rightE y_1 64) != (rightE y_1 64)) then true else (((countE y_1) : Int) != (countE y_1))) = false → (pre59 (y_1, 64, ())) ∧ ((!(!(rightE y_1 64))) = true → (!(!(rightE y_1 64))) = true) ∧ ((!(!(rightE y_1 64))) = true → (!(!(rightE y_1 64))) = true) ∧ ((!(!(rightE y_1 64))) = true → (!(!(rightE y_1 64))) = true) ∧ (((!(!(rightE y_1 64))) && (((lenAW (Edit.ops y_1) 0) : Int) == (lenAW (Edit.ops y_1) 0))) = true → ((!(!(rightE y_1 64))) && (((lenAW (Edit.ops y_1) 0) : Int) == (lenAW (Edit.ops y_1) 0))) = true) ∧ (((!(!(rightE y_1 64))) && (((lenAW (Edit.ops y_1) 0) : Int) == (lenAW (Edit.ops y_1) 0))) = true → ((!(!(rightE y_1 64))) && (((lenAW (Edit.ops y_1) 0) : Int) == (lenAW (Edit.ops y_1) 0))) = true) ∧ ((!(!(rightE y_1 64))) = true → (True → (!(!(rightE y_1 64))) = true)) ∧ ((!(!(rightE y_1 64))) = true → ((((lenAW (Edit.ops y_1) 0) : Int) == (lenAW (Edit.ops y_1) 0)) = true → ((!(!(rightE y_1 64))) && (((lenAW (Edit.ops y_1) 0) : Int) == (lenAW (Edit.ops y_1) 0))) = true)) ∧ (((!(rightE y_1 64)) = false → (!(!(rightE y_1 64))) = true)) ∧ ((bif (!(rightE y_1 64)) then true else (bif (((lenAW (Edit.ops y_1) 0) : Int) == (lenAW (Edit.ops y_1) 0)) then (((lenBW (Edit.ops y_1) 0) : Int) == (lenBW (Edit.ops y_1) 0)) else false)) = true → pre55 (())) ∧ (((bif (!(rightE y_1 64)) then true else (bif (((lenAW (Edit.ops y_1) 0) : Int) == (lenAW (Edit.ops y_1) 0)) then (((lenBW (Edit.ops y_1) 0) : Int) == (lenBW (Edit.ops y_1) 0)) else false)) = true → (bif (!(rightE y_1 64)) then true else (bif (((lenAW (Edit.ops y_1) 0) : Int) == (lenAW (Edit.ops y_1) 0)) then (((lenBW (Edit.ops y_1) 0) : Int) == (lenBW (Edit.ops y_1) 0)) else false)) = true)) ∧ (Q .ret (⟨[(2, .c (.bool (bif (bif (!(rightE y_1 64)) then true else (bif (((lenAW (Edit.ops y_1) 0) : Int) == (lenAW (Edit.ops y_1) 0)) then (((lenBW (Edit.ops y_1) 0) : Int) == (lenBW (Edit.ops y_1) 0)) else false)) then true else false)))], [], []⟩ : LSt U)))))))))) := by kernel_rfl
  exact e_.mpr (by intro y_1; exact ⟨(h y_1 (reEdit_eq _)).1, ⟨fun c_1 => ⟨((h y_1 (reEdit_eq _)).2.1 c_1).1, ((h y_1 (reEdit_eq _)).2.1 c_1).2⟩, fun c_1 => ⟨((h y_1 (reEdit_eq _)).2.2 c_1).1, ⟨((h y_1 (reEdit_eq _)).2.2 c_1).2.1, ⟨((h y_1 (reEdit_eq _)).2.2 c_1).2.2.1, ((h y_1 (reEdit_eq _)).2.2 c_1).2.2.2.1, fun x => x, ((h y_1 (reEdit_eq _)).2.2 c_1).2.2.2.2.1, fun x => x, ((h y_1 (reEdit_eq _)).2.2 c_1).2.2.2.2.2.1, fun x => x, fun x => x, (by generalize ((rightE y_1 64) != (rightE y_1 64)) = b0; revert b0; decide), ⟨fun c_2 => (((h y_1 (reEdit_eq _)).2.2 c_1).2.2.2.2.2.2.1 c_2), fun c_2 => ⟨(((h y_1 (reEdit_eq _)).2.2 c_1).2.2.2.2.2.2.2 c_2).1, fun x => x, fun x => x, fun x => x, fun x => x, fun x => x, (by generalize (rightE y_1 64) = b0; revert b0; decide), (by generalize (((lenAW (Edit.ops y_1) 0) : Int) == (lenAW (Edit.ops y_1) 0)) = b0; generalize (rightE y_1 64) = b1; revert b0 b1; decide), (by generalize (rightE y_1 64) = b0; revert b0; decide), (((h y_1 (reEdit_eq _)).2.2 c_1).2.2.2.2.2.2.2 c_2).2.1, (by generalize (((lenAW (Edit.ops y_1) 0) : Int) == (lenAW (Edit.ops y_1) 0)) = b0; generalize (((lenBW (Edit.ops y_1) 0) : Int) == (lenBW (Edit.ops y_1) 0)) = b1; generalize (rightE y_1 64) = b2; revert b0 b1 b2; decide), (((h y_1 (reEdit_eq _)).2.2 c_1).2.2.2.2.2.2.2 c_2).2.2⟩⟩⟩⟩⟩⟩⟩)
def Body16 (e : Edit)  : Prop := awp cfg (know (know16)) (drawOk cfg (know (know16))) Try.f16.ntmps lv16 (cd Try.f16 []) (entry (args16.can (e, ())) []) (EndsQ cfg Try.f16.ntmps Try.f16.results.toList (res16 (e, ())) [])
theorem make16 (c43 : Contract Try.prog cfg 43 spec43) (c54 : Contract Try.prog cfg 54 spec54) (c55 : Contract Try.prog cfg 55 spec55) (c56 : Contract Try.prog cfg 56 spec56) (c1057 : Contract Try.prog cfg 57 spec1057) (c58 : Contract Try.prog cfg 58 spec58) (c59 : Contract Try.prog cfg 59 spec59) (c60 : Contract Try.prog cfg 60 spec60) (hb : ∀ (e : Edit) (_ : Unit), pre16 (e, ()) → Body16 e) : Contract Try.prog cfg 16 spec16 :=
  contract_flat (l := [(43, spec43), (54, spec54), (55, spec55), (56, spec56), (57, spec1057), (58, spec58), (59, spec59), (60, spec60)]) cfgOk rfl (⟨c43, c54, c55, c56, c1057, c58, c59, c60, trivial⟩) lv16 Try.func16 rfl rfl 1 (fun _ => rfl) (by decide) (fun ⟨e, _⟩ => hb e ())

/-! cento/centolaw20.EditParts -/
/-! cento/centolaw20.EditEqual -/
end Go.AM.Ytlahjnelghpmeaa

namespace Go.AM.Ytlahjnelghpmeaa
open Go.AM Go.Proofs


theorem rng_nilT : rng Tree.nil := by
  simp only [Tree.nil, rng, rngK]
  exact ⟨by decide, by simp, trivial⟩


/-- But for numbers. -/
structure RngW (w : Wst) : Prop where
  out : ∀ o ∈ w.out, rngK o.l ∧ rngE o.e
  gone : rngK w.gone
  brought : rngK w.brought

theorem rngE_none : rngE Edit.nil := by
  simp only [Edit.nil, rngE, rngKs, rngOs]
  exact ⟨by unfold isI; omega, rng_nilT, rng_nilT, by simp, by unfold isI; omega, trivial, trivial⟩


end Go.AM.Ytlahjnelghpmeaa

namespace Go.AM.Ytlahjnelghpmeaa
open Go.AM Go.Proofs

theorem c86 : Contract Try.prog cfg 86 spec86 := by
  refine make86 ?_
  intro n _ _
  refine vc86 _ _ ?_
  simp only [res86]
  (repeat' (first | exact trivial | exact rfl | refine And.intro ?_ ?_))

theorem c55 : Contract Try.prog cfg 55 spec55 := by
  refine make55 c86 c56 c58 ?_
  intro _ _
  refine vc55 _ ?_
  rintro y1 hy1 y2 hy2 y3 hy3 y4 hy4 y5 hy5
  have hl : lenAW (Edit.ops y5) 0 = 3 ∧ lenBW (Edit.ops y5) 0 = 4 := by
    rw [hy5, hy1, hy2, hy3]
    exact ⟨by rfl, by rfl⟩
  have hr : rightE y5 64 = true := by
    rw [hy5, hy1, hy2, hy3, hy4]
    rfl
  have hm : massE y5 ≤ 900000 := by
    rw [hy5, hy1, hy2, hy3, hy4]
    decide
  have hn : rngE y5 := by
    have h4 : rngE y4 := by rw [hy4]; exact rngE_none
    have ht : ∀ x : Int, 0 ≤ x ∧ x < 18446744073709551616 → rng (Tree.mk 10 [x] []) := by
      intro x hx
      simp only [rng, rngK]
      exact ⟨by decide, by simpa using hx, trivial⟩
    rw [hy5, hy1, hy2, hy3]
    simp only [rngE, rngKs, rngOs, rngOp, rngK]
    have z := rng_nilT
    refine ⟨by unfold isI; omega, z, z, by simp, by unfold isI; omega, trivial, ⟨by unfold isI; omega, by unfold isI; omega, trivial, h4⟩, ⟨by unfold isI; omega, by unfold isI; omega, ⟨ht 5 (by omega), trivial⟩, h4⟩, ⟨by unfold isI; omega, by unfold isI; omega, ⟨ht 6 (by omega), ht 7 (by omega), trivial⟩, h4⟩, trivial⟩
  rw [hl.1, hl.2, hr]
  exact ⟨trivial, trivial, trivial, by simp only [pre56]; omega, by simp only [pre58]; exact ⟨hm, hn⟩, ends_bool rfl rfl⟩

theorem c16 : Contract Try.prog cfg 16 spec16 := by
  refine make16 c43 c54 c55 c56 c1057 c58 c59_90.1 c60 ?_
  intro e _ hp
  simp only [pre16] at hp
  refine vc16 _ _ ?_
  rintro y1 hy1
  subst hy1
  refine ⟨by simp only [pre54]; exact hp.1, fun hg => ⟨trivial, ends_bool rfl rfl⟩, fun hg => ?_⟩
  have hg : 0 ≤ leftE y1 80 3000 := by simpa using hg
  have hm := few_massE hg
  have h59 : pre59 (y1, 64, ()) := by simp only [pre59]; exact ⟨⟨by omega, hp.2⟩, by omega, by omega⟩
  refine ⟨by simp only [pre56]; omega, by simp only [pre1057]; omega, by simp only [pre58]; exact ⟨by omega, hp.2⟩, h59, fun _ => by simp only [pre43]; omega, fun _ => by simp only [pre60]; omega, fun hc => ?_, fun hc => ⟨h59, fun _ => trivial, ends_bool rfl ?_⟩⟩
  · simp at hc
  · simp


end Go.AM.Ytlahjnelghpmeaa
