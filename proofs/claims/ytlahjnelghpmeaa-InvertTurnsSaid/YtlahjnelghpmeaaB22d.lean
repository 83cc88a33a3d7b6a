import Derived.Test.YtlahjnelghpmeaaL22
set_option linter.unusedSimpArgs false
set_option linter.unusedVariables false
namespace Go.AM.Ytlahjnelghpmeaa
open Go.AM Go.Proofs
abbrev TrG22c (p : Prop) : Prop := p → p
def args107 : ArgM ((List Op × List Tree × List Tree × Unit) × Unit) := (.obj 0 (.cons (cWr .op 0 0) (.cons (cOwn .tree 0 1) (.cons (cOwn .tree 0 2) .nil))) .nil)
def pre107 (a : (List Op × List Tree × List Tree × Unit) × Unit) : Prop := (a.1.1).length ≤ 100000000 ∧ (a.1.2.1).length ≤ 100000000 ∧ (a.1.2.2.1).length ≤ 100000000
noncomputable def res107 (a : (List Op × List Tree × List Tree × Unit) × Unit) : V U := .tup []
noncomputable def resX107 (a : (List Op × List Tree × List Tree × Unit) × Unit) : List (List (C U)) := [[.mref (.x 0 0), .slice (U := U) .tree ((flushW (Wst.mk a.1.1 a.1.2.1 a.1.2.2.1)).gone) (.own (.x 0 1)), .slice (U := U) .tree ((flushW (Wst.mk a.1.1 a.1.2.1 a.1.2.2.1)).brought) (.own (.x 0 2))]]
noncomputable def resL107 (a : (List Op × List Tree × List Tree × Unit) × Unit) : List (Tok × LC U) := [(.x 0 0, LC.mk (U := U) .op ((flushW (Wst.mk a.1.1 a.1.2.1 a.1.2.2.1)).out) 0)]
noncomputable def spec107 : Fs U := fsXL args107 (fun a => [pre107 a]) res107 resX107 resL107
def args105 : ArgM ((List Op × List Tree × List Tree × Unit) × Int × Unit) := (.obj 0 (.cons (cWr .op 0 0) (.cons (cOwn .tree 0 1) (.cons (cOwn .tree 0 2) .nil))) (.cons (aInt .i64) .nil))
def pre105 (a : (List Op × List Tree × List Tree × Unit) × Int × Unit) : Prop := (a.1.1).length ≤ 100000000 ∧ (a.1.2.1).length ≤ 100000000 ∧ (a.1.2.2.1).length ≤ 100000000 ∧ (∀ o ∈ a.1.1, 0 ≤ o.n ∧ o.n ≤ 100000000000000) ∧ 0 ≤ a.2.1 ∧ a.2.1 ≤ 1048576
noncomputable def res105 (a : (List Op × List Tree × List Tree × Unit) × Int × Unit) : V U := .tup []
noncomputable def resX105 (a : (List Op × List Tree × List Tree × Unit) × Int × Unit) : List (List (C U)) := [[.mref (.x 0 0), .slice (U := U) .tree ((keepW (Wst.mk a.1.1 a.1.2.1 a.1.2.2.1) a.2.1).gone) (.own (.x 0 1)), .slice (U := U) .tree ((keepW (Wst.mk a.1.1 a.1.2.1 a.1.2.2.1) a.2.1).brought) (.own (.x 0 2))]]
noncomputable def resL105 (a : (List Op × List Tree × List Tree × Unit) × Int × Unit) : List (Tok × LC U) := [(.x 0 0, LC.mk (U := U) .op ((keepW (Wst.mk a.1.1 a.1.2.1 a.1.2.2.1) a.2.1).out) 0)]
noncomputable def spec105 : Fs U := fsXL args105 (fun a => [pre105 a]) res105 resX105 resL105
def args106 : ArgM ((List Op × List Tree × List Tree × Unit) × List Tree × Unit) := (.objAt 0 1 (.cons (cWr .op 0 0) (.cons (cOwn .tree 0 1) (.cons (cOwn .tree 0 2) .nil))) (.cons (aSl .tree) .nil))
def pre106 (a : (List Op × List Tree × List Tree × Unit) × List Tree × Unit) : Prop := (a.1.1).length ≤ 100000000 ∧ (a.1.2.1).length ≤ 100000000 ∧ (a.1.2.2.1).length ≤ 100000000 ∧ massK a.2.1 ≤ 1000000
noncomputable def res106 (a : (List Op × List Tree × List Tree × Unit) × List Tree × Unit) : V U := .tup []
noncomputable def resX106 (a : (List Op × List Tree × List Tree × Unit) × List Tree × Unit) : List (List (C U)) := [[.mref (.x 0 0), .slice (U := U) .tree ((Wst.mk a.1.1 (a.1.2.1 ++ normsT a.2.1) a.1.2.2.1).gone) (.own (.x 0 1)), .slice (U := U) .tree ((Wst.mk a.1.1 (a.1.2.1 ++ normsT a.2.1) a.1.2.2.1).brought) (.own (.x 0 2))]]
noncomputable def resL106 (a : (List Op × List Tree × List Tree × Unit) × List Tree × Unit) : List (Tok × LC U) := [(.x 0 0, LC.mk (U := U) .op ((Wst.mk a.1.1 (a.1.2.1 ++ normsT a.2.1) a.1.2.2.1).out) 0)]
noncomputable def spec106 : Fs U := fsXL args106 (fun a => [pre106 a]) res106 resX106 resL106
def args1106 : ArgM ((List Op × List Tree × List Tree × Unit) × List Tree × Unit) := (.objAt 0 2 (.cons (cWr .op 0 0) (.cons (cOwn .tree 0 1) (.cons (cOwn .tree 0 2) .nil))) (.cons (aSl .tree) .nil))
def pre1106 (a : (List Op × List Tree × List Tree × Unit) × List Tree × Unit) : Prop := (a.1.1).length ≤ 100000000 ∧ (a.1.2.1).length ≤ 100000000 ∧ (a.1.2.2.1).length ≤ 100000000 ∧ massK a.2.1 ≤ 1000000
noncomputable def res1106 (a : (List Op × List Tree × List Tree × Unit) × List Tree × Unit) : V U := .tup []
noncomputable def resX1106 (a : (List Op × List Tree × List Tree × Unit) × List Tree × Unit) : List (List (C U)) := [[.mref (.x 0 0), .slice (U := U) .tree ((Wst.mk a.1.1 a.1.2.1 (a.1.2.2.1 ++ normsT a.2.1)).gone) (.own (.x 0 1)), .slice (U := U) .tree ((Wst.mk a.1.1 a.1.2.1 (a.1.2.2.1 ++ normsT a.2.1)).brought) (.own (.x 0 2))]]
noncomputable def resL1106 (a : (List Op × List Tree × List Tree × Unit) × List Tree × Unit) : List (Tok × LC U) := [(.x 0 0, LC.mk (U := U) .op ((Wst.mk a.1.1 a.1.2.1 (a.1.2.2.1 ++ normsT a.2.1)).out) 0)]
noncomputable def spec1106 : Fs U := fsXL args1106 (fun a => [pre1106 a]) res1106 resX1106 resL1106
def args1042 : ArgL (Int × Edit × Unit) := (.cons (aInt .i64) (.cons (aEl .edit) .nil))
def pre1042 (a : Int × Edit × Unit) : Prop := (Edit.words a.2.1).length ≤ 1000000 ∧ (Edit.kids a.2.1).length ≤ 1000000
noncomputable def res1042 (a : Int × Edit × Unit) : V U := .c (.bool (idleE a.1 a.2.1))
noncomputable def spec1042 : Fs U := fs args1042 (fun a => [pre1042 a]) res1042
def args1109 : ArgL (Int × Edit × Unit) := (.cons (aInt .i64) (.cons (aEl .edit) .nil))
def pre1109 (a : Int × Edit × Unit) : Prop := True
noncomputable def res1109 (a : Int × Edit × Unit) : V U := .c (.bool (idleE a.1 a.2.1))
noncomputable def spec1109 : Fs U := fs args1109 (fun a => [pre1109 a]) res1109
noncomputable def know107 : List (FuncId × Fs U) := []
def lv107 : Lives U := fun i => match i with
  | 0 => ([(0, []), (7, [])], [((.x 0), [.wr .op])])
  | 1 => ([(0, [])], [((.x 0), [.wr .op])])
  | 2 => ([(0, []), (28, [])], [((.x 0), [.wr .op])])
  | 3 => ([(0, [])], [((.x 0), [.wr .op])])
  | 4 => ([], [((.x 0), [.wr .op])])
  | _ => ([], [])
abbrev W107 (wo : List Op) (wg : List Tree) (wb : List Tree) (Q : AExit → LSt U → Prop) := awp cfg (know know107) (drawOk cfg (know know107)) Try.f107.ntmps lv107 (cd Try.f107 []) (⟨[(0, .ptr (.x 0) 0)], [((.x 0), [.mref (.x 0 0), .slice (U := U) .tree wg (.own (.x 0 1)), .slice (U := U) .tree wb (.own (.x 0 2))])], [(.x 0 0, LC.mk (U := U) .op wo 0)]⟩ : LSt U) Q
theorem vc107 (wo : List Op) (wg : List Tree) (wb : List Tree) (Q : AExit → LSt U → Prop) (h : ∀ y_1, y_1 = (Edit.mk 0 (Tree.mk 0 ([]) ([])) (Tree.mk 0 ([]) ([])) ([]) ([]) 0 ([])) → ∀ y_2, y_2 = (List.set (wo ++ ([(OpOf.mk 0 0 ([]) y_1 : Op)])) (Int.toNat (wo.length : Int)) (OpOf.mk 1 0 wg y_1 : Op)) → ((decide ((0 : Int) < (wg.length : Int))) = true → ((wo.length + ([(OpOf.mk 0 0 ([]) y_1 : Op)]).length) * 240 ≤ 140737488355328) ∧ ((0 : Int) ≤ (wo.length : Int) ∧ (wo.length : Int) < ((wo ++ ([(OpOf.mk 0 0 ([]) y_1 : Op)])).length : Int)) ∧ ((0 : Nat) ≤ (Int.toNat (wo.length : Int))) ∧ (((decide ((0 : Int) < (wb.length : Int))) = true → ((y_2.length + ([(OpOf.mk 0 0 ([]) y_1 : Op)]).length) * 240 ≤ 140737488355328) ∧ ((0 : Int) ≤ (y_2.length : Int) ∧ (y_2.length : Int) < ((y_2 ++ ([(OpOf.mk 0 0 ([]) y_1 : Op)])).length : Int)) ∧ ((0 : Nat) ≤ (Int.toNat (y_2.length : Int))) ∧ (Q .normal (⟨[], [((.x 0), [.mref (.x 0 0), .nils, .nils])], [(.x 0 0, LC.mk (U := U) .op (List.set (y_2 ++ ([(OpOf.mk 0 0 ([]) y_1 : Op)])) (Int.toNat (y_2.length : Int)) (OpOf.mk 2 0 wb y_1 : Op)) 0)]⟩ : LSt U))) ∧ ((decide ((0 : Int) < (wb.length : Int))) = false → Q .normal (⟨[], [((.x 0), [.mref (.x 0 0), .nils, .nils])], [(.x 0 0, LC.mk (U := U) .op y_2 0)]⟩ : LSt U)))) ∧ ((decide ((0 : Int) < (wg.length : Int))) = false → ((decide ((0 : Int) < (wb.length : Int))) = true → ((wo.length + ([(OpOf.mk 0 0 ([]) y_1 : Op)]).length) * 240 ≤ 140737488355328) ∧ ((0 : Int) ≤ (wo.length : Int) ∧ (wo.length : Int) < ((wo ++ ([(OpOf.mk 0 0 ([]) y_1 : Op)])).length : Int)) ∧ ((0 : Nat) ≤ (Int.toNat (wo.length : Int))) ∧ (Q .normal (⟨[], [((.x 0), [.mref (.x 0 0), .nils, .nils])], [(.x 0 0, LC.mk (U := U) .op (List.set (wo ++ ([(OpOf.mk 0 0 ([]) y_1 : Op)])) (Int.toNat (wo.length : Int)) (OpOf.mk 2 0 wb y_1 : Op)) 0)]⟩ : LSt U))) ∧ ((decide ((0 : Int) < (wb.length : Int))) = false → Q .normal (⟨[], [((.x 0), [.mref (.x 0 0), .nils, .nils])], [(.x 0 0, LC.mk (U := U) .op wo 0)]⟩ : LSt U)))) :
    W107 wo wg wb Q := by
  have e_ : (W107 wo wg wb Q) = (let y_1 := (Edit.mk 0 (Tree.mk 0 ([]) ([])) (Tree.mk 0 ([]) ([])) ([]) ([]) 0 ([])); let y_2 := (List.set (wo ++ ([(OpOf.mk 0 0 ([]) y_1 : Op)])) (Int.toNat (wo.length : Int)) (OpOf.mk 1 0 wg y_1 : Op)); let zz0 := (decide ((0 : Int) < (wb.length : Int))); (((decide ((0 : Int) < (wg.length : Int))) = true → ((wo.length + ([(OpOf.mk 0 0 ([]) y_1 : Op)]).length) * 240 ≤ 140737488355328) ∧ ((0 : Int) ≤ (wo.length : Int) ∧ (wo.length : Int) < ((wo ++ ([(OpOf.mk 0 0 ([]) y_1 : Op)])).length : Int)) ∧ ((0 : Nat) ≤ (Int.toNat (wo.length : Int))) ∧ (((zz0 = true → ((y_2.length + ([(OpOf.mk 0 0 ([]) y_1 : Op)]).length) * 240 ≤ 140737488355328) ∧ ((0 : Int) ≤ (y_2.length : Int) ∧ (y_2.length : Int) < ((y_2 ++ ([(OpOf.mk 0 0 ([]) y_1 : Op)])).length : Int)) ∧ ((0 : Nat) ≤ (Int.toNat (y_2.length : Int))) ∧ ((Q .normal (⟨[], [((.x 0), [.mref (.x 0 0), .nils, .nils])], [(.x 0 0, LC.mk (U := U) .op (List.set (y_2 ++ ([(OpOf.mk 0 0 ([]) y_1 : Op)])) (Int.toNat (y_2.length : Int)) (OpOf.mk 2 0 wb y_1 : Op)) 0)]⟩ : LSt U)))) ∧ (zz0 = false → (Q .normal (⟨[], [((.x 0), [.mref (.x 0 0), .nils, .nils])], [(.x 0 0, LC.mk (U := U) .op y_2 0)]⟩ : LSt U)))))) ∧ ((decide ((0 : Int) < (wg.length : Int))) = false → ((zz0 = true → ((wo.length + ([(OpOf.mk 0 0 ([]) y_1 : Op)]).length) * 240 ≤ 140737488355328) ∧ ((0 : Int) ≤ (wo.length : Int) ∧ (wo.length : Int) < ((wo ++ ([(OpOf.mk 0 0 ([]) y_1 : Op)])).length : Int)) ∧ ((0 : Nat) ≤ (Int.toNat (wo.length : Int))) ∧ ((Q .normal (⟨[], [((.x 0), [.mref (.x 0 0), .nils, .nils])], [(.x 0 0, LC.mk (U := U) .op (List.set (wo ++ ([(OpOf.mk 0 0 ([]) y_1 : Op)])) (Int.toNat (wo.length : Int)) (OpOf.mk 2 0 wb y_1 : Op)) 0)]⟩ : LSt U)))) ∧ (zz0 = false → (Q .normal (⟨[], [((.x 0), [.mref (.x 0 0), .nils, .nils])], [(.x 0 0, LC.mk (U := U) .op wo 0)]⟩ : LSt U))))))) := by kernel_rfl
  exact e_.mpr (by intro y_1 y_2; have hh := h y_1 rfl y_2 rfl; exact ⟨fun c_1 => ⟨(hh.1 c_1).1, (hh.1 c_1).2.1, (hh.1 c_1).2.2.1, ⟨fun c_2 => ⟨((hh.1 c_1).2.2.2.1 c_2).1, ((hh.1 c_1).2.2.2.1 c_2).2.1, ((hh.1 c_1).2.2.2.1 c_2).2.2.1, ((hh.1 c_1).2.2.2.1 c_2).2.2.2⟩, fun c_2 => ((hh.1 c_1).2.2.2.2 c_2)⟩⟩, fun c_1 => ⟨fun c_3 => ⟨((hh.2 c_1).1 c_3).1, ((hh.2 c_1).1 c_3).2.1, ((hh.2 c_1).1 c_3).2.2.1, ((hh.2 c_1).1 c_3).2.2.2⟩, fun c_3 => ((hh.2 c_1).2 c_3)⟩⟩)
def Body107 (wo : List Op) (wg : List Tree) (wb : List Tree)  : Prop := awp cfg (know (know107)) (drawOk cfg (know (know107))) Try.f107.ntmps lv107 (cd Try.f107 []) (entryL (args107.can ((wo, wg, wb, ()), ())) (args107.canX ((wo, wg, wb, ()), ())) (args107.canL ((wo, wg, wb, ()), ()))) (EndsQL cfg Try.f107.ntmps Try.f107.results.toList (res107 ((wo, wg, wb, ()), ())) (resX107 ((wo, wg, wb, ()), ())) (resL107 ((wo, wg, wb, ()), ())))
theorem make107 (hb : ∀ (wo : List Op) (wg : List Tree) (wb : List Tree) (_ : Unit), pre107 ((wo, wg, wb, ()), ()) → Body107 wo wg wb) : Contract Try.prog cfg 107 spec107 :=
  contractXL_flat (l := []) cfgOk rfl (trivial) lv107 Try.func107 rfl rfl 1 (fun _ => rfl) (by decide) (fun ⟨⟨wo, wg, wb, _⟩, _⟩ => hb wo wg wb ())
noncomputable def know105 : List (FuncId × Fs U) := [(107, spec107)]
def lv105 : Lives U := fun i => match i with
  | 0 => ([(0, []), (1, [])], [((.x 0), [.wr .op])])
  | 1 => ([(0, []), (1, []), (4, [])], [((.x 0), [.wr .op])])
  | 2 => ([(0, []), (1, []), (4, []), (25, [])], [((.x 0), [.wr .op])])
  | 3 => ([], [((.x 0), [.wr .op])])
  | 4 => ([], [((.x 0), [.wr .op])])
  | _ => ([], [])
abbrev W105 (wo : List Op) (wg : List Tree) (wb : List Tree) (n : Int) (Q : AExit → LSt U → Prop) := awp cfg (know know105) (drawOk cfg (know know105)) Try.f105.ntmps lv105 (cd Try.f105 []) (⟨[(0, .ptr (.x 0) 0), (1, .c (.int .i64 n))], [((.x 0), [.mref (.x 0 0), .slice (U := U) .tree wg (.own (.x 0 1)), .slice (U := U) .tree wb (.own (.x 0 2))])], [(.x 0 0, LC.mk (U := U) .op wo 0)]⟩ : LSt U) Q
theorem vc105 (wo : List Op) (wg : List Tree) (wb : List Tree) (n : Int) (Q : AExit → LSt U → Prop) (h : ∀ y_1, y_1 = (Edit.mk 0 (Tree.mk 0 ([]) ([])) (Tree.mk 0 ([]) ([])) ([]) ([]) 0 ([])) → ∀ y_2, y_2 = (Int.toNat (((((flushW (Wst.mk wo wg wb)).out).length : Int) : Int) - 1)) → ∀ y_3, y_3 = (List.getD ((flushW (Wst.mk wo wg wb)).out) y_2 Op.nil) → ∀ y_4, y_4 = ((OpOf.e y_3)) → (pre107 ((wo, wg, wb, ()), ())) ∧ ((InR (((((flushW (Wst.mk wo wg wb)).out).length : Int) : Int) - 1)) ∧ (((decide ((0 : Int) ≤ (((((flushW (Wst.mk wo wg wb)).out).length : Int) : Int) - 1))) = true → (0 : Int) ≤ (((((flushW (Wst.mk wo wg wb)).out).length : Int) : Int) - 1) ∧ (((((flushW (Wst.mk wo wg wb)).out).length : Int) : Int) - 1) < (((flushW (Wst.mk wo wg wb)).out).length : Int)) ∧ (((bif (decide ((0 : Int) ≤ (((((flushW (Wst.mk wo wg wb)).out).length : Int) : Int) - 1))) then (((OpOf.kind y_3) : Int) == 0) else false) = true → ((0 : Int) ≤ (((((flushW (Wst.mk wo wg wb)).out).length : Int) : Int) - 1) ∧ (((((flushW (Wst.mk wo wg wb)).out).length : Int) : Int) - 1) < (((flushW (Wst.mk wo wg wb)).out).length : Int)) ∧ (InR (((OpOf.n y_3) : Int) + n)) ∧ ((0 : Int) ≤ (((((flushW (Wst.mk wo wg wb)).out).length : Int) : Int) - 1) ∧ (((((flushW (Wst.mk wo wg wb)).out).length : Int) : Int) - 1) < (((flushW (Wst.mk wo wg wb)).out).length : Int)) ∧ ((0 : Nat) ≤ y_2) ∧ (Q .ret (⟨[], [((.x 0), [.mref (.x 0 0), .slice (U := U) .tree ((flushW (Wst.mk wo wg wb)).gone) (.own (.x 0 1)), .slice (U := U) .tree ((flushW (Wst.mk wo wg wb)).brought) (.own (.x 0 2))])], [(.x 0 0, LC.mk (U := U) .op (List.set ((flushW (Wst.mk wo wg wb)).out) y_2 (OpOf.mk (OpOf.kind y_3) (((OpOf.n y_3) : Int) + n) (OpOf.l y_3) y_4 : Op)) 0)]⟩ : LSt U))) ∧ ((bif (decide ((0 : Int) ≤ (((((flushW (Wst.mk wo wg wb)).out).length : Int) : Int) - 1))) then (((OpOf.kind y_3) : Int) == 0) else false) = false → ((((flushW (Wst.mk wo wg wb)).out).length + ([(OpOf.mk 0 0 ([]) y_1 : Op)]).length) * 240 ≤ 140737488355328) ∧ ((0 : Int) ≤ (((flushW (Wst.mk wo wg wb)).out).length : Int) ∧ (((flushW (Wst.mk wo wg wb)).out).length : Int) < ((((flushW (Wst.mk wo wg wb)).out) ++ ([(OpOf.mk 0 0 ([]) y_1 : Op)])).length : Int)) ∧ ((0 : Nat) ≤ (Int.toNat (((flushW (Wst.mk wo wg wb)).out).length : Int))) ∧ (Q .normal (⟨[], [((.x 0), [.mref (.x 0 0), .slice (U := U) .tree ((flushW (Wst.mk wo wg wb)).gone) (.own (.x 0 1)), .slice (U := U) .tree ((flushW (Wst.mk wo wg wb)).brought) (.own (.x 0 2))])], [(.x 0 0, LC.mk (U := U) .op (List.set (((flushW (Wst.mk wo wg wb)).out) ++ ([(OpOf.mk 0 0 ([]) y_1 : Op)])) (Int.toNat (((flushW (Wst.mk wo wg wb)).out).length : Int)) (OpOf.mk 0 n ([]) y_1 : Op)) 0)]⟩ : LSt U))))))) :
    W105 wo wg wb n Q := by
  have e_ : (W105 wo wg wb n Q) = (let y_1 := (Edit.mk 0 (Tree.mk 0 ([]) ([])) (Tree.mk 0 ([]) ([])) ([]) ([]) 0 ([])); let y_2 := (Int.toNat (((((flushW (Wst.mk wo wg wb)).out).length : Int) : Int) - 1)); let y_3 := (List.getD ((flushW (Wst.mk wo wg wb)).out) y_2 Op.nil); let y_4 := (reEdit (OpOf.e y_3)); let zz0 := (decide ((0 : Int) ≤ (((((flushW (Wst.mk wo wg wb)).out).length : Int) : Int) - 1))); (pre107 ((wo, wg, wb, ()), ())) ∧ ((InR (((((flushW (Wst.mk wo wg wb)).out).length : Int) : Int) - 1)) ∧ ((TrG22c (zz0 = true)) ∧ (TrG22c (zz0 = true)) ∧ (TrG22c (zz0 = true)) ∧ (TrG22c (zz0 = true)) ∧ (TrG22c (zz0 = true)) ∧ (zz0 = true → (0 : Int) ≤ (((((flushW (Wst.mk wo wg wb)).out).length : Int) : Int) - 1) ∧ (((((flushW (Wst.mk wo wg wb)).out).length : Int) : Int) - 1) < (((flushW (Wst.mk wo wg wb)).out).length : Int)) ∧ (TrG22c (zz0 = true)) ∧ (TrG22c (zz0 = true)) ∧ (TrG22c (zz0 = true)) ∧ ((TrG22c (zz0 = true))) ∧ (((bif zz0 then ((OpOf.kind y_3) == 0) else false) = true → ((0 : Int) ≤ (((((flushW (Wst.mk wo wg wb)).out).length : Int) : Int) - 1) ∧ (((((flushW (Wst.mk wo wg wb)).out).length : Int) : Int) - 1) < (((flushW (Wst.mk wo wg wb)).out).length : Int)) ∧ (InR ((OpOf.n y_3) + n)) ∧ ((0 : Int) ≤ (((((flushW (Wst.mk wo wg wb)).out).length : Int) : Int) - 1) ∧ (((((flushW (Wst.mk wo wg wb)).out).length : Int) : Int) - 1) < (((flushW (Wst.mk wo wg wb)).out).length : Int)) ∧ ((0 : Nat) ≤ y_2) ∧ (Q .ret (⟨[], [((.x 0), [.mref (.x 0 0), .slice (U := U) .tree ((flushW (Wst.mk wo wg wb)).gone) (.own (.x 0 1)), .slice (U := U) .tree ((flushW (Wst.mk wo wg wb)).brought) (.own (.x 0 2))])], [(.x 0 0, LC.mk (U := U) .op (List.set ((flushW (Wst.mk wo wg wb)).out) y_2 (OpOf.mk (OpOf.kind y_3) ((OpOf.n y_3) + n) (OpOf.l y_3) y_4 : Op)) 0)]⟩ : LSt U))) ∧ ((bif zz0 then ((OpOf.kind y_3) == 0) else false) = false → ((((flushW (Wst.mk wo wg wb)).out).length + ([(OpOf.mk 0 0 ([]) y_1 : Op)]).length) * 240 ≤ 140737488355328) ∧ ((0 : Int) ≤ (((flushW (Wst.mk wo wg wb)).out).length : Int) ∧ (((flushW (Wst.mk wo wg wb)).out).length : Int) < ((((flushW (Wst.mk wo wg wb)).out) ++ ([(OpOf.mk 0 0 ([]) y_1 : Op)])).length : Int)) ∧ ((0 : Nat) ≤ (Int.toNat (((flushW (Wst.mk wo wg wb)).out).length : Int))) ∧ (Q .normal (⟨[], [((.x 0), [.mref (.x 0 0), .slice (U := U) .tree ((flushW (Wst.mk wo wg wb)).gone) (.own (.x 0 1)), .slice (U := U) .tree ((flushW (Wst.mk wo wg wb)).brought) (.own (.x 0 2))])], [(.x 0 0, LC.mk (U := U) .op (List.set (((flushW (Wst.mk wo wg wb)).out) ++ ([(OpOf.mk 0 0 ([]) y_1 : Op)])) (Int.toNat (((flushW (Wst.mk wo wg wb)).out).length : Int)) (OpOf.mk 0 n ([]) y_1 : Op)) 0)]⟩ : LSt U))))))) := by kernel_rfl
  exact e_.mpr (by intro y_1 y_2 y_3 y_4; have hh := h y_1 rfl y_2 rfl y_3 rfl y_4 (reEdit_eq _); exact ⟨hh.1, ⟨hh.2.1, ⟨id, id, id, id, id, hh.2.2.1, id, id, id, (by generalize (decide ((0 : Int) ≤ (((((flushW (Wst.mk wo wg wb)).out).length : Int) : Int) - 1))) = b0; revert b0; decide), ⟨fun c_4 => ⟨(hh.2.2.2.1 c_4).1, (hh.2.2.2.1 c_4).2.1, (hh.2.2.2.1 c_4).2.2.1, (hh.2.2.2.1 c_4).2.2.2.1, (hh.2.2.2.1 c_4).2.2.2.2⟩, fun c_4 => ⟨(hh.2.2.2.2 c_4).1, (hh.2.2.2.2 c_4).2.1, (hh.2.2.2.2 c_4).2.2.1, (hh.2.2.2.2 c_4).2.2.2⟩⟩⟩⟩⟩)
def Body105 (wo : List Op) (wg : List Tree) (wb : List Tree) (n : Int)  : Prop := awp cfg (know (know105)) (drawOk cfg (know (know105))) Try.f105.ntmps lv105 (cd Try.f105 []) (entryL (args105.can ((wo, wg, wb, ()), n, ())) (args105.canX ((wo, wg, wb, ()), n, ())) (args105.canL ((wo, wg, wb, ()), n, ()))) (EndsQL cfg Try.f105.ntmps Try.f105.results.toList (res105 ((wo, wg, wb, ()), n, ())) (resX105 ((wo, wg, wb, ()), n, ())) (resL105 ((wo, wg, wb, ()), n, ())))
theorem make105 (c107 : Contract Try.prog cfg 107 spec107) (hb : ∀ (wo : List Op) (wg : List Tree) (wb : List Tree) (n : Int) (_ : Unit), pre105 ((wo, wg, wb, ()), n, ()) → Body105 wo wg wb n) : Contract Try.prog cfg 105 spec105 :=
  contractXL_flat (l := [(107, spec107)]) cfgOk rfl (⟨c107, trivial⟩) lv105 Try.func105 rfl rfl 2 (fun _ => rfl) (by decide) (fun ⟨⟨wo, wg, wb, _⟩, n, _⟩ => hb wo wg wb n ())
noncomputable def know106 : List (FuncId × Fs U) := [(32, spec32)]
def lv106 : Lives U := fun i => match i with
  | 0 => ([(0, []), (6, []), (7, []), (8, [])], [((.x 0), [.wr .op])])
  | 1 => ([(0, []), (6, []), (7, []), (8, []), (9, [])], [((.x 0), [.wr .op])])
  | 2 => ([(0, []), (5, []), (6, []), (7, []), (8, [])], [((.loc 5), []), ((.x 0), [.wr .op])])
  | 3 => ([(0, []), (6, []), (7, []), (8, [])], [((.x 0), [.wr .op])])
  | 4 => ([(0, []), (6, []), (7, []), (8, [])], [((.x 0), [.wr .op])])
  | _ => ([], [])
def head106_0 (wo : List Op) (wg : List Tree) (wb : List Tree) (l : List Tree) (x8 : Int) (mx0_1 : List Tree) : LSt U := (⟨[(0, .ptr (.x 0) 1), (6, .c (.slice (U := U) .tree l .unk)), (7, .c (.int .i64 (l.length : Int))), (8, .c (.int .i64 x8))], [((.x 0), [.mref (.x 0 0), .slice (U := U) .tree mx0_1 (.own (.x 0 1)), .slice (U := U) .tree wb (.own (.x 0 2))])], [(.x 0 0, LC.mk (U := U) .op wo 0)]⟩ : LSt U)
abbrev W106 (wo : List Op) (wg : List Tree) (wb : List Tree) (l : List Tree) (Q : AExit → LSt U → Prop) := awp cfg (know know106) (drawOk cfg (know know106)) Try.f106.ntmps lv106 (cd Try.f106 []) (⟨[(0, .ptr (.x 0) 1), (1, .c (.slice (U := U) .tree l .unk))], [((.x 0), [.mref (.x 0 0), .slice (U := U) .tree wg (.own (.x 0 1)), .slice (U := U) .tree wb (.own (.x 0 2))])], [(.x 0 0, LC.mk (U := U) .op wo 0)]⟩ : LSt U) Q
theorem vc106 (wo : List Op) (wg : List Tree) (wb : List Tree) (l : List Tree) (Q : AExit → LSt U → Prop) (h : LoopWp (awp cfg (know know106) (drawOk cfg (know know106)) Try.f106.ntmps lv106 (cd Try.f106 [1, 0, 0])) (head106_0 wo wg wb l 0 wg) (AExit.inBlock 0 Q)) :
    W106 wo wg wb l Q := by
  have e_ : (W106 wo wg wb l Q) = (type_of% h) := by kernel_rfl
  exact e_.mpr h
abbrev W106_l0 (wo : List Op) (wg : List Tree) (wb : List Tree) (l : List Tree) (x8 : Int) (mx0_1 : List Tree) (N0 : LSt U → Prop) (Q : AExit → LSt U → Prop) := awp cfg (know know106) (drawOk cfg (know know106)) Try.f106.ntmps lv106 (cd Try.f106 [1, 0, 0]) (head106_0 wo wg wb l x8 mx0_1) (AExit.then N0 (AExit.inBlock 0 Q))
theorem vc106_l0 (wo : List Op) (wg : List Tree) (wb : List Tree) (l : List Tree) (x8 : Int) (mx0_1 : List Tree) (N0 : LSt U → Prop) (Q : AExit → LSt U → Prop) (h : ((decide ((x8 : Int) < (l.length : Int))) = true → ((0 : Int) ≤ x8 ∧ x8 < (l.length : Int)) ∧ ((pre32 ((Tree.mk (Tree.kind (List.getD l (Int.toNat x8) Tree.nil)) (Tree.words (List.getD l (Int.toNat x8) Tree.nil)) (Tree.kids (List.getD l (Int.toNat x8) Tree.nil))), ())) ∧ ((mx0_1.length + ([(Tree.mk 0 ([]) ([]))]).length) * 56 ≤ 140737488355328) ∧ ((0 : Int) ≤ (mx0_1.length : Int) ∧ (mx0_1.length : Int) < ((mx0_1 ++ ([(Tree.mk 0 ([]) ([]))])).length : Int)) ∧ (mx0_1.length ≤ (Int.toNat (mx0_1.length : Int))) ∧ ((InR ((x8 : Int) + 1)) ∧ (N0 (head106_0 wo wg wb l ((x8 : Int) + 1) (List.set (mx0_1 ++ ([(Tree.mk 0 ([]) ([]))])) (Int.toNat (mx0_1.length : Int)) (Tree.mk (Tree.kind (normT (Tree.mk (Tree.kind (List.getD l (Int.toNat x8) Tree.nil)) (Tree.words (List.getD l (Int.toNat x8) Tree.nil)) (Tree.kids (List.getD l (Int.toNat x8) Tree.nil))))) (Tree.words (normT (Tree.mk (Tree.kind (List.getD l (Int.toNat x8) Tree.nil)) (Tree.words (List.getD l (Int.toNat x8) Tree.nil)) (Tree.kids (List.getD l (Int.toNat x8) Tree.nil))))) (Tree.kids (normT (Tree.mk (Tree.kind (List.getD l (Int.toNat x8) Tree.nil)) (Tree.words (List.getD l (Int.toNat x8) Tree.nil)) (Tree.kids (List.getD l (Int.toNat x8) Tree.nil)))))))))))) ∧ ((decide ((x8 : Int) < (l.length : Int))) = false → Q .normal (⟨[(0, .ptr (.x 0) 1), (6, .c (.slice (U := U) .tree l .unk)), (7, .c (.int .i64 (l.length : Int))), (8, .c (.int .i64 x8)), (9, .c (.bool (decide ((x8 : Int) < (l.length : Int)))))], [((.x 0), [.mref (.x 0 0), .slice (U := U) .tree mx0_1 (.own (.x 0 1)), .slice (U := U) .tree wb (.own (.x 0 2))])], [(.x 0 0, LC.mk (U := U) .op wo 0)]⟩ : LSt U))) :
    W106_l0 wo wg wb l x8 mx0_1 N0 Q := by
  have e_ : (W106_l0 wo wg wb l x8 mx0_1 N0 Q) = (type_of% h) := by kernel_rfl
  exact e_.mpr ⟨fun c_5 => ⟨(h.1 c_5).1, ⟨(h.1 c_5).2.1, (h.1 c_5).2.2.1, (h.1 c_5).2.2.2.1, (h.1 c_5).2.2.2.2.1, ⟨(h.1 c_5).2.2.2.2.2.1, (h.1 c_5).2.2.2.2.2.2⟩⟩⟩, fun c_5 => (h.2 c_5)⟩
def Body106 (wo : List Op) (wg : List Tree) (wb : List Tree) (l : List Tree)  : Prop := awp cfg (know (know106)) (drawOk cfg (know (know106))) Try.f106.ntmps lv106 (cd Try.f106 []) (entryL (args106.can ((wo, wg, wb, ()), l, ())) (args106.canX ((wo, wg, wb, ()), l, ())) (args106.canL ((wo, wg, wb, ()), l, ()))) (EndsQL cfg Try.f106.ntmps Try.f106.results.toList (res106 ((wo, wg, wb, ()), l, ())) (resX106 ((wo, wg, wb, ()), l, ())) (resL106 ((wo, wg, wb, ()), l, ())))
theorem make106 (c32 : Contract Try.prog cfg 32 spec32) (hb : ∀ (wo : List Op) (wg : List Tree) (wb : List Tree) (l : List Tree) (_ : Unit), pre106 ((wo, wg, wb, ()), l, ()) → Body106 wo wg wb l) : Contract Try.prog cfg 106 spec106 :=
  contractXL_flat (l := [(32, spec32)]) cfgOk rfl (⟨c32, trivial⟩) lv106 Try.func106 rfl rfl 2 (fun _ => rfl) (by decide) (fun ⟨⟨wo, wg, wb, _⟩, l, _⟩ => hb wo wg wb l ())
noncomputable def know1106 : List (FuncId × Fs U) := [(32, spec32)]
def lv1106 : Lives U := fun i => match i with
  | 0 => ([(0, []), (6, []), (7, []), (8, [])], [((.x 0), [.wr .op])])
  | 1 => ([(0, []), (6, []), (7, []), (8, []), (9, [])], [((.x 0), [.wr .op])])
  | 2 => ([(0, []), (5, []), (6, []), (7, []), (8, [])], [((.loc 5), []), ((.x 0), [.wr .op])])
  | 3 => ([(0, []), (6, []), (7, []), (8, [])], [((.x 0), [.wr .op])])
  | 4 => ([(0, []), (6, []), (7, []), (8, [])], [((.x 0), [.wr .op])])
  | _ => ([], [])
def head1106_0 (wo : List Op) (wg : List Tree) (wb : List Tree) (l : List Tree) (x8 : Int) (mx0_2 : List Tree) : LSt U := (⟨[(0, .ptr (.x 0) 2), (6, .c (.slice (U := U) .tree l .unk)), (7, .c (.int .i64 (l.length : Int))), (8, .c (.int .i64 x8))], [((.x 0), [.mref (.x 0 0), .slice (U := U) .tree wg (.own (.x 0 1)), .slice (U := U) .tree mx0_2 (.own (.x 0 2))])], [(.x 0 0, LC.mk (U := U) .op wo 0)]⟩ : LSt U)
abbrev W1106 (wo : List Op) (wg : List Tree) (wb : List Tree) (l : List Tree) (Q : AExit → LSt U → Prop) := awp cfg (know know1106) (drawOk cfg (know know1106)) Try.f106.ntmps lv1106 (cd Try.f106 []) (⟨[(0, .ptr (.x 0) 2), (1, .c (.slice (U := U) .tree l .unk))], [((.x 0), [.mref (.x 0 0), .slice (U := U) .tree wg (.own (.x 0 1)), .slice (U := U) .tree wb (.own (.x 0 2))])], [(.x 0 0, LC.mk (U := U) .op wo 0)]⟩ : LSt U) Q
theorem vc1106 (wo : List Op) (wg : List Tree) (wb : List Tree) (l : List Tree) (Q : AExit → LSt U → Prop) (h : LoopWp (awp cfg (know know1106) (drawOk cfg (know know1106)) Try.f106.ntmps lv1106 (cd Try.f106 [1, 0, 0])) (head1106_0 wo wg wb l 0 wb) (AExit.inBlock 0 Q)) :
    W1106 wo wg wb l Q := by
  have e_ : (W1106 wo wg wb l Q) = (type_of% h) := by kernel_rfl
  exact e_.mpr h
abbrev W1106_l0 (wo : List Op) (wg : List Tree) (wb : List Tree) (l : List Tree) (x8 : Int) (mx0_2 : List Tree) (N0 : LSt U → Prop) (Q : AExit → LSt U → Prop) := awp cfg (know know1106) (drawOk cfg (know know1106)) Try.f106.ntmps lv1106 (cd Try.f106 [1, 0, 0]) (head1106_0 wo wg wb l x8 mx0_2) (AExit.then N0 (AExit.inBlock 0 Q))
theorem vc1106_l0 (wo : List Op) (wg : List Tree) (wb : List Tree) (l : List Tree) (x8 : Int) (mx0_2 : List Tree) (N0 : LSt U → Prop) (Q : AExit → LSt U → Prop) (h : ((decide ((x8 : Int) < (l.length : Int))) = true → ((0 : Int) ≤ x8 ∧ x8 < (l.length : Int)) ∧ ((pre32 ((Tree.mk (Tree.kind (List.getD l (Int.toNat x8) Tree.nil)) (Tree.words (List.getD l (Int.toNat x8) Tree.nil)) (Tree.kids (List.getD l (Int.toNat x8) Tree.nil))), ())) ∧ ((mx0_2.length + ([(Tree.mk 0 ([]) ([]))]).length) * 56 ≤ 140737488355328) ∧ ((0 : Int) ≤ (mx0_2.length : Int) ∧ (mx0_2.length : Int) < ((mx0_2 ++ ([(Tree.mk 0 ([]) ([]))])).length : Int)) ∧ (mx0_2.length ≤ (Int.toNat (mx0_2.length : Int))) ∧ ((InR ((x8 : Int) + 1)) ∧ (N0 (head1106_0 wo wg wb l ((x8 : Int) + 1) (List.set (mx0_2 ++ ([(Tree.mk 0 ([]) ([]))])) (Int.toNat (mx0_2.length : Int)) (Tree.mk (Tree.kind (normT (Tree.mk (Tree.kind (List.getD l (Int.toNat x8) Tree.nil)) (Tree.words (List.getD l (Int.toNat x8) Tree.nil)) (Tree.kids (List.getD l (Int.toNat x8) Tree.nil))))) (Tree.words (normT (Tree.mk (Tree.kind (List.getD l (Int.toNat x8) Tree.nil)) (Tree.words (List.getD l (Int.toNat x8) Tree.nil)) (Tree.kids (List.getD l (Int.toNat x8) Tree.nil))))) (Tree.kids (normT (Tree.mk (Tree.kind (List.getD l (Int.toNat x8) Tree.nil)) (Tree.words (List.getD l (Int.toNat x8) Tree.nil)) (Tree.kids (List.getD l (Int.toNat x8) Tree.nil)))))))))))) ∧ ((decide ((x8 : Int) < (l.length : Int))) = false → Q .normal (⟨[(0, .ptr (.x 0) 2), (6, .c (.slice (U := U) .tree l .unk)), (7, .c (.int .i64 (l.length : Int))), (8, .c (.int .i64 x8)), (9, .c (.bool (decide ((x8 : Int) < (l.length : Int)))))], [((.x 0), [.mref (.x 0 0), .slice (U := U) .tree wg (.own (.x 0 1)), .slice (U := U) .tree mx0_2 (.own (.x 0 2))])], [(.x 0 0, LC.mk (U := U) .op wo 0)]⟩ : LSt U))) :
    W1106_l0 wo wg wb l x8 mx0_2 N0 Q := by
  have e_ : (W1106_l0 wo wg wb l x8 mx0_2 N0 Q) = (type_of% h) := by kernel_rfl
  exact e_.mpr ⟨fun c_6 => ⟨(h.1 c_6).1, ⟨(h.1 c_6).2.1, (h.1 c_6).2.2.1, (h.1 c_6).2.2.2.1, (h.1 c_6).2.2.2.2.1, ⟨(h.1 c_6).2.2.2.2.2.1, (h.1 c_6).2.2.2.2.2.2⟩⟩⟩, fun c_6 => (h.2 c_6)⟩
def Body1106 (wo : List Op) (wg : List Tree) (wb : List Tree) (l : List Tree)  : Prop := awp cfg (know (know1106)) (drawOk cfg (know (know1106))) Try.f106.ntmps lv1106 (cd Try.f106 []) (entryL (args1106.can ((wo, wg, wb, ()), l, ())) (args1106.canX ((wo, wg, wb, ()), l, ())) (args1106.canL ((wo, wg, wb, ()), l, ()))) (EndsQL cfg Try.f106.ntmps Try.f106.results.toList (res1106 ((wo, wg, wb, ()), l, ())) (resX1106 ((wo, wg, wb, ()), l, ())) (resL1106 ((wo, wg, wb, ()), l, ())))
theorem make1106 (c32 : Contract Try.prog cfg 32 spec32) (hb : ∀ (wo : List Op) (wg : List Tree) (wb : List Tree) (l : List Tree) (_ : Unit), pre1106 ((wo, wg, wb, ()), l, ()) → Body1106 wo wg wb l) : Contract Try.prog cfg 106 spec1106 :=
  contractXL_flat (l := [(32, spec32)]) cfgOk rfl (⟨c32, trivial⟩) lv1106 Try.func106 rfl rfl 2 (fun _ => rfl) (by decide) (fun ⟨⟨wo, wg, wb, _⟩, l, _⟩ => hb wo wg wb l ())
noncomputable def know1042 : List (FuncId × Fs U) := []
def lv1042 : Lives U := fun i => match i with
  | 0 => ([(0, []), (3, [])], [((.loc 3), [])])
  | 1 => ([(4, [])], [])
  | _ => ([], [])
abbrev W1042 (list : Int) (e : Edit) (Q : AExit → LSt U → Prop) := awp cfg (know know1042) (drawOk cfg (know know1042)) Try.f42.ntmps lv1042 (cd Try.f42 []) (⟨[(0, .c (.int .i64 list)), (1, .agg [.int .i64 (Edit.kind e), .int .i64 (Tree.kind (Edit.old e)), .slice (U := U) .u64 (Tree.words (Edit.old e)) .unk, .slice (U := U) .tree (Tree.kids (Edit.old e)) .unk, .int .i64 (Tree.kind (Edit.new e)), .slice (U := U) .u64 (Tree.words (Edit.new e)) .unk, .slice (U := U) .tree (Tree.kids (Edit.new e)) .unk, .slice (U := U) .wedit (Edit.words e) .unk, .slice (U := U) .kid (Edit.kids e) .unk, .int .i64 (Edit.list e), .slice (U := U) .op (Edit.ops e) .unk])], [], []⟩ : LSt U) Q
theorem vc1042 (list : Int) (e : Edit) (Q : AExit → LSt U → Prop) (h : (((!(((Edit.kind e) : Int) == 0)) && (bif ((list : Int) == 9) then (((Edit.kind e) : Int) == 2) else false)) = true → InR ((((Edit.words e).length : Int) : Int) + ((Edit.kids e).length : Int))) ∧ (Q .ret (⟨[(4, .c (.bool (bif (((Edit.kind e) : Int) == 0) then true else (bif (bif ((list : Int) == 9) then (((Edit.kind e) : Int) == 2) else false) then ((((((Edit.words e).length : Int) : Int) + ((Edit.kids e).length : Int)) : Int) == 0) else false))))], [], []⟩ : LSt U))) :
    W1042 list e Q := by
  have e_ : (W1042 list e Q) = (let zz1 := (!((Edit.kind e) == 0)); let zz0 := (bif ((list : Int) == 9) then ((Edit.kind e) == 2) else false); ((TrG22c (zz1 = true)) ∧ (TrG22c (zz1 = true)) ∧ (TrG22c ((zz1 && ((list : Int) == 9)) = true)) ∧ (TrG22c ((zz1 && ((list : Int) == 9)) = true)) ∧ (zz1 = true → (True → zz1 = true)) ∧ (zz1 = true → (((list : Int) == 9) = true → (zz1 && ((list : Int) == 9)) = true)) ∧ (TrG22c (zz1 = true)) ∧ (TrG22c ((zz1 && zz0) = true)) ∧ (TrG22c ((zz1 && zz0) = true)) ∧ (TrG22c ((zz1 && zz0) = true)) ∧ (TrG22c ((zz1 && zz0) = true)) ∧ (TrG22c ((zz1 && zz0) = true)) ∧ (TrG22c ((zz1 && zz0) = true)) ∧ ((zz1 && zz0) = true → InR (((Edit.words e).length : Int) + ((Edit.kids e).length : Int))) ∧ (TrG22c ((zz1 && zz0) = true)) ∧ (zz1 = true → (True → zz1 = true)) ∧ (zz1 = true → (zz0 = true → (zz1 && zz0) = true)) ∧ ((((Edit.kind e) == 0) = false → zz1 = true)) ∧ (Q .ret (⟨[(4, .c (.bool (bif ((Edit.kind e) == 0) then true else (bif zz0 then (((((Edit.words e).length : Int) + ((Edit.kids e).length : Int)) : Int) == 0) else false))))], [], []⟩ : LSt U)))) := by kernel_rfl
  exact e_.mpr ⟨id, id, id, id, (by generalize (((Edit.kind e) : Int) == 0) = b0; revert b0; decide), (by generalize (((Edit.kind e) : Int) == 0) = b0; generalize ((list : Int) == 9) = b1; revert b0 b1; decide), id, id, id, id, id, id, id, h.1, id, (by generalize (((Edit.kind e) : Int) == 0) = b0; revert b0; decide), (by generalize (((Edit.kind e) : Int) == 2) = b0; generalize (((Edit.kind e) : Int) == 0) = b1; generalize ((list : Int) == 9) = b2; revert b0 b1 b2; decide), (by generalize (((Edit.kind e) : Int) == 0) = b0; revert b0; decide), h.2⟩
def Body1042 (list : Int) (e : Edit)  : Prop := awp cfg (know (know1042)) (drawOk cfg (know (know1042))) Try.f42.ntmps lv1042 (cd Try.f42 []) (entry (args1042.can (list, e, ())) []) (EndsQ cfg Try.f42.ntmps Try.f42.results.toList (res1042 (list, e, ())) [])
theorem make1042 (hb : ∀ (list : Int) (e : Edit) (_ : Unit), pre1042 (list, e, ()) → Body1042 list e) : Contract Try.prog cfg 42 spec1042 :=
  contract_flat (l := []) cfgOk rfl (trivial) lv1042 Try.func42 rfl rfl 2 (fun _ => rfl) (by decide) (fun ⟨list, e, _⟩ => hb list e ())
noncomputable def know1109 : List (FuncId × Fs U) := []
def lv1109 : Lives U := fun i => match i with
  | 0 => ([(0, []), (3, [])], [((.loc 3), [])])
  | 1 => ([(4, [])], [])
  | _ => ([], [])
abbrev W1109 (list : Int) (e : Edit) (Q : AExit → LSt U → Prop) := awp cfg (know know1109) (drawOk cfg (know know1109)) Try.f109.ntmps lv1109 (cd Try.f109 []) (⟨[(0, .c (.int .i64 list)), (1, .agg [.int .i64 (Edit.kind e), .int .i64 (Tree.kind (Edit.old e)), .slice (U := U) .u64 (Tree.words (Edit.old e)) .unk, .slice (U := U) .tree (Tree.kids (Edit.old e)) .unk, .int .i64 (Tree.kind (Edit.new e)), .slice (U := U) .u64 (Tree.words (Edit.new e)) .unk, .slice (U := U) .tree (Tree.kids (Edit.new e)) .unk, .slice (U := U) .wedit (Edit.words e) .unk, .slice (U := U) .kid (Edit.kids e) .unk, .int .i64 (Edit.list e), .slice (U := U) .op (Edit.ops e) .unk])], [], []⟩ : LSt U) Q
theorem vc1109 (list : Int) (e : Edit) (Q : AExit → LSt U → Prop) (h : Q .ret (⟨[(4, .c (.bool (bif (((Edit.kind e) : Int) == 0) then true else (bif (bif (bif (((Edit.kind e) : Int) == 2) then ((list : Int) == 9) else false) then ((((Edit.words e).length : Int) : Int) == 0) else false) then ((((Edit.kids e).length : Int) : Int) == 0) else false))))], [], []⟩ : LSt U)) :
    W1109 list e Q := by
  have e_ : (W1109 list e Q) = (let zz2 := (bif ((Edit.kind e) == 2) then ((list : Int) == 9) else false); let zz1 := (!((Edit.kind e) == 0)); let zz0 := (bif zz2 then (((Edit.words e).length : Int) == 0) else false); ((TrG22c (zz1 = true)) ∧ (TrG22c (zz1 = true)) ∧ (TrG22c (zz1 = true)) ∧ (TrG22c ((zz1 && ((Edit.kind e) == 2)) = true)) ∧ (zz1 = true → (True → zz1 = true)) ∧ (zz1 = true → (((Edit.kind e) == 2) = true → (zz1 && ((Edit.kind e) == 2)) = true)) ∧ (TrG22c (zz1 = true)) ∧ (TrG22c ((zz1 && zz2) = true)) ∧ (TrG22c ((zz1 && zz2) = true)) ∧ (TrG22c ((zz1 && zz2) = true)) ∧ (zz1 = true → (True → zz1 = true)) ∧ (zz1 = true → (zz2 = true → (zz1 && zz2) = true)) ∧ (TrG22c (zz1 = true)) ∧ (TrG22c ((zz1 && zz0) = true)) ∧ (TrG22c ((zz1 && zz0) = true)) ∧ (TrG22c ((zz1 && zz0) = true)) ∧ (zz1 = true → (True → zz1 = true)) ∧ (zz1 = true → (zz0 = true → (zz1 && zz0) = true)) ∧ ((((Edit.kind e) == 0) = false → zz1 = true)) ∧ (Q .ret (⟨[(4, .c (.bool (bif ((Edit.kind e) == 0) then true else (bif zz0 then (((Edit.kids e).length : Int) == 0) else false))))], [], []⟩ : LSt U)))) := by kernel_rfl
  exact e_.mpr ⟨id, id, id, id, (by generalize (((Edit.kind e) : Int) == 0) = b0; revert b0; decide), (by generalize (((Edit.kind e) : Int) == 2) = b0; generalize (((Edit.kind e) : Int) == 0) = b1; revert b0 b1; decide), id, id, id, id, (by generalize (((Edit.kind e) : Int) == 0) = b0; revert b0; decide), (by generalize (((Edit.kind e) : Int) == 2) = b0; generalize (((Edit.kind e) : Int) == 0) = b1; generalize ((list : Int) == 9) = b2; revert b0 b1 b2; decide), id, id, id, id, (by generalize (((Edit.kind e) : Int) == 0) = b0; revert b0; decide), (by generalize ((((Edit.words e).length : Int) : Int) == 0) = b0; generalize (((Edit.kind e) : Int) == 2) = b1; generalize (((Edit.kind e) : Int) == 0) = b2; generalize ((list : Int) == 9) = b3; revert b0 b1 b2 b3; decide), (by generalize (((Edit.kind e) : Int) == 0) = b0; revert b0; decide), h⟩
def Body1109 (list : Int) (e : Edit)  : Prop := awp cfg (know (know1109)) (drawOk cfg (know (know1109))) Try.f109.ntmps lv1109 (cd Try.f109 []) (entry (args1109.can (list, e, ())) []) (EndsQ cfg Try.f109.ntmps Try.f109.results.toList (res1109 (list, e, ())) [])
theorem make1109 (hb : ∀ (list : Int) (e : Edit) (_ : Unit), pre1109 (list, e, ()) → Body1109 list e) : Contract Try.prog cfg 109 spec1109 :=
  contract_flat (l := []) cfgOk rfl (trivial) lv1109 Try.func109 rfl rfl 2 (fun _ => rfl) (by decide) (fun ⟨list, e, _⟩ => hb list e ())
end Go.AM.Ytlahjnelghpmeaa

namespace Go.AM.Ytlahjnelghpmeaa
open Go.AM Go.Proofs
theorem set_last {α : Type} (l : List α) (z x : α) : (l ++ [z]).set (Int.toNat (l.length : Int)) x = l ++ [x] := by
  rw [Int.toNat_natCast, List.set_append_right _ _ (Nat.le_refl _)]
  simp
theorem keepO_at : ∀ (F : List Op) (n : Int), keepO F n = if F.length ≠ 0 ∧ (F.getD (F.length - 1) Op.nil).kind = 0 then F.set (F.length - 1) ⟨(F.getD (F.length - 1) Op.nil).kind, (F.getD (F.length - 1) Op.nil).n + n, (F.getD (F.length - 1) Op.nil).l, (F.getD (F.length - 1) Op.nil).e⟩ else F ++ [⟨0, n, [], Edit.nil⟩]
  | [], n => by simp [keepO]
  | [o], n => by simp [keepO]
  | o :: p :: r, n => by
    have ih := keepO_at (p :: r) n
    have e : (o :: p :: r).length - 1 = ((p :: r).length - 1) + 1 := by simp
    rw [keepO, ih, e]
    simp only [List.getD_cons_succ, List.set_cons_succ]
    by_cases h : (p :: r).length ≠ 0 ∧ ((p :: r).getD ((p :: r).length - 1) Op.nil).kind = 0
    · rw [if_pos h, if_pos ⟨by simp, h.2⟩]
    · have h' : ¬ ((p :: r).getD ((p :: r).length - 1) Op.nil).kind = 0 := fun e => h ⟨by simp, e⟩
      rw [if_neg h, if_neg (fun e => h' e.2)]
      rfl
theorem flush_len (s : Wst) : (flushW s).out.length ≤ s.out.length + 2 := by
  simp only [flushW, flushO]
  split <;> split <;> simp
theorem flush_mem (s : Wst) : ∀ o ∈ (flushW s).out, o ∈ s.out ∨ o.n = 0 := by
  intro o ho
  simp only [flushW, flushO, List.mem_append] at ho
  rcases ho with h | h | h
  · exact .inl h
  · split at h
    · cases h
    · simp only [List.mem_singleton] at h; subst h; exact .inr rfl
  · split at h
    · cases h
    · simp only [List.mem_singleton] at h; subst h; exact .inr rfl
theorem c107 : Contract Try.prog cfg 107 spec107 := by
  refine make107 ?_
  intro wo wg wb _ hp
  simp only [pre107] at hp
  refine vc107 wo wg wb _ ?_
  rintro y1 hy1 y2 hy2
  have hy : y1 = Edit.nil := hy1
  subst hy
  rw [set_last] at hy2
  subst hy2
  (simp only [vcS])
  refine ⟨fun h1 => ⟨by simp; omega, by simp; omega, by omega, fun h2 => ⟨by simp; omega, by simp; omega, by omega, ?_⟩, fun h2 => ?_⟩, fun h1 => ⟨fun h2 => ⟨by simp; omega, by simp; omega, by omega, ?_⟩, fun h2 => ?_⟩⟩
  · rw [set_last]
    have e : flushW ⟨wo, wg, wb⟩ = ⟨wo ++ [⟨1, 0, wg, Edit.nil⟩] ++ [⟨2, 0, wb, Edit.nil⟩], [], []⟩ := by
      simp only [flushW, flushO]; rw [if_neg (by omega), if_neg (by omega)]; simp
    simp only [res107, resX107, resL107, e]
    (repeat' (first | exact trivial | exact rfl | apply And.intro))
  · have e : flushW ⟨wo, wg, wb⟩ = ⟨wo ++ [⟨1, 0, wg, Edit.nil⟩], [], []⟩ := by
      simp only [flushW, flushO]; rw [if_neg (by omega), if_pos (by omega)]; simp
    simp only [res107, resX107, resL107, e]
    (repeat' (first | exact trivial | exact rfl | apply And.intro))
  · rw [set_last]
    have e : flushW ⟨wo, wg, wb⟩ = ⟨wo ++ [⟨2, 0, wb, Edit.nil⟩], [], []⟩ := by
      simp only [flushW, flushO]; rw [if_pos (by omega), if_neg (by omega)]; simp
    simp only [res107, resX107, resL107, e]
    (repeat' (first | exact trivial | exact rfl | apply And.intro))
  · have e : flushW ⟨wo, wg, wb⟩ = ⟨wo, [], []⟩ := by
      simp only [flushW, flushO]; rw [if_pos (by omega), if_pos (by omega)]; simp
    simp only [res107, resX107, resL107, e]
    (repeat' (first | exact trivial | exact rfl | apply And.intro))
theorem c105 : Contract Try.prog cfg 105 spec105 := by
  refine make105 c107 ?_
  intro wo wg wb n _ hp
  simp only [pre105] at hp
  obtain ⟨p1, p2, p3, p4, p5, p6⟩ := hp
  have hfl := flush_len ⟨wo, wg, wb⟩
  have hfm := flush_mem ⟨wo, wg, wb⟩
  have hg : (flushW ⟨wo, wg, wb⟩).gone = [] := rfl
  have hb : (flushW ⟨wo, wg, wb⟩).brought = [] := rfl
  have hk := keepO_at (flushW ⟨wo, wg, wb⟩).out n
  have hkw : keepW ⟨wo, wg, wb⟩ n = ⟨keepO (flushW ⟨wo, wg, wb⟩).out n, [], []⟩ := rfl
  refine vc105 wo wg wb n _ ?_
  simp only [hg, hb, res105, resX105, resL105, hkw]
  generalize (flushW ⟨wo, wg, wb⟩).out = F at *
  simp only at hfl hfm
  rintro y1 hy1 y2 hy2 y3 hy3 y4 hy4
  have hy : y1 = Edit.nil := hy1
  subst hy
  have e2 : y2 = F.length - 1 := by omega
  subst e2
  rw [← hy3, ← hy4] at hk
  (simp only [vcS])
  refine ⟨by simp only [pre107]; exact ⟨p1, p2, p3⟩, by unfold InR; omega, fun h => ⟨h, by omega⟩, fun h => ?_, fun h => ?_⟩
  · have hy3n : 0 ≤ y3.n ∧ y3.n ≤ 100000000000000 := by
      have hm : y3 ∈ F := by rw [hy3]; exact mem_getD (by omega) _
      rcases hfm y3 hm with h1 | h1
      · exact p4 y3 h1
      · omega
    rw [if_pos ⟨by omega, h.2⟩] at hk
    rw [hk]
    refine ⟨by omega, by unfold InR; omega, by omega, by omega, ?_⟩
    (repeat' (first | exact trivial | exact rfl | apply And.intro))
  · rw [if_neg (by omega)] at hk
    rw [hk, set_last]
    refine ⟨by simp; omega, by simp; omega, by omega, ?_⟩
    (repeat' (first | exact trivial | exact rfl | apply And.intro))
theorem c106 : Contract Try.prog cfg 106 spec106 := by
  refine make106 c32 ?_
  intro wo wg wb l _ hp
  simp only [pre106] at hp
  obtain ⟨p1, p2, p3, p4⟩ := hp
  have hl := massK_len l
  refine vc106 _ _ _ _ _ ?_
  refine loop_rule (ι := Int × List Tree) (fun s => head106_0 wo wg wb l s.1 s.2) (fun s => 0 ≤ s.1 ∧ s.1 ≤ l.length ∧ s.2.length = wg.length + s.1 ∧ s.2 ++ normsT (l.drop s.1.toNat) = wg ++ normsT l) (fun s => ((l.length : Int) - s.1).toNat) (0, wg) rfl ⟨by simp, by simp, by simp, by simp⟩ ?_
  rintro ⟨i, out⟩ ⟨h1, h2, h3, h4⟩
  dsimp only at h1 h2 h3 h4
  refine vc106_l0 _ _ _ _ _ _ _ _ ?_
  (simp only [vcS])
  (simp only [Tree.eta, Edit.eta, Tree.kind_mk, Tree.words_mk, Tree.kids_mk])
  refine ⟨fun hi => ?_, fun hi => ?_⟩
  · have hm := massK_mem (mem_getD (l := l) (i := i.toNat) (by omega) Tree.nil)
    rw [dropI h1 hi Tree.nil] at h4
    simp only [normsT, List.map_cons] at h4
    rw [set_last]
    refine ⟨⟨h1, hi⟩, by simp only [pre32]; omega, by simp; omega, by simp; omega, by omega, by unfold InR; omega, (i + 1, out ++ [normT (l.getD i.toNat Tree.nil)]), rfl, ⟨by dsimp only; omega, by dsimp only; omega, by simp; omega, ?_⟩, by dsimp only; omega⟩
    simp only [List.append_assoc, List.cons_append, List.nil_append]
    exact h4
  · rw [List.drop_of_length_le (by omega)] at h4
    simp only [normsT, List.map_nil, List.append_nil] at h4
    rw [h4]
    (repeat' (first | exact trivial | exact rfl | apply And.intro))
theorem c1106 : Contract Try.prog cfg 106 spec1106 := by
  refine make1106 c32 ?_
  intro wo wg wb l _ hp
  simp only [pre1106] at hp
  obtain ⟨p1, p2, p3, p4⟩ := hp
  have hl := massK_len l
  refine vc1106 _ _ _ _ _ ?_
  refine loop_rule (ι := Int × List Tree) (fun s => head1106_0 wo wg wb l s.1 s.2) (fun s => 0 ≤ s.1 ∧ s.1 ≤ l.length ∧ s.2.length = wb.length + s.1 ∧ s.2 ++ normsT (l.drop s.1.toNat) = wb ++ normsT l) (fun s => ((l.length : Int) - s.1).toNat) (0, wb) rfl ⟨by simp, by simp, by simp, by simp⟩ ?_
  rintro ⟨i, out⟩ ⟨h1, h2, h3, h4⟩
  dsimp only at h1 h2 h3 h4
  refine vc1106_l0 _ _ _ _ _ _ _ _ ?_
  (simp only [vcS])
  (simp only [Tree.eta, Edit.eta, Tree.kind_mk, Tree.words_mk, Tree.kids_mk])
  refine ⟨fun hi => ?_, fun hi => ?_⟩
  · have hm := massK_mem (mem_getD (l := l) (i := i.toNat) (by omega) Tree.nil)
    rw [dropI h1 hi Tree.nil] at h4
    simp only [normsT, List.map_cons] at h4
    rw [set_last]
    refine ⟨⟨h1, hi⟩, by simp only [pre32]; omega, by simp; omega, by simp; omega, by omega, by unfold InR; omega, (i + 1, out ++ [normT (l.getD i.toNat Tree.nil)]), rfl, ⟨by dsimp only; omega, by dsimp only; omega, by simp; omega, ?_⟩, by dsimp only; omega⟩
    simp only [List.append_assoc, List.cons_append, List.nil_append]
    exact h4
  · rw [List.drop_of_length_le (by omega)] at h4
    simp only [normsT, List.map_nil, List.append_nil] at h4
    rw [h4]
    (repeat' (first | exact trivial | exact rfl | apply And.intro))
theorem c1042 : Contract Try.prog cfg 42 spec1042 := by
  refine make1042 ?_
  intro list e _ hp
  simp only [pre1042] at hp
  refine vc1042 _ _ _ ?_
  refine ⟨fun _ => by unfold InR; dsimp only; omega, ends_bool rfl ?_⟩
  rw [Bool.eq_iff_iff]
  simp only [idleE]
  (simp only [vcS])
  omega
theorem c1109 : Contract Try.prog cfg 109 spec1109 := by
  refine make1109 ?_
  intro list e _ hp
  refine vc1109 _ _ _ ?_
  refine ends_bool rfl ?_
  rw [Bool.eq_iff_iff]
  simp only [idleE]
  (simp only [vcS])
  omega
noncomputable def spec2106 : Fs U := fsOr spec106 spec1106
theorem c2106 : Contract Try.prog cfg 106 spec2106 := contract_or c106 c1106
end Go.AM.Ytlahjnelghpmeaa

namespace Go.AM.Ytlahjnelghpmeaa
open Go.AM Go.Proofs
noncomputable section
def args40 : ArgL (Edit × Unit) := (.cons (aEl .edit) .nil)
def pre40 (a : Edit × Unit) : Prop := massE a.1 ≤ 1000000 ∧ ∃ d, rightE a.1 d = true
def mu40 (a : Edit × Unit) : Nat := 2 * massE a.1
noncomputable def res40 (a : Edit × Unit) : V U := .agg [.int .i64 (Edit.kind (nrmE a.1)), .int .i64 (Tree.kind (Edit.old (nrmE a.1))), .slice (U := U) .u64 (Tree.words (Edit.old (nrmE a.1))) .unk, .slice (U := U) .tree (Tree.kids (Edit.old (nrmE a.1))) .unk, .int .i64 (Tree.kind (Edit.new (nrmE a.1))), .slice (U := U) .u64 (Tree.words (Edit.new (nrmE a.1))) .unk, .slice (U := U) .tree (Tree.kids (Edit.new (nrmE a.1))) .unk, .slice (U := U) .wedit (Edit.words (nrmE a.1)) .unk, .slice (U := U) .kid (Edit.kids (nrmE a.1)) .unk, .int .i64 (Edit.list (nrmE a.1)), .slice (U := U) .op (Edit.ops (nrmE a.1)) .unk]
noncomputable def spec40 : Fs U := fs args40 (fun a => [pre40 a]) res40
def args76 : ArgL (Int × List Op × Unit) := (.cons (aInt .i64) (.cons (aSl .op) .nil))
def pre76 (a : Int × List Op × Unit) : Prop := massOs a.2.1 ≤ 1000000 ∧ ∀ o ∈ a.2.1, ∃ d, rightOp a.1 o d = true
def mu76 (a : Int × List Op × Unit) : Nat := 2 * massOs a.2.1 + 1
noncomputable def res76 (a : Int × List Op × Unit) : V U := .c (.slice (U := U) .op ((flushW (nrmOs a.1 a.2.1 (Wst.mk [] [] []))).out) .unk)
noncomputable def spec76 : Fs U := fs args76 (fun a => [pre76 a]) res76
noncomputable def know40 (N : Nat) : List (FuncId × Fs U) := (40, fs args40 (fun a => [pre40 a, mu40 a < N]) res40) :: (76, fs args76 (fun a => [pre76 a, mu76 a < N]) res76) :: [(32, spec32), (42, spec1042), (105, spec105), (107, spec107), (106, spec2106)]
def lv40 : Lives U := fun i => match i with
  | 0 => ([(1, []), (2, [])], [((.loc 1), []), ((.loc 2), [])])
  | 1 => ([(1, []), (2, []), (3, [])], [((.loc 1), []), ((.loc 2), []), ((.loc 3), [])])
  | 2 => ([(1, []), (2, []), (3, []), (12, [])], [((.loc 1), []), ((.loc 2), []), ((.loc 3), [])])
  | 3 => ([(1, []), (2, []), (3, []), (12, []), (13, [])], [((.loc 1), []), ((.loc 2), []), ((.loc 3), [])])
  | 4 => ([(2, []), (3, [])], [((.loc 2), []), ((.loc 3), [])])
  | 5 => ([(1, []), (2, []), (3, []), (12, []), (23, [])], [((.loc 1), []), ((.loc 2), []), ((.loc 3), [])])
  | 6 => ([(1, []), (2, []), (3, [])], [((.loc 1), []), ((.loc 2), []), ((.loc 3), [])])
  | 7 => ([(2, []), (3, []), (32, []), (33, []), (34, [])], [((.loc 2), []), ((.loc 3), [.any, .any, .any, .any, .any, .any, .any, .any, .own .kid])])
  | 8 => ([(2, []), (3, []), (32, []), (33, []), (34, []), (35, [])], [((.loc 2), []), ((.loc 3), [])])
  | 9 => ([(2, []), (3, []), (5, []), (32, []), (33, []), (34, [])], [((.loc 2), []), ((.loc 3), []), ((.loc 5), [])])
  | 10 => ([(2, []), (3, []), (32, []), (33, []), (34, [])], [((.loc 2), []), ((.loc 3), [])])
  | 11 => ([(2, []), (3, []), (32, []), (33, []), (34, [])], [((.loc 2), []), ((.loc 3), [.any, .any, .any, .any, .any, .any, .any, .any, .own .kid])])
  | 12 => ([(1, []), (2, []), (3, []), (50, [])], [((.loc 1), []), ((.loc 2), []), ((.loc 3), [])])
  | 13 => ([(2, []), (3, [])], [((.loc 2), []), ((.loc 3), [])])
  | 14 => ([(2, [])], [((.loc 2), [])])
  | _ => ([], [])
def head40_0 (e : Edit) (x34 : Int) (ml3_8 : List Kid) : LSt U := (⟨[(2, .ptr (.loc 2) 0), (3, .ptr (.loc 3) 0), (32, .c (.slice (U := U) .kid (Edit.kids e) .unk)), (33, .c (.int .i64 ((Edit.kids e).length : Int))), (34, .c (.int .i64 x34))], [((.loc 2), [.int .i64 0, .int .i64 0, .nils, .nils, .int .i64 0, .nils, .nils, .nils, .nils, .int .i64 0, .nils]), ((.loc 3), [.int .i64 (Edit.kind e), .int .i64 0, .nils, .nils, .int .i64 0, .nils, .nils, .slice (U := U) .wedit (([] : List WEdit) ++ (Edit.words e)) (.own (.l 3 7)), .slice (U := U) .kid ml3_8 (.own (.l 3 8)), .int .i64 (Edit.list e), .nils])], []⟩ : LSt U)
abbrev W40 (N : Nat) (e : Edit) (Q : AExit → LSt U → Prop) := awp cfg (know (know40 N)) (drawOk cfg (know (know40 N))) Try.f40.ntmps lv40 (cd Try.f40 []) (⟨[(0, .agg [.int .i64 (Edit.kind e), .int .i64 (Tree.kind (Edit.old e)), .slice (U := U) .u64 (Tree.words (Edit.old e)) .unk, .slice (U := U) .tree (Tree.kids (Edit.old e)) .unk, .int .i64 (Tree.kind (Edit.new e)), .slice (U := U) .u64 (Tree.words (Edit.new e)) .unk, .slice (U := U) .tree (Tree.kids (Edit.new e)) .unk, .slice (U := U) .wedit (Edit.words e) .unk, .slice (U := U) .kid (Edit.kids e) .unk, .int .i64 (Edit.list e), .slice (U := U) .op (Edit.ops e) .unk])], [], []⟩ : LSt U) Q
abbrev a40_G22d (N : Nat) := awp cfg (know (know40 N)) (drawOk cfg (know (know40 N))) Try.f40.ntmps lv40
abbrev s40_G22d (N : Nat) := seqK cfg (know (know40 N)) (drawOk cfg (know (know40 N))) Try.f40.ntmps lv40
theorem vc40 (N : Nat) (e : Edit) (Q : AExit → LSt U → Prop) (h : ((((Edit.kind e) : Int) == 1) = true → (pre32 ((Tree.mk (Tree.kind (Edit.old e)) (Tree.words (Edit.old e)) (Tree.kids (Edit.old e))), ())) ∧ (pre32 ((Tree.mk (Tree.kind (Edit.new e)) (Tree.words (Edit.new e)) (Tree.kids (Edit.new e))), ())) ∧ (Q .ret (⟨[(2, .ptr (.loc 2) 0)], [((.loc 2), [.int .i64 (Edit.kind e), .int .i64 (Tree.kind (normT (Tree.mk (Tree.kind (Edit.old e)) (Tree.words (Edit.old e)) (Tree.kids (Edit.old e))))), .slice (U := U) .u64 (Tree.words (normT (Tree.mk (Tree.kind (Edit.old e)) (Tree.words (Edit.old e)) (Tree.kids (Edit.old e))))) .unk, .slice (U := U) .tree (Tree.kids (normT (Tree.mk (Tree.kind (Edit.old e)) (Tree.words (Edit.old e)) (Tree.kids (Edit.old e))))) .unk, .int .i64 (Tree.kind (normT (Tree.mk (Tree.kind (Edit.new e)) (Tree.words (Edit.new e)) (Tree.kids (Edit.new e))))), .slice (U := U) .u64 (Tree.words (normT (Tree.mk (Tree.kind (Edit.new e)) (Tree.words (Edit.new e)) (Tree.kids (Edit.new e))))) .unk, .slice (U := U) .tree (Tree.kids (normT (Tree.mk (Tree.kind (Edit.new e)) (Tree.words (Edit.new e)) (Tree.kids (Edit.new e))))) .unk, .nils, .nils, .int .i64 (Edit.list e), .nils])], []⟩ : LSt U))) ∧ ((((Edit.kind e) : Int) == 1) = false → ((((Edit.kind e) : Int) == 2) = true → ((([] : List WEdit).length + (Edit.words e).length) * 32 ≤ 140737488355328) ∧ (LoopWp (awp cfg (know (know40 N)) (drawOk cfg (know (know40 N))) Try.f40.ntmps lv40 (cd Try.f40 [1, 1, 0, 1, 0, 1, 1, 1, 0, 1, 1, 0, 0])) (head40_0 e 0 ([])) (AExit.inBlock 1 (AExit.inBlock 0 (seqK cfg (know (know40 N)) (drawOk cfg (know (know40 N))) Try.f40.ntmps lv40 (cd Try.f40 [1, 1, 1]) Q))))) ∧ ((((Edit.kind e) : Int) == 2) = false → ((((Edit.kind e) : Int) == 3) = true → (pre76 ((Edit.list e), (Edit.ops e), ())) ∧ (mu76 ((Edit.list e), (Edit.ops e), ()) < N) ∧ (Q .ret (⟨[(2, .ptr (.loc 2) 0)], [((.loc 2), [.int .i64 (Edit.kind e), .int .i64 0, .nils, .nils, .int .i64 0, .nils, .nils, .nils, .nils, .int .i64 (Edit.list e), .slice (U := U) .op ((flushW (nrmOs (Edit.list e) (Edit.ops e) (Wst.mk [] [] []))).out) .unk])], []⟩ : LSt U))) ∧ ((((Edit.kind e) : Int) == 3) = false → Q .ret (⟨[(2, .ptr (.loc 2) 0)], [((.loc 2), [.int .i64 (Edit.kind e), .int .i64 0, .nils, .nils, .int .i64 0, .nils, .nils, .nils, .nils, .int .i64 (Edit.list e), .nils])], []⟩ : LSt U))))) :
    W40 N e Q := by
  have e_ : (W40 N e Q) = ((((((((Edit.kind e) == 1) = true → (pre32 ((Tree.mk (Tree.kind (Edit.old e)) (Tree.words (Edit.old e)) (Tree.kids (Edit.old e))), ())) ∧ (pre32 ((Tree.mk (Tree.kind (Edit.new e)) (Tree.words (Edit.new e)) (Tree.kids (Edit.new e))), ())) ∧ ((Q .ret (⟨[(2, .ptr (.loc 2) 0)], [((.loc 2), [.int .i64 (Edit.kind e), .int .i64 (Tree.kind (normT (Tree.mk (Tree.kind (Edit.old e)) (Tree.words (Edit.old e)) (Tree.kids (Edit.old e))))), .slice (U := U) .u64 (Tree.words (normT (Tree.mk (Tree.kind (Edit.old e)) (Tree.words (Edit.old e)) (Tree.kids (Edit.old e))))) .unk, .slice (U := U) .tree (Tree.kids (normT (Tree.mk (Tree.kind (Edit.old e)) (Tree.words (Edit.old e)) (Tree.kids (Edit.old e))))) .unk, .int .i64 (Tree.kind (normT (Tree.mk (Tree.kind (Edit.new e)) (Tree.words (Edit.new e)) (Tree.kids (Edit.new e))))), .slice (U := U) .u64 (Tree.words (normT (Tree.mk (Tree.kind (Edit.new e)) (Tree.words (Edit.new e)) (Tree.kids (Edit.new e))))) .unk, .slice (U := U) .tree (Tree.kids (normT (Tree.mk (Tree.kind (Edit.new e)) (Tree.words (Edit.new e)) (Tree.kids (Edit.new e))))) .unk, .nils, .nils, .int .i64 (Edit.list e), .nils])], []⟩ : LSt U)))) ∧ (((Edit.kind e) == 1) = false → ((((Edit.kind e) == 2) = true → ((([] : List WEdit).length + (Edit.words e).length) * 32 ≤ 140737488355328) ∧ ((LoopWp (a40_G22d N (cd Try.f40 [1, 1, 0, 1, 0, 1, 1, 1, 0, 1, 1, 0, 0])) (head40_0 e 0 ([])) (AExit.inBlock 1 (AExit.inBlock 0 (s40_G22d N (cd Try.f40 [1, 1, 1]) Q)))))) ∧ (((Edit.kind e) == 2) = false → ((((Edit.kind e) == 3) = true → (pre76 ((Edit.list e), (Edit.ops e), ())) ∧ (mu76 ((Edit.list e), (Edit.ops e), ()) < N) ∧ ((Q .ret (⟨[(2, .ptr (.loc 2) 0)], [((.loc 2), [.int .i64 (Edit.kind e), .int .i64 0, .nils, .nils, .int .i64 0, .nils, .nils, .nils, .nils, .int .i64 (Edit.list e), .slice (U := U) .op ((flushW (nrmOs (Edit.list e) (Edit.ops e) (Wst.mk [] [] []))).out) .unk])], []⟩ : LSt U)))) ∧ (((Edit.kind e) == 3) = false → (Q .ret (⟨[(2, .ptr (.loc 2) 0)], [((.loc 2), [.int .i64 (Edit.kind e), .int .i64 0, .nils, .nils, .int .i64 0, .nils, .nils, .nils, .nils, .int .i64 (Edit.list e), .nils])], []⟩ : LSt U)))))))))))) := by kernel_rfl
  exact e_.mpr ⟨fun c_1 => ⟨(h.1 c_1).1, (h.1 c_1).2.1, (h.1 c_1).2.2⟩, fun c_1 => ⟨fun c_2 => ⟨((h.2 c_1).1 c_2).1, ((h.2 c_1).1 c_2).2⟩, fun c_2 => ⟨fun c_3 => ⟨(((h.2 c_1).2 c_2).1 c_3).1, (((h.2 c_1).2 c_2).1 c_3).2.1, (((h.2 c_1).2 c_2).1 c_3).2.2⟩, fun c_3 => (((h.2 c_1).2 c_2).2 c_3)⟩⟩⟩
abbrev W40_l0 (N : Nat) (e : Edit) (x34 : Int) (ml3_8 : List Kid) (N0 : LSt U → Prop) (Q : AExit → LSt U → Prop) := awp cfg (know (know40 N)) (drawOk cfg (know (know40 N))) Try.f40.ntmps lv40 (cd Try.f40 [1, 1, 0, 1, 0, 1, 1, 1, 0, 1, 1, 0, 0]) (head40_0 e x34 ml3_8) (AExit.then N0 (AExit.inBlock 1 (AExit.inBlock 0 (seqK cfg (know (know40 N)) (drawOk cfg (know (know40 N))) Try.f40.ntmps lv40 (cd Try.f40 [1, 1, 1]) Q))))
theorem vc40_l0 (N : Nat) (e : Edit) (x34 : Int) (ml3_8 : List Kid) (N0 : LSt U → Prop) (Q : AExit → LSt U → Prop) (h : ∀ y_1, y_1 = (List.getD (Edit.kids e) (Int.toNat x34) (KidOf.mk 0 Edit.nil)) → ∀ y_2, y_2 = ((KidOf.e y_1)) → ∀ y_3, y_3 = ((nrmE y_2)) → ((decide ((x34 : Int) < ((Edit.kids e).length : Int))) = true → ((0 : Int) ≤ x34 ∧ x34 < ((Edit.kids e).length : Int)) ∧ ((pre40 (y_2, ())) ∧ (mu40 (y_2, ()) < N) ∧ ((ml3_8.length + ([(KidOf.mk (KidOf.at_ y_1) y_3 : Kid)]).length) * 208 ≤ 140737488355328) ∧ ((InR ((x34 : Int) + 1)) ∧ (N0 (head40_0 e ((x34 : Int) + 1) (ml3_8 ++ ([(KidOf.mk (KidOf.at_ y_1) y_3 : Kid)]))))))) ∧ ((decide ((x34 : Int) < ((Edit.kids e).length : Int))) = false → Q .ret (⟨[(2, .ptr (.loc 2) 0)], [((.loc 2), [.int .i64 (Edit.kind e), .int .i64 0, .nils, .nils, .int .i64 0, .nils, .nils, .slice (U := U) .wedit (([] : List WEdit) ++ (Edit.words e)) (.own (.l 2 7)), .slice (U := U) .kid ml3_8 (.own (.l 2 8)), .int .i64 (Edit.list e), .nils])], []⟩ : LSt U))) :
    W40_l0 N e x34 ml3_8 N0 Q := by
  have e_ : (W40_l0 N e x34 ml3_8 N0 Q) = (let y_1 := (List.getD (Edit.kids e) (Int.toNat x34) (KidOf.mk 0 Edit.nil)); let y_2 := (reEdit (KidOf.e y_1)); let y_3 := (reEdit (nrmE y_2)); (((decide ((x34 : Int) < ((Edit.kids e).length : Int))) = true → ((0 : Int) ≤ x34 ∧ x34 < ((Edit.kids e).length : Int)) ∧ ((pre40 (y_2, ())) ∧ (mu40 (y_2, ()) < N) ∧ ((ml3_8.length + ([(KidOf.mk (KidOf.at_ y_1) y_3 : Kid)]).length) * 208 ≤ 140737488355328) ∧ ((InR ((x34 : Int) + 1)) ∧ (N0 (head40_0 e ((x34 : Int) + 1) (ml3_8 ++ ([(KidOf.mk (KidOf.at_ y_1) y_3 : Kid)]))))))) ∧ ((decide ((x34 : Int) < ((Edit.kids e).length : Int))) = false → (Q .ret (⟨[(2, .ptr (.loc 2) 0)], [((.loc 2), [.int .i64 (Edit.kind e), .int .i64 0, .nils, .nils, .int .i64 0, .nils, .nils, .slice (U := U) .wedit (([] : List WEdit) ++ (Edit.words e)) (.own (.l 2 7)), .slice (U := U) .kid ml3_8 (.own (.l 2 8)), .int .i64 (Edit.list e), .nils])], []⟩ : LSt U))))) := by kernel_rfl
  exact e_.mpr (by intro y_1 y_2 y_3; have hh := h y_1 rfl y_2 (reEdit_eq _) y_3 (reEdit_eq _); exact ⟨fun c_4 => ⟨(hh.1 c_4).1, ⟨(hh.1 c_4).2.1, (hh.1 c_4).2.2.1, (hh.1 c_4).2.2.2.1, ⟨(hh.1 c_4).2.2.2.2.1, (hh.1 c_4).2.2.2.2.2⟩⟩⟩, fun c_4 => (hh.2 c_4)⟩)
def Body40 (N : Nat) (e : Edit)  : Prop := awp cfg (know (know40 N)) (drawOk cfg (know (know40 N))) Try.f40.ntmps lv40 (cd Try.f40 []) (entry (args40.can (e, ())) []) (EndsQ cfg Try.f40.ntmps Try.f40.results.toList (res40 (e, ())) [])
abbrev HB40 : Prop := ∀ (N : Nat) (e : Edit) (_ : Unit), pre40 (e, ()) → mu40 (e, ()) < N + 1 → Body40 N e
noncomputable def know76 (N : Nat) : List (FuncId × Fs U) := (40, fs args40 (fun a => [pre40 a, mu40 a < N]) res40) :: (76, fs args76 (fun a => [pre76 a, mu76 a < N]) res76) :: [(32, spec32), (42, spec1042), (105, spec105), (107, spec107), (106, spec2106)]
def lv76 : Lives U := fun i => match i with
  | 0 => ([(0, []), (1, [])], [])
  | 1 => ([(0, []), (1, []), (5, [])], [((.loc 10), [.wr .op])])
  | 2 => ([(0, []), (5, []), (11, []), (12, []), (13, [])], [((.loc 10), [.wr .op, .own .tree, .own .tree])])
  | 3 => ([(0, []), (5, []), (11, []), (12, []), (13, []), (14, [])], [((.loc 10), [.wr .op])])
  | 4 => ([(0, []), (5, []), (7, []), (11, []), (12, []), (13, [])], [((.loc 7), []), ((.loc 10), [.wr .op])])
  | 5 => ([(0, []), (5, []), (7, []), (11, []), (12, []), (13, []), (18, [])], [((.loc 7), []), ((.loc 10), [.wr .op])])
  | 6 => ([(0, []), (5, []), (7, []), (11, []), (12, []), (13, []), (18, []), (19, [])], [((.loc 7), []), ((.loc 10), [.wr .op])])
  | 7 => ([(0, []), (5, []), (11, []), (12, []), (13, [])], [((.loc 10), [.wr .op])])
  | 8 => ([(0, []), (5, []), (7, []), (11, []), (12, []), (13, []), (18, []), (25, [])], [((.loc 7), []), ((.loc 10), [.wr .op])])
  | 9 => ([(0, []), (5, []), (11, []), (12, []), (13, [])], [((.loc 10), [.wr .op])])
  | 10 => ([(0, []), (5, []), (7, []), (11, []), (12, []), (13, []), (18, []), (33, [])], [((.loc 7), []), ((.loc 10), [.wr .op])])
  | 11 => ([(0, []), (5, []), (11, []), (12, []), (13, [])], [((.loc 10), [.wr .op])])
  | 12 => ([(0, []), (5, []), (7, []), (11, []), (12, []), (13, []), (41, [])], [((.loc 7), []), ((.loc 10), [.wr .op])])
  | 13 => ([(0, []), (5, []), (8, []), (11, []), (12, []), (13, [])], [((.loc 8), []), ((.loc 10), [.wr .op])])
  | 14 => ([(0, []), (5, []), (8, []), (11, []), (12, []), (13, []), (48, [])], [((.loc 8), []), ((.loc 10), [.wr .op])])
  | 15 => ([(0, []), (5, []), (11, []), (12, []), (13, [])], [((.loc 10), [.wr .op])])
  | 16 => ([(0, []), (5, []), (8, []), (11, []), (12, []), (13, [])], [((.loc 8), []), ((.loc 10), [.wr .op])])
  | 17 => ([(0, []), (5, []), (11, []), (12, []), (13, [])], [((.loc 10), [.wr .op])])
  | 18 => ([(0, []), (5, []), (11, []), (12, []), (13, [])], [((.loc 10), [.wr .op, .own .tree, .own .tree])])
  | 19 => ([(5, [])], [((.loc 10), [.wr .op])])
  | 20 => ([(4, [])], [])
  | _ => ([], [])
def head76_0 (list : Int) (l : List Op) (x13 : Int) (rl_10_0 : List Op) (ml10_1 : List Tree) (ml10_2 : List Tree) : LSt U := (⟨[(0, .c (.int .i64 list)), (5, .ptr (.loc 10) 0), (11, .c (.slice (U := U) .op l .unk)), (12, .c (.int .i64 (l.length : Int))), (13, .c (.int .i64 x13))], [((.loc 10), [.mref (.l 10 0), .slice (U := U) .tree ml10_1 (.own (.l 10 1)), .slice (U := U) .tree ml10_2 (.own (.l 10 2))])], [(.l 10 0, LC.mk (U := U) .op rl_10_0 0)]⟩ : LSt U)
abbrev W76 (N : Nat) (list : Int) (l : List Op) (Q : AExit → LSt U → Prop) := awp cfg (know (know76 N)) (drawOk cfg (know (know76 N))) Try.f76.ntmps lv76 (cd Try.f76 []) (⟨[(0, .c (.int .i64 list)), (1, .c (.slice (U := U) .op l .unk))], [], []⟩ : LSt U) Q
abbrev a76_G22d (N : Nat) := awp cfg (know (know76 N)) (drawOk cfg (know (know76 N))) Try.f76.ntmps lv76
abbrev s76_G22d (N : Nat) := seqK cfg (know (know76 N)) (drawOk cfg (know (know76 N))) Try.f76.ntmps lv76
theorem vc76 (N : Nat) (list : Int) (l : List Op) (Q : AExit → LSt U → Prop) (h : LoopWp (awp cfg (know (know76 N)) (drawOk cfg (know (know76 N))) Try.f76.ntmps lv76 (cd Try.f76 [1, 1, 0, 1, 0, 0])) (head76_0 list l 0 ([]) ([]) ([])) (AExit.inBlock 0 (seqK cfg (know (know76 N)) (drawOk cfg (know (know76 N))) Try.f76.ntmps lv76 (cd Try.f76 [1, 1, 1]) Q))) :
    W76 N list l Q := by
  have e_ : (W76 N list l Q) = ((((LoopWp (a76_G22d N (cd Try.f76 [1, 1, 0, 1, 0, 0])) (head76_0 list l 0 ([]) ([]) ([])) (AExit.inBlock 0 (s76_G22d N (cd Try.f76 [1, 1, 1]) Q)))))) := by kernel_rfl
  exact e_.mpr h
abbrev W76_l0 (N : Nat) (list : Int) (l : List Op) (x13 : Int) (rl_10_0 : List Op) (ml10_1 : List Tree) (ml10_2 : List Tree) (N0 : LSt U → Prop) (Q : AExit → LSt U → Prop) := awp cfg (know (know76 N)) (drawOk cfg (know (know76 N))) Try.f76.ntmps lv76 (cd Try.f76 [1, 1, 0, 1, 0, 0]) (head76_0 list l x13 rl_10_0 ml10_1 ml10_2) (AExit.then N0 (AExit.inBlock 0 (seqK cfg (know (know76 N)) (drawOk cfg (know (know76 N))) Try.f76.ntmps lv76 (cd Try.f76 [1, 1, 1]) Q)))
theorem vc76_l0 (N : Nat) (list : Int) (l : List Op) (x13 : Int) (rl_10_0 : List Op) (ml10_1 : List Tree) (ml10_2 : List Tree) (N0 : LSt U → Prop) (Q : AExit → LSt U → Prop) (h : ∀ y_1, y_1 = (List.getD l (Int.toNat x13) Op.nil) → ∀ y_2, y_2 = (Edit.mk 0 (Tree.mk 0 ([]) ([])) (Tree.mk 0 ([]) ([])) ([]) ([]) 0 ([])) → ∀ y_3, y_3 = (Int.toNat (((flushW (Wst.mk rl_10_0 ml10_1 ml10_2)).out).length : Int)) → ∀ y_4, y_4 = ((OpOf.e y_1)) → ∀ y_5, y_5 = ((nrmE y_4)) → ((decide ((x13 : Int) < (l.length : Int))) = true → ((0 : Int) ≤ x13 ∧ x13 < (l.length : Int)) ∧ (((((OpOf.kind y_1) : Int) == 0) = true → (pre105 ((rl_10_0, ml10_1, ml10_2, ()), (OpOf.n y_1), ())) ∧ ((InR ((x13 : Int) + 1)) ∧ (N0 (head76_0 list l ((x13 : Int) + 1) ((keepW (Wst.mk rl_10_0 ml10_1 ml10_2) (OpOf.n y_1)).out) ((keepW (Wst.mk rl_10_0 ml10_1 ml10_2) (OpOf.n y_1)).gone) ((keepW (Wst.mk rl_10_0 ml10_1 ml10_2) (OpOf.n y_1)).brought))))) ∧ ((((OpOf.kind y_1) : Int) == 0) = false → ((((OpOf.kind y_1) : Int) == 1) = true → (pre106 ((rl_10_0, ml10_1, ml10_2, ()), (OpOf.l y_1), ())) ∧ ((InR ((x13 : Int) + 1)) ∧ (N0 (head76_0 list l ((x13 : Int) + 1) ((Wst.mk rl_10_0 (ml10_1 ++ normsT (OpOf.l y_1)) ml10_2).out) ((Wst.mk rl_10_0 (ml10_1 ++ normsT (OpOf.l y_1)) ml10_2).gone) ((Wst.mk rl_10_0 (ml10_1 ++ normsT (OpOf.l y_1)) ml10_2).brought))))) ∧ ((((OpOf.kind y_1) : Int) == 1) = false → ((((OpOf.kind y_1) : Int) == 2) = true → (pre1106 ((rl_10_0, ml10_1, ml10_2, ()), (OpOf.l y_1), ())) ∧ ((InR ((x13 : Int) + 1)) ∧ (N0 (head76_0 list l ((x13 : Int) + 1) ((Wst.mk rl_10_0 ml10_1 (ml10_2 ++ normsT (OpOf.l y_1))).out) ((Wst.mk rl_10_0 ml10_1 (ml10_2 ++ normsT (OpOf.l y_1))).gone) ((Wst.mk rl_10_0 ml10_1 (ml10_2 ++ normsT (OpOf.l y_1))).brought))))) ∧ ((((OpOf.kind y_1) : Int) == 2) = false → ((((OpOf.kind y_1) : Int) == 3) = true → (pre40 (y_4, ())) ∧ (mu40 (y_4, ()) < N) ∧ ((pre1042 (list, y_5, ())) ∧ (((idleE list y_5) = true → (pre105 ((rl_10_0, ml10_1, ml10_2, ()), 1, ())) ∧ ((InR ((x13 : Int) + 1)) ∧ (N0 (head76_0 list l ((x13 : Int) + 1) ((keepW (Wst.mk rl_10_0 ml10_1 ml10_2) 1).out) ((keepW (Wst.mk rl_10_0 ml10_1 ml10_2) 1).gone) ((keepW (Wst.mk rl_10_0 ml10_1 ml10_2) 1).brought))))) ∧ ((idleE list y_5) = false → (pre107 ((rl_10_0, ml10_1, ml10_2, ()), ())) ∧ (((((flushW (Wst.mk rl_10_0 ml10_1 ml10_2)).out).length + ([(OpOf.mk 0 0 ([]) y_2 : Op)]).length) * 240 ≤ 140737488355328) ∧ ((0 : Int) ≤ (((flushW (Wst.mk rl_10_0 ml10_1 ml10_2)).out).length : Int) ∧ (((flushW (Wst.mk rl_10_0 ml10_1 ml10_2)).out).length : Int) < ((((flushW (Wst.mk rl_10_0 ml10_1 ml10_2)).out) ++ ([(OpOf.mk 0 0 ([]) y_2 : Op)])).length : Int)) ∧ ((0 : Nat) ≤ y_3) ∧ ((InR ((x13 : Int) + 1)) ∧ (N0 (head76_0 list l ((x13 : Int) + 1) (List.set (((flushW (Wst.mk rl_10_0 ml10_1 ml10_2)).out) ++ ([(OpOf.mk 0 0 ([]) y_2 : Op)])) y_3 (OpOf.mk 3 0 ([]) y_5 : Op)) ((flushW (Wst.mk rl_10_0 ml10_1 ml10_2)).gone) ((flushW (Wst.mk rl_10_0 ml10_1 ml10_2)).brought))))))))) ∧ ((((OpOf.kind y_1) : Int) == 3) = false → (InR ((x13 : Int) + 1)) ∧ (N0 (head76_0 list l ((x13 : Int) + 1) rl_10_0 ml10_1 ml10_2)))))))) ∧ ((decide ((x13 : Int) < (l.length : Int))) = false → (pre107 ((rl_10_0, ml10_1, ml10_2, ()), ())) ∧ (Q .ret (⟨[(4, .c (.slice (U := U) .op ((flushW (Wst.mk rl_10_0 ml10_1 ml10_2)).out) (.own (.e 4 0))))], [], []⟩ : LSt U)))) :
    W76_l0 N list l x13 rl_10_0 ml10_1 ml10_2 N0 Q := by
  have e_ : (W76_l0 N list l x13 rl_10_0 ml10_1 ml10_2 N0 Q) = (let y_1 := (List.getD l (Int.toNat x13) Op.nil); let y_2 := (Edit.mk 0 (Tree.mk 0 ([]) ([])) (Tree.mk 0 ([]) ([])) ([]) ([]) 0 ([])); let y_3 := (Int.toNat (((flushW (Wst.mk rl_10_0 ml10_1 ml10_2)).out).length : Int)); let y_4 := (reEdit (OpOf.e y_1)); let y_5 := (reEdit (nrmE y_4)); (((decide ((x13 : Int) < (l.length : Int))) = true → ((0 : Int) ≤ x13 ∧ x13 < (l.length : Int)) ∧ ((((((OpOf.kind y_1) == 0) = true → (pre105 ((rl_10_0, ml10_1, ml10_2, ()), (OpOf.n y_1), ())) ∧ ((InR ((x13 : Int) + 1)) ∧ (N0 (head76_0 list l ((x13 : Int) + 1) ((keepW (Wst.mk rl_10_0 ml10_1 ml10_2) (OpOf.n y_1)).out) ((keepW (Wst.mk rl_10_0 ml10_1 ml10_2) (OpOf.n y_1)).gone) ((keepW (Wst.mk rl_10_0 ml10_1 ml10_2) (OpOf.n y_1)).brought))))) ∧ (((OpOf.kind y_1) == 0) = false → ((((OpOf.kind y_1) == 1) = true → (pre106 ((rl_10_0, ml10_1, ml10_2, ()), (OpOf.l y_1), ())) ∧ ((InR ((x13 : Int) + 1)) ∧ (N0 (head76_0 list l ((x13 : Int) + 1) ((Wst.mk rl_10_0 (ml10_1 ++ normsT (OpOf.l y_1)) ml10_2).out) ((Wst.mk rl_10_0 (ml10_1 ++ normsT (OpOf.l y_1)) ml10_2).gone) ((Wst.mk rl_10_0 (ml10_1 ++ normsT (OpOf.l y_1)) ml10_2).brought))))) ∧ (((OpOf.kind y_1) == 1) = false → ((((OpOf.kind y_1) == 2) = true → (pre1106 ((rl_10_0, ml10_1, ml10_2, ()), (OpOf.l y_1), ())) ∧ ((InR ((x13 : Int) + 1)) ∧ (N0 (head76_0 list l ((x13 : Int) + 1) ((Wst.mk rl_10_0 ml10_1 (ml10_2 ++ normsT (OpOf.l y_1))).out) ((Wst.mk rl_10_0 ml10_1 (ml10_2 ++ normsT (OpOf.l y_1))).gone) ((Wst.mk rl_10_0 ml10_1 (ml10_2 ++ normsT (OpOf.l y_1))).brought))))) ∧ (((OpOf.kind y_1) == 2) = false → ((((OpOf.kind y_1) == 3) = true → (pre40 (y_4, ())) ∧ (mu40 (y_4, ()) < N) ∧ ((pre1042 (list, y_5, ())) ∧ (((idleE list y_5) = true → (pre105 ((rl_10_0, ml10_1, ml10_2, ()), 1, ())) ∧ ((InR ((x13 : Int) + 1)) ∧ (N0 (head76_0 list l ((x13 : Int) + 1) ((keepW (Wst.mk rl_10_0 ml10_1 ml10_2) 1).out) ((keepW (Wst.mk rl_10_0 ml10_1 ml10_2) 1).gone) ((keepW (Wst.mk rl_10_0 ml10_1 ml10_2) 1).brought))))) ∧ ((idleE list y_5) = false → (pre107 ((rl_10_0, ml10_1, ml10_2, ()), ())) ∧ (((((flushW (Wst.mk rl_10_0 ml10_1 ml10_2)).out).length + ([(OpOf.mk 0 0 ([]) y_2 : Op)]).length) * 240 ≤ 140737488355328) ∧ ((0 : Int) ≤ (((flushW (Wst.mk rl_10_0 ml10_1 ml10_2)).out).length : Int) ∧ (((flushW (Wst.mk rl_10_0 ml10_1 ml10_2)).out).length : Int) < ((((flushW (Wst.mk rl_10_0 ml10_1 ml10_2)).out) ++ ([(OpOf.mk 0 0 ([]) y_2 : Op)])).length : Int)) ∧ ((0 : Nat) ≤ y_3) ∧ ((InR ((x13 : Int) + 1)) ∧ (N0 (head76_0 list l ((x13 : Int) + 1) (List.set (((flushW (Wst.mk rl_10_0 ml10_1 ml10_2)).out) ++ ([(OpOf.mk 0 0 ([]) y_2 : Op)])) y_3 (OpOf.mk 3 0 ([]) y_5 : Op)) ((flushW (Wst.mk rl_10_0 ml10_1 ml10_2)).gone) ((flushW (Wst.mk rl_10_0 ml10_1 ml10_2)).brought))))))))) ∧ (((OpOf.kind y_1) == 3) = false → (InR ((x13 : Int) + 1)) ∧ (N0 (head76_0 list l ((x13 : Int) + 1) rl_10_0 ml10_1 ml10_2))))))))))))) ∧ ((decide ((x13 : Int) < (l.length : Int))) = false → (pre107 ((rl_10_0, ml10_1, ml10_2, ()), ())) ∧ ((Q .ret (⟨[(4, .c (.slice (U := U) .op ((flushW (Wst.mk rl_10_0 ml10_1 ml10_2)).out) (.own (.e 4 0))))], [], []⟩ : LSt U)))))) := by kernel_rfl
  exact e_.mpr (by intro y_1 y_2 y_3 y_4 y_5; have hh := h y_1 rfl y_2 rfl y_3 rfl y_4 (reEdit_eq _) y_5 (reEdit_eq _); exact ⟨fun c_5 => ⟨(hh.1 c_5).1, ⟨fun c_6 => ⟨((hh.1 c_5).2.1 c_6).1, ⟨((hh.1 c_5).2.1 c_6).2.1, ((hh.1 c_5).2.1 c_6).2.2⟩⟩, fun c_6 => ⟨fun c_7 => ⟨(((hh.1 c_5).2.2 c_6).1 c_7).1, ⟨(((hh.1 c_5).2.2 c_6).1 c_7).2.1, (((hh.1 c_5).2.2 c_6).1 c_7).2.2⟩⟩, fun c_7 => ⟨fun c_8 => ⟨((((hh.1 c_5).2.2 c_6).2 c_7).1 c_8).1, ⟨((((hh.1 c_5).2.2 c_6).2 c_7).1 c_8).2.1, ((((hh.1 c_5).2.2 c_6).2 c_7).1 c_8).2.2⟩⟩, fun c_8 => ⟨fun c_9 => ⟨(((((hh.1 c_5).2.2 c_6).2 c_7).2 c_8).1 c_9).1, (((((hh.1 c_5).2.2 c_6).2 c_7).2 c_8).1 c_9).2.1, ⟨(((((hh.1 c_5).2.2 c_6).2 c_7).2 c_8).1 c_9).2.2.1, ⟨fun c_10 => ⟨((((((hh.1 c_5).2.2 c_6).2 c_7).2 c_8).1 c_9).2.2.2.1 c_10).1, ⟨((((((hh.1 c_5).2.2 c_6).2 c_7).2 c_8).1 c_9).2.2.2.1 c_10).2.1, ((((((hh.1 c_5).2.2 c_6).2 c_7).2 c_8).1 c_9).2.2.2.1 c_10).2.2⟩⟩, fun c_10 => ⟨((((((hh.1 c_5).2.2 c_6).2 c_7).2 c_8).1 c_9).2.2.2.2 c_10).1, ⟨((((((hh.1 c_5).2.2 c_6).2 c_7).2 c_8).1 c_9).2.2.2.2 c_10).2.1, ((((((hh.1 c_5).2.2 c_6).2 c_7).2 c_8).1 c_9).2.2.2.2 c_10).2.2.1, ((((((hh.1 c_5).2.2 c_6).2 c_7).2 c_8).1 c_9).2.2.2.2 c_10).2.2.2.1, ⟨((((((hh.1 c_5).2.2 c_6).2 c_7).2 c_8).1 c_9).2.2.2.2 c_10).2.2.2.2.1, ((((((hh.1 c_5).2.2 c_6).2 c_7).2 c_8).1 c_9).2.2.2.2 c_10).2.2.2.2.2⟩⟩⟩⟩⟩⟩, fun c_9 => ⟨(((((hh.1 c_5).2.2 c_6).2 c_7).2 c_8).2 c_9).1, (((((hh.1 c_5).2.2 c_6).2 c_7).2 c_8).2 c_9).2⟩⟩⟩⟩⟩⟩, fun c_5 => ⟨(hh.2 c_5).1, (hh.2 c_5).2⟩⟩)
def Body76 (N : Nat) (list : Int) (l : List Op)  : Prop := awp cfg (know (know76 N)) (drawOk cfg (know (know76 N))) Try.f76.ntmps lv76 (cd Try.f76 []) (entry (args76.can (list, l, ())) []) (EndsQ cfg Try.f76.ntmps Try.f76.results.toList (res76 (list, l, ())) [])
abbrev HB76 : Prop := ∀ (N : Nat) (list : Int) (l : List Op) (_ : Unit), pre76 (list, l, ()) → mu76 (list, l, ()) < N + 1 → Body76 N list l
theorem make40_76 (c32 : Contract Try.prog cfg 32 spec32) (c1042 : Contract Try.prog cfg 42 spec1042) (c105 : Contract Try.prog cfg 105 spec105) (c107 : Contract Try.prog cfg 107 spec107) (c2106 : Contract Try.prog cfg 106 spec2106) (ha : HB40) (hb : HB76) : Contract Try.prog cfg 40 spec40 ∧ Contract Try.prog cfg 76 spec76 :=
  contract_mut2 (μA := mu40) (μB := mu76) (l := [(32, spec32), (42, spec1042), (105, spec105), (107, spec107), (106, spec2106)]) cfgOk rfl (⟨c32, c1042, c105, c107, c2106, trivial⟩) lv40 lv76 Try.func40 Try.func76 rfl rfl rfl rfl 1 2 (fun _ => rfl) (fun _ => rfl) (by decide) (by decide) (fun N ⟨e, _⟩ => ha N e ()) (fun N ⟨list, l, _⟩ => hb N list l ())
end
end Go.AM.Ytlahjnelghpmeaa

namespace Go.AM.Ytlahjnelghpmeaa
open Go.AM Go.Proofs
theorem keepW_len (s : Wst) (n : Int) : (keepW s n).out.length ≤ s.out.length + 3 := by
  have h := flush_len s
  simp only [keepW]
  rw [keepO_at]
  split
  · rw [List.length_set]; omega
  · rw [List.length_append]; simp; omega
theorem keepW_n {s : Wst} {n B K : Int} (hB : 0 ≤ B) (hn : 0 ≤ n ∧ n ≤ K) (h : ∀ o ∈ s.out, 0 ≤ o.n ∧ o.n ≤ B) : ∀ o ∈ (keepW s n).out, 0 ≤ o.n ∧ o.n ≤ B + K := by
  have hF : ∀ o ∈ (flushW s).out, 0 ≤ o.n ∧ o.n ≤ B := by
    intro o ho
    rcases flush_mem s o ho with h1 | h1
    · exact h o h1
    · omega
  intro o ho
  simp only [keepW] at ho
  rw [keepO_at] at ho
  split at ho
  · rename_i hc
    rcases List.mem_or_eq_of_mem_set ho with ho | rfl
    · have := hF o ho; omega
    · have := hF _ (mem_getD (l := (flushW s).out) (i := (flushW s).out.length - 1) (by omega) Op.nil)
      simp only; omega
  · rcases List.mem_append.1 ho with ho | ho
    · have := hF o ho; omega
    · simp only [List.mem_singleton] at ho; subst ho; simp only; omega
theorem nrmKs_lenW : ∀ (l : List Kid), (nrmKs l).length = l.length
  | [] => rfl
  | k :: r => by simp [nrmKs, nrmKs_lenW r]
theorem nrmE_words (e : Edit) : (nrmE e).words.length ≤ e.words.length ∧ (nrmE e).kids.length ≤ e.kids.length := by
  rw [nrmE_at]
  split
  · simp
  · split
    · simp [nrmKs_lenW]
    · split <;> simp
theorem rightOp_keep {list : Int} {o : Op} {d : Int} (h : rightOp list o d = true) (hk : o.kind = 0) : 1 ≤ o.n ∧ o.n ≤ 1048576 := by
  obtain ⟨k, n, l, e⟩ := o
  simp only at hk
  subst hk
  simp [rightOp] at h
  show 1 ≤ n ∧ n ≤ 1048576
  omega
theorem rightOp_desc {list : Int} {o : Op} {d : Int} (h : rightOp list o d = true) (hk : o.kind = 3) : rightE o.e d = true := by
  obtain ⟨k, n, l, e⟩ := o
  simp only at hk
  subst hk
  simp [rightOp] at h
  exact h.2.1.2
theorem kid_right {e : Edit} {d : Int} (h : rightE e d = true) (hk : e.kind = 2) : ∀ k ∈ e.kids, ∃ d, rightE k.e d = true := by
  obtain ⟨k, o, n, w, ks, l, os⟩ := e
  change k = 2 at hk
  subst hk
  have hks : ∃ d last, rightKs last ks d = true := by
    unfold rightE at h
    split at h
    · cases h
    · split at h
      · cases h
      · rw [if_neg (by omega)] at h
        simp only [Bool.and_eq_true] at h
        exact ⟨_, _, h.1.1.1.2⟩
  obtain ⟨d', last, hks⟩ := hks
  change ∀ k ∈ ks, _
  clear h
  induction ks generalizing last with
  | nil => intro k hk; cases hk
  | cons a r ih =>
    simp only [rightKs, Bool.and_eq_true] at hks
    intro k hk
    rcases List.mem_cons.1 hk with rfl | hk
    · obtain ⟨a, e⟩ := k
      simp only [rightKid, Bool.and_eq_true] at hks
      exact ⟨_, hks.1.2⟩
    · exact ih _ hks.2 k hk
theorem op_right {e : Edit} {d : Int} (h : rightE e d = true) (hk : e.kind = 3) : ∀ o ∈ e.ops, ∃ d, rightOp e.list o d = true := by
  obtain ⟨k, o, n, w, ks, l, os⟩ := e
  change k = 3 at hk
  subst hk
  have hos : ∃ d, rightOs l os d = true := by
    unfold rightE at h
    split at h
    · cases h
    · split at h
      · cases h
      · rw [if_neg (by omega)] at h
        simp only [Bool.and_eq_true] at h
        exact ⟨_, h.1.2⟩
  obtain ⟨d', hos⟩ := hos
  change ∀ o ∈ os, ∃ d, rightOp l o d = true
  clear h
  induction os with
  | nil => intro k hk; cases hk
  | cons a r ih =>
    simp only [rightOs, Bool.and_eq_true] at hos
    intro k hk
    rcases List.mem_cons.1 hk with rfl | hk
    · exact ⟨_, hos.1⟩
    · exact ih hos.2 k hk
theorem b76 : HB76 := by
  intro N list l _ hp hN
  simp only [pre76, mu76] at hp hN
  obtain ⟨p1, p3⟩ := hp
  have hl := massOs_len l
  refine vc76 _ _ _ _ ?_
  refine loop_rule (ι := Int × Wst) (fun s => head76_0 list l s.1 s.2.out s.2.gone s.2.brought)
    (fun s => 0 ≤ s.1 ∧ s.1 ≤ l.length ∧ nrmOs list (l.drop s.1.toNat) s.2 = nrmOs list l ⟨[], [], []⟩ ∧ s.2.out.length ≤ 3 * s.1 ∧ s.2.gone.length + s.2.brought.length + massOs (l.drop s.1.toNat) ≤ massOs l ∧ ∀ o ∈ s.2.out, 0 ≤ o.n ∧ o.n ≤ s.1 * 1048576)
    (fun s => ((l.length : Int) - s.1).toNat) (0, ⟨[], [], []⟩) rfl ⟨by simp, by simp, by simp, by simp, by simp, by simp⟩ ?_
  rintro ⟨i, s⟩ ⟨g1, g2, g3, g4, g5, g6⟩
  dsimp only at g1 g2 g3 g4 g5 g6
  refine vc76_l0 _ _ _ _ _ _ _ _ _ ?_
  rintro y1 hy1 y2 hy2 y3 hy3 y4 hy4 y5 hy5
  have hy : y2 = Edit.nil := hy2
  subst hy
  have es : Wst.mk s.out s.gone s.brought = s := rfl
  simp only [es] at hy3 ⊢
  (simp only [vcS])
  refine ⟨fun hi => ?_, fun hi => ?_⟩
  · have hmem := mem_getD (l := l) (i := i.toNat) (by omega) Op.nil
    have hm := massOs_mem hmem
    have hr := p3 _ hmem
    rw [dropI g1 hi Op.nil] at g3 g5
    rw [← hy1] at g3 g5 hm hr
    have hmo := massOp_e y1
    simp only [nrmOs, nrmOp_at, massOs] at g3 g5
    rw [← hy4, ← hy5] at g3
    obtain ⟨d, hr2⟩ := hr
    have hfl := flush_len s
    have hP : ∀ n : Int, 0 ≤ n ∧ n ≤ 1048576 → pre105 ((s.out, s.gone, s.brought, ()), n, ()) := by
      intro n hn
      simp only [pre105]
      refine ⟨by omega, by omega, by omega, fun o ho => ?_, by omega, by omega⟩
      have := g6 o ho
      constructor
      · omega
      · have : i * 1048576 ≤ 1000000 * 1048576 := by omega
        omega
    have hK : ∀ n : Int, 0 ≤ n ∧ n ≤ 1048576 → nrmOs list (l.drop (i + 1).toNat) (keepW s n) = nrmOs list l ⟨[], [], []⟩ →
        (∃ j : Int × Wst, head76_0 list l (i + 1) (keepW s n).out (keepW s n).gone (keepW s n).brought = head76_0 list l j.1 j.2.out j.2.gone j.2.brought ∧ (0 ≤ j.1 ∧ j.1 ≤ l.length ∧ nrmOs list (l.drop j.1.toNat) j.2 = nrmOs list l ⟨[], [], []⟩ ∧ j.2.out.length ≤ 3 * j.1 ∧ j.2.gone.length + j.2.brought.length + massOs (l.drop j.1.toNat) ≤ massOs l ∧ ∀ o ∈ j.2.out, 0 ≤ o.n ∧ o.n ≤ j.1 * 1048576) ∧ ((l.length : Int) - j.1).toNat < ((l.length : Int) - i).toNat) := by
      intro n hn he
      have h1 := keepW_len s n
      have h2 := keepW_n (s := s) (n := n) (B := i * 1048576) (K := 1048576) (by omega) hn g6
      refine ⟨(i + 1, keepW s n), rfl, ⟨by dsimp only; omega, by dsimp only; omega, he, by dsimp only; omega, by simp only [keepW, List.length_nil]; omega, fun o ho => ?_⟩, by dsimp only; omega⟩
      have := h2 o ho
      dsimp only
      omega
    refine ⟨⟨g1, hi⟩, fun hk => ?_, fun hk => ⟨fun hk1 => ?_, fun hk1 => ⟨fun hk2 => ?_, fun hk2 => ⟨fun hk3 => ?_, fun hk3 => ?_⟩⟩⟩⟩
    · rw [if_pos hk] at g3
      have h1 := rightOp_keep hr2 hk
      exact ⟨hP _ (by omega), by unfold InR; omega, hK _ (by omega) g3⟩
    · rw [if_neg hk, if_pos hk1] at g3
      refine ⟨by simp only [pre106]; omega, by unfold InR; omega, (i + 1, ⟨s.out, s.gone ++ normsT y1.l, s.brought⟩), rfl, ⟨by dsimp only; omega, by dsimp only; omega, g3, by dsimp only; omega, ?_, fun o ho => ?_⟩, by dsimp only; omega⟩
      · have := massK_len y1.l
        simp only [List.length_append, normsT, List.length_map]; omega
      · have := g6 o ho
        dsimp only; omega
    · rw [if_neg hk, if_neg hk1, if_pos hk2] at g3
      refine ⟨by simp only [pre1106]; omega, by unfold InR; omega, (i + 1, ⟨s.out, s.gone, s.brought ++ normsT y1.l⟩), rfl, ⟨by dsimp only; omega, by dsimp only; omega, g3, by dsimp only; omega, ?_, fun o ho => ?_⟩, by dsimp only; omega⟩
      · have := massK_len y1.l
        simp only [List.length_append, normsT, List.length_map]; omega
      · have := g6 o ho
        dsimp only; omega
    · rw [if_neg hk, if_neg hk1, if_neg hk2, if_pos hk3] at g3
      have hre := rightOp_desc hr2 hk3
      rw [← hy4] at hre
      have hw := nrmE_words y4
      rw [← hy5] at hw
      have h1 := len_massE y4
      have h2 := massKs_len y4.kids
      have hmE : massE y4 ≤ massOp y1 := by rw [hmo, hy4]; omega
      refine ⟨by simp only [pre40]; exact ⟨by omega, d, hre⟩, by simp only [mu40]; omega, by simp only [pre1042]; omega, fun hq => ?_, fun hq => ?_⟩
      · rw [if_pos hq] at g3
        exact ⟨hP 1 (by omega), by unfold InR; omega, hK 1 (by omega) g3⟩
      · rw [if_neg (by rw [hq]; simp)] at g3
        rw [hy3, set_last]
        refine ⟨by simp only [pre107]; omega, by simp only [List.length_cons, List.length_nil]; omega, by simp only [List.length_append, List.length_cons, List.length_nil]; omega, by omega, by unfold InR; omega, (i + 1, ⟨(flushW s).out ++ [⟨3, 0, [], y5⟩], [], []⟩), rfl, ⟨by dsimp only; omega, by dsimp only; omega, g3, by simp; omega, by simp; omega, fun o ho => ?_⟩, by dsimp only; omega⟩
        dsimp only at ho ⊢
        rcases List.mem_append.1 ho with ho | ho
        · rcases flush_mem s o ho with h5 | h5
          · have := g6 o h5; omega
          · omega
        · simp only [List.mem_singleton] at ho
          subst ho
          simp only; omega
    · rw [if_neg hk, if_neg hk1, if_neg hk2, if_neg hk3] at g3
      refine ⟨by unfold InR; omega, (i + 1, s), rfl, ⟨by dsimp only; omega, by dsimp only; omega, g3, by dsimp only; omega, by dsimp only; omega, fun o ho => ?_⟩, by dsimp only; omega⟩
      have := g6 o ho
      dsimp only; omega
  · rw [List.drop_of_length_le (by omega)] at g3
    simp only [nrmOs] at g3
    refine ⟨by simp only [pre107]; omega, ?_⟩
    simp only [res76]
    rw [← g3]
    (repeat' (first | exact trivial | exact rfl | apply And.intro))
theorem b40 : HB40 := by
  intro N e _ hp hN
  simp only [pre40, mu40] at hp hN
  obtain ⟨p1, d, p3⟩ := hp
  have h1 := len_massE e
  have h2 := massKs_len e.kids
  have h3 := massOs_len e.ops
  have ha := nrmE_at e
  refine vc40 _ _ _ ?_
  (simp only [vcS])
  (simp only [Tree.eta, Edit.eta, Tree.kind_mk, Tree.words_mk, Tree.kids_mk])
  refine ⟨fun hk => ⟨by simp only [pre32]; omega, by simp only [pre32]; omega, ?_⟩, fun hk => ⟨fun hk2 => ⟨by simp; omega, ?_⟩, fun hk2 => ⟨fun hk3 => ⟨?_, by simp only [mu76]; omega, ?_⟩, fun hk3 => ?_⟩⟩⟩
  · rw [if_pos hk] at ha
    simp only [res40, ha]
    (repeat' (first | exact trivial | exact rfl | apply And.intro))
  · rw [if_neg hk, if_pos hk2] at ha
    refine loop_rule (ι := Int × List Kid) (fun s => head40_0 e s.1 s.2) (fun s => 0 ≤ s.1 ∧ s.1 ≤ e.kids.length ∧ s.2.length = s.1 ∧ s.2 ++ nrmKs (e.kids.drop s.1.toNat) = nrmKs e.kids) (fun s => ((e.kids.length : Int) - s.1).toNat) (0, []) rfl ⟨by simp, by simp, by simp, by simp⟩ ?_
    rintro ⟨j, ks⟩ ⟨f1, f2, f3, f4⟩
    dsimp only at f1 f2 f3 f4
    refine vc40_l0 _ _ _ _ _ _ ?_
    rintro y1 hy1 y2 hy2 y3 hy3
    (simp only [vcS])
    refine ⟨fun hj => ?_, fun hj => ?_⟩
    · have hmem := mem_getD (l := e.kids) (i := j.toNat) (by omega) (KidOf.mk 0 Edit.nil)
      have hm := massKs_mem hmem
      have hr := kid_right p3 hk2 _ hmem
      rw [dropI f1 hj (KidOf.mk 0 Edit.nil)] at f4
      rw [← hy1] at f4 hm hr
      simp only [nrmKs, nrmKid_at] at f4
      rw [← hy2] at f4 hm hr
      rw [← hy3] at f4
      refine ⟨⟨f1, hj⟩, by simp only [pre40]; exact ⟨by omega, hr⟩, by simp only [mu40]; omega, by simp; omega, by unfold InR; omega, (j + 1, ks ++ [⟨y1.at_, y3⟩]), rfl, ⟨by dsimp only; omega, by dsimp only; omega, by simp; omega, ?_⟩, by dsimp only; omega⟩
      simp only [List.append_assoc, List.cons_append, List.nil_append]
      exact f4
    · rw [List.drop_of_length_le (by omega)] at f4
      simp only [nrmKs, List.append_nil] at f4
      rw [f4]
      simp only [res40, ha]
      (repeat' (first | exact trivial | exact rfl | apply And.intro))
  · simp only [pre76]
    exact ⟨by omega, fun o ho => op_right p3 hk3 o ho⟩
  · rw [if_neg hk, if_neg hk2, if_pos hk3] at ha
    simp only [res40, ha]
    (repeat' (first | exact trivial | exact rfl | apply And.intro))
  · rw [if_neg hk, if_neg hk2, if_neg hk3] at ha
    simp only [res40, ha]
    (repeat' (first | exact trivial | exact rfl | apply And.intro))
theorem c40_76 : Contract Try.prog cfg 40 spec40 ∧ Contract Try.prog cfg 76 spec76 := make40_76 c32 c1042 c105 c107 c2106 b40 b76
end Go.AM.Ytlahjnelghpmeaa
