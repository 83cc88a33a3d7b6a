/- Data, laid anew: what the printed conditions name in short. -/
import Derived.Test.YtlahjnelghpmeaaAmY
set_option linter.unusedSimpArgs false
set_option linter.unusedVariables false
namespace Go.AM
def reTree (x : Tree) : Tree := Tree.mk (Tree.kind x) (Tree.words x) (Tree.kids x)
def reEdit (x : Edit) : Edit := Edit.mk (Edit.kind x) (reTree (Edit.old x)) (reTree (Edit.new x)) (Edit.words x) (Edit.kids x) (Edit.list x) (Edit.ops x)
def reOp (x : Op) : Op := OpOf.mk (OpOf.kind x) (OpOf.n x) (OpOf.l x) (reEdit (OpOf.e x))
def reKid (x : Kid) : Kid := KidOf.mk (KidOf.at_ x) (reEdit (KidOf.e x))
def reUnit (x : AUnit) : AUnit := AUnit.mk (AUnit.step x) (AUnit.kind x) (reTree (AUnit.t x)) (reEdit (AUnit.e x)) (AUnit.alone x)
def rePiece (x : Piece) : Piece := Piece.mk (Piece.of x) (reOp (Piece.p x)) (reOp (Piece.q x))
def rePair (x : APair) : APair := APair.mk (APair.of x) (reUnit (APair.p x)) (reUnit (APair.q x))
def reWedit (x : WEdit) : WEdit := WEdit.mk (WEdit.at_ x) (WEdit.mask x) (WEdit.old x) (WEdit.new x)
@[simp] theorem reTree_eq (x : Tree) : reTree x = x := Tree.eta x
@[simp] theorem reEdit_eq (x : Edit) : reEdit x = x := by unfold reEdit; rw [reTree_eq, reTree_eq]; exact Edit.eta x
@[simp] theorem reOp_eq (x : Op) : reOp x = x := by unfold reOp; rw [reEdit_eq]
@[simp] theorem reKid_eq (x : Kid) : reKid x = x := by unfold reKid; rw [reEdit_eq]
@[simp] theorem reUnit_eq (x : AUnit) : reUnit x = x := by unfold reUnit; rw [reEdit_eq, reTree_eq]
@[simp] theorem rePiece_eq (x : Piece) : rePiece x = x := by unfold rePiece; rw [reOp_eq, reOp_eq]
@[simp] theorem rePair_eq (x : APair) : rePair x = x := by unfold rePair; rw [reUnit_eq, reUnit_eq]
@[simp] theorem reWedit_eq (x : WEdit) : reWedit x = x := rfl
/-- A function that is handed on: this one. -/
def aFn (f : FuncId) : Arg Unit :=
  { get := fun v => match v with
      | .fn g => if Nat.beq g f then some () else none
      | _ => none
    can := fun _ => .fn f
    ok := by
      intro cfg _ v a h
      split at h
      · split at h
        · rename_i hb
          rw [Nat.eq_of_beq_eq_true hb]
          exact fun _ _ _ h => h
        · cases h
      · cases h }
end Go.AM
