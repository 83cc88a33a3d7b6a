/- More arguments. -/
import Derived.Test.YthokdjgpdonhgaaBmY
set_option linter.unusedSimpArgs false
set_option linter.unusedVariables false
namespace Go.AM
/-- A function that is handed on: this one. -/
def aFn (f : FuncId) : Arg Unit :=
  { get := fun v => match v with
      | .fn g => if Nat.beq g f then some () else none
      | _ => none
    can := fun _ => .fn f
    ok := by
      intro cfg _ v a h
      split at h
      · split at h
        · rename_i hb
          rw [Nat.eq_of_beq_eq_true hb]
          exact fun _ _ _ h => h
        · cases h
      · cases h }
/-- A pointer, if any, to what nobody writes any more. -/
def aPo (T : Ty) : Arg (Option (El T)) :=
  { get := fun v => match v with
      | .c x => match rPo T [x] with
        | some (o, _) => some o
        | none => none
      | _ => none
    can := fun o => .c (.po (U := U) T o)
    ok := by
      intro cfg _ v a h
      split at h
      · split at h
        · rename_i l r hr
          cases h
          exact better_wk (rPo_wk hr)
        · cases h
      · cases h }
end Go.AM
