import Derived.Test.YtfapacabjkhepaaGreatWmY
set_option linter.unusedSimpArgs false
set_option linter.unusedVariables false
namespace Go.AM
def aFn(f:FuncId):Arg Unit:=
 {get:=fun v=> match v with
   | .fn g=> if Nat.beq g f then some () else none
   | _=> none
  can:=fun _=> .fn f
  ok:=by
   intro cfg _ v a h
   split at h
   .split at h
    .rename_i hb
     rw [Qa hb]
     exact fun _ _ _ h=> h
    .cases h
   .cases h }
end Go.AM
