import Derived.Test.YtcljdbpmjdgooaaEmY
set_option linter.unusedSimpArgs false
set_option linter.unusedVariables false
namespace Go.AM
def aPo(T:Ty):Arg (Option (El T)):=
 {get:=fun v=> match v with
   | .c x=> match rPo T [x] with
    | some (o,_)=> some o
    | none=> none
   | _=> none
  can:=fun o=> .c (.po (U:=U) T o)
  ok:=by
   intro cfg _ v a h
   split at h
   .split at h
    .rename_i l r hr
     cases h
     exact Z6e (ZnF hr)
    .cases h
   .cases h }
end Go.AM
