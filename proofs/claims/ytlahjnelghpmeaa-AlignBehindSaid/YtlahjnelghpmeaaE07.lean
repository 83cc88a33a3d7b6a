/- Chapter 7: trees that mean the same. -/
import Derived.Test.YtlahjnelghpmeaaB07
set_option linter.unusedSimpArgs false
set_option linter.unusedVariables false
namespace Go.AM.Ytlahjnelghpmeaa
open Go.AM Go.Proofs

end Go.AM.Ytlahjnelghpmeaa
