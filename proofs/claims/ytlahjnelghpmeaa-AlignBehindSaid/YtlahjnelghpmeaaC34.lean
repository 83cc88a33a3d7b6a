/- Chapter 7: tree.Equal. (does not build yet, if NOTES.md says so) -/
import Derived.Test.YtlahjnelghpmeaaE07
set_option linter.unusedSimpArgs false
set_option linter.unusedVariables false
namespace Go.AM.Ytlahjnelghpmeaa
open Go.AM Go.Proofs

end Go.AM.Ytlahjnelghpmeaa
