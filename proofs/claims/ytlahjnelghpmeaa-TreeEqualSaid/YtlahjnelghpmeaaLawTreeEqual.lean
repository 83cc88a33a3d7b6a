/- Proved: of every two trees, centolaw07.TreeEqual answers true and leaves the trees as they were. Conditions: none beyond the row's own. -/
import Derived.Test.YtlahjnelghpmeaaH07
namespace Go.Proofs.Ytlahjnelghpmeaa

theorem treeEqual_holds : Rows.TreeEqualSaid := Go.AM.Ytlahjnelghpmeaa.treeEqual_proved

end Go.Proofs.Ytlahjnelghpmeaa
