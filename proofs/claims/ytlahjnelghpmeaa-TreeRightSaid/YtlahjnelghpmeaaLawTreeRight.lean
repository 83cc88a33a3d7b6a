/- Proved: of every tree and every number, centolaw07.TreeRight answers true and leaves the tree as it was. Conditions: none beyond the row's own. -/
import Derived.Test.YtlahjnelghpmeaaH11
namespace Go.Proofs.Ytlahjnelghpmeaa

theorem treeRight_holds : Rows.TreeRightSaid := Go.AM.Ytlahjnelghpmeaa.treeRight_proved

end Go.Proofs.Ytlahjnelghpmeaa
