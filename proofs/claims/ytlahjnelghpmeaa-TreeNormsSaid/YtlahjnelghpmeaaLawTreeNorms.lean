/- Proved: of every tree, centolaw07.TreeNorms answers true and leaves the tree as it was. Conditions: none beyond the row's own. -/
import Derived.Test.YtlahjnelghpmeaaH07
namespace Go.Proofs.Ytlahjnelghpmeaa

theorem treeNorms_holds : Rows.TreeNormsSaid := Go.AM.Ytlahjnelghpmeaa.treeNorms_proved

end Go.Proofs.Ytlahjnelghpmeaa
