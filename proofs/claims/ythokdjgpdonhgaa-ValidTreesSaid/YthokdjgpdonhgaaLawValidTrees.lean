/- What means something within limits means a right tree, no deeper, and no heavier, than they say, and weighs just what the tree does, of a Weight of at most 3000. -/
import Derived.Test.YthokdjgpdonhgaaH10e
namespace Go.Proofs.Ythokdjgpdonhgaa

theorem validTrees_holds : Rows.ValidTreesSaid := Go.AM.Ythokdjgpdonhgaa.validTrees_proved

end Go.Proofs.Ythokdjgpdonhgaa
