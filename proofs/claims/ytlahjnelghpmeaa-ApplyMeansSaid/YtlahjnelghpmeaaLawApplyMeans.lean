/- What becomes of a tree by an edit hangs on what it means alone, of right trees and edits of at most 3000 parts. -/
import Derived.Test.YtlahjnelghpmeaaH21b
namespace Go.Proofs.Ytlahjnelghpmeaa

theorem applyMeans_holds : Rows.ApplyMeansSaid := Go.AM.Ytlahjnelghpmeaa.applyMeans_proved

end Go.Proofs.Ytlahjnelghpmeaa
