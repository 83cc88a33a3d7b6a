/- What becomes of any tree by any edit is as the document says, or it is not defined on it, of right trees and edits of at most 3000 parts. -/
import Derived.Test.YtlahjnelghpmeaaH21a
namespace Go.Proofs.Ytlahjnelghpmeaa

theorem applyEdits_holds : Rows.ApplyEditsSaid := Go.AM.Ytlahjnelghpmeaa.applyEdits_proved

end Go.Proofs.Ytlahjnelghpmeaa
