/- Where an edit is defined, the one that is turned round leads back to the tree, and where that is defined, the edit leads back again, of right trees and edits of at most 3000 parts. -/
import Derived.Test.YtlahjnelghpmeaaH23c
namespace Go.Proofs.Ytlahjnelghpmeaa

theorem invertBack_holds : Rows.InvertBackSaid := Go.AM.Ytlahjnelghpmeaa.invertBack_proved

end Go.Proofs.Ytlahjnelghpmeaa
