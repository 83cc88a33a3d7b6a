/- As it is written, an edit is right, is defined on any tree on which it was, and does the same, of right trees and edits of at most 3000 parts. -/
import Derived.Test.YtlahjnelghpmeaaH22c
namespace Go.Proofs.Ytlahjnelghpmeaa

theorem normalDoes_holds : Rows.NormalDoesSaid := Go.AM.Ytlahjnelghpmeaa.normalDoes_proved

end Go.Proofs.Ytlahjnelghpmeaa
