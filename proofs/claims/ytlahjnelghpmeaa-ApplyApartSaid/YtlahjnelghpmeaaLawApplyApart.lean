/- No two trees that mean unlike things become one that means the same, of right trees and edits of at most 3000 parts. -/
import Derived.Test.YtlahjnelghpmeaaH21c
namespace Go.Proofs.Ytlahjnelghpmeaa

theorem applyApart_holds : Rows.ApplyApartSaid := Go.AM.Ytlahjnelghpmeaa.applyApart_proved

end Go.Proofs.Ytlahjnelghpmeaa
