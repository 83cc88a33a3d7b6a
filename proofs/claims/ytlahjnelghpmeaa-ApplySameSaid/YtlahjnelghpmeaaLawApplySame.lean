/- Same changes nothing, and Replace is defined on what means the one, and tells the other one, of right trees of at most 3000 parts. -/
import Derived.Test.YtlahjnelghpmeaaH21d
namespace Go.Proofs.Ytlahjnelghpmeaa

theorem applySame_holds : Rows.ApplySameSaid := Go.AM.Ytlahjnelghpmeaa.applySame_proved

end Go.Proofs.Ytlahjnelghpmeaa
