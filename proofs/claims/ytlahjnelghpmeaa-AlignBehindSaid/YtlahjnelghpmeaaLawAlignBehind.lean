/- What comes of the steps of one edit, and what those of another one go through, are laid side by side, kid by kid, as the document says. -/
import Derived.Test.YtlahjnelghpmeaaH24c
namespace Go.Proofs.Ytlahjnelghpmeaa

theorem alignBehind_holds : Rows.AlignBehindSaid := Go.AM.Ytlahjnelghpmeaa.alignBehind_proved

end Go.Proofs.Ytlahjnelghpmeaa
