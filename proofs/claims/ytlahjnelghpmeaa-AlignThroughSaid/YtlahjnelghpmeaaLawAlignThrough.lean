/- The steps of two edits that go through one list are laid side by side, kid by kid, as the document says, or there are not as many kids. -/
import Derived.Test.YtlahjnelghpmeaaH24a
namespace Go.Proofs.Ytlahjnelghpmeaa

theorem alignThrough_holds : Rows.AlignThroughSaid := Go.AM.Ytlahjnelghpmeaa.alignThrough_proved

end Go.Proofs.Ytlahjnelghpmeaa
