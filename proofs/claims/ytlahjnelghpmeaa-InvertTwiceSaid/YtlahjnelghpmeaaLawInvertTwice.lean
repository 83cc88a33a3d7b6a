/- The law InvertTwice holds: what is turned round twice is written as the edit itself -/
import Derived.Test.YtlahjnelghpmeaaH23a
namespace Go.Proofs.Ytlahjnelghpmeaa

theorem invertTwice_holds : Rows.InvertTwiceSaid := Go.AM.Ytlahjnelghpmeaa.invertTwice_proved

end Go.Proofs.Ytlahjnelghpmeaa
