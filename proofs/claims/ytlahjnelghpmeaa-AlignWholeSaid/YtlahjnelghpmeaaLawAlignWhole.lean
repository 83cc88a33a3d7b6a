/- Pieces are as large as can be: each one of both ends a step of one side. -/
import Derived.Test.YtlahjnelghpmeaaH24b
namespace Go.Proofs.Ytlahjnelghpmeaa

theorem alignWhole_holds : Rows.AlignWholeSaid := Go.AM.Ytlahjnelghpmeaa.alignWhole_proved

end Go.Proofs.Ytlahjnelghpmeaa
