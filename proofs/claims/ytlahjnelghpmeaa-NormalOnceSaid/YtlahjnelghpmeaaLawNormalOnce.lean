/- The law NormalOnce holds: what is written is written as it is, and has no more parts -/
import Derived.Test.YtlahjnelghpmeaaH22b
namespace Go.Proofs.Ytlahjnelghpmeaa

theorem normalOnce_holds : Rows.NormalOnceSaid := Go.AM.Ytlahjnelghpmeaa.normalOnce_proved

end Go.Proofs.Ytlahjnelghpmeaa
