/- The law NormalWrites holds: both ways of writing an edit write the same -/
import Derived.Test.YtlahjnelghpmeaaH22a
namespace Go.Proofs.Ytlahjnelghpmeaa

theorem normalWrites_holds : Rows.NormalWritesSaid := Go.AM.Ytlahjnelghpmeaa.normalWrites_proved

end Go.Proofs.Ytlahjnelghpmeaa
