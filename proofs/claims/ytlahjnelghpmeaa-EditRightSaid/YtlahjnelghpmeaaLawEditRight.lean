/- The law EditRight holds: both ways of telling whether an edit is right, its parts and its lengths agree -/
import Derived.Test.YtlahjnelghpmeaaH20a
namespace Go.Proofs.Ytlahjnelghpmeaa

theorem editRight_holds : Rows.EditRightSaid := Go.AM.Ytlahjnelghpmeaa.editRight_proved

end Go.Proofs.Ytlahjnelghpmeaa
