/- The law EditParts holds: what is in a right edit is right -/
import Derived.Test.YtlahjnelghpmeaaH20b
namespace Go.Proofs.Ytlahjnelghpmeaa

theorem editParts_holds : Rows.EditPartsSaid := Go.AM.Ytlahjnelghpmeaa.editParts_proved

end Go.Proofs.Ytlahjnelghpmeaa
