/- The law EditEqual holds: both ways of telling whether edits are equal agree -/
import Derived.Test.YtlahjnelghpmeaaH20c
namespace Go.Proofs.Ytlahjnelghpmeaa

theorem editEqual_holds : Rows.EditEqualSaid := Go.AM.Ytlahjnelghpmeaa.editEqual_proved

end Go.Proofs.Ytlahjnelghpmeaa
