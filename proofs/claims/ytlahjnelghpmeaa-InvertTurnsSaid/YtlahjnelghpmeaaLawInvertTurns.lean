/- Any edit is turned round as the document says, and what comes of it is right, of right edits of at most 3000 parts. -/
import Derived.Test.YtlahjnelghpmeaaH23b
namespace Go.Proofs.Ytlahjnelghpmeaa

theorem invertTurns_holds : Rows.InvertTurnsSaid := Go.AM.Ytlahjnelghpmeaa.invertTurns_proved

end Go.Proofs.Ytlahjnelghpmeaa
