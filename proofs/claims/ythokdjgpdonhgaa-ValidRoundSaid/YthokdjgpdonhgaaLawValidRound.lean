/- A pointer that goes round to itself is too deep, a list of nothing with many kids too heavy, whatever the limits are. -/
import Derived.Test.YthokdjgpdonhgaaH10d
namespace Go.Proofs.Ythokdjgpdonhgaa

theorem validRound_holds : Rows.ValidRoundSaid := Go.AM.Ythokdjgpdonhgaa.validRound_proved

end Go.Proofs.Ythokdjgpdonhgaa
