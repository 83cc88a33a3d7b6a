/- Any segments, hostile or not, mean something within any limits just if the document says so, and weigh what it says, else the first error is its, of a Weight of at most 3000. -/
import Derived.Test.YthokdjgpdonhgaaH10a
namespace Go.Proofs.Ythokdjgpdonhgaa

theorem validChecks_holds : Rows.ValidChecksSaid := Go.AM.Ythokdjgpdonhgaa.validChecks_proved

end Go.Proofs.Ythokdjgpdonhgaa
