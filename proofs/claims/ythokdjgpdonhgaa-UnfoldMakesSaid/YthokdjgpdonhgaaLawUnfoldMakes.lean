/- Any segments mean the tree that the document says, within any limits, or the error, of a Weight of at most 3000. -/
import Derived.Test.YthokdjgpdonhgaaH11a
namespace Go.Proofs.Ythokdjgpdonhgaa

theorem unfoldMakes_holds : Rows.UnfoldMakesSaid := Go.AM.Ythokdjgpdonhgaa.unfoldMakes_proved

end Go.Proofs.Ythokdjgpdonhgaa
