/- A value that is within limits means what the document says, as it stands, of a Weight of at most 3000. -/
import Derived.Test.YthokdjgpdonhgaaH11b
namespace Go.Proofs.Ythokdjgpdonhgaa

theorem unfoldValues_holds : Rows.UnfoldValuesSaid := Go.AM.Ythokdjgpdonhgaa.unfoldValues_proved

end Go.Proofs.Ythokdjgpdonhgaa
