/- Any limits are the document's. -/
import Derived.Test.YthokdjgpdonhgaaH10b
namespace Go.Proofs.Ythokdjgpdonhgaa

theorem validLimits_holds : Rows.ValidLimitsSaid := Go.AM.Ythokdjgpdonhgaa.validLimits_proved

end Go.Proofs.Ythokdjgpdonhgaa
