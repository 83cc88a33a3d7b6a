/- Two trees have the same words just if they mean the same: for every two trees the law's function returns true. -/
import Derived.Test.YthokdjgpdonhgaaH12b
namespace Go.Proofs.Ythokdjgpdonhgaa

theorem canonOne_holds : Rows.CanonOneSaid := Go.AM.Ythokdjgpdonhgaa.canonOne_proved

end Go.Proofs.Ythokdjgpdonhgaa
