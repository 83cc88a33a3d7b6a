/- What is encoded of a tree means just that, and is its own words: for every tree the law's function returns true. -/
import Derived.Test.YthokdjgpdonhgaaH12d
namespace Go.Proofs.Ythokdjgpdonhgaa

theorem canonBack_holds : Rows.CanonBackSaid := Go.AM.Ythokdjgpdonhgaa.canonBack_proved

end Go.Proofs.Ythokdjgpdonhgaa
