/- Any words are the tree that the document says, if they are just its own, or the error: for all words and all limits the law's function returns true. -/
import Derived.Test.YthokdjgpdonhgaaH12c
namespace Go.Proofs.Ythokdjgpdonhgaa

theorem canonDecodes_holds : Rows.CanonDecodesSaid := Go.AM.Ythokdjgpdonhgaa.canonDecodes_proved

end Go.Proofs.Ythokdjgpdonhgaa
