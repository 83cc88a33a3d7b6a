/- Any tree has the words that the document says, or none, with any limit: for every tree and every limit the law's function returns true. -/
import Derived.Test.YthokdjgpdonhgaaH12a
namespace Go.Proofs.Ythokdjgpdonhgaa

theorem canonEncodes_holds : Rows.CanonEncodesSaid := Go.AM.Ythokdjgpdonhgaa.canonEncodes_proved

end Go.Proofs.Ythokdjgpdonhgaa
