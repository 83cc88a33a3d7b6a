/- In any segments, from any word on, along any path of kids, each value, or error, is the document's. -/
import Derived.Test.YthokdjgpdonhgaaH09a
namespace Go.Proofs.Ythokdjgpdonhgaa

theorem readerWalks_holds : Rows.ReaderWalksSaid := Go.AM.Ythokdjgpdonhgaa.readerWalks_proved

end Go.Proofs.Ythokdjgpdonhgaa
