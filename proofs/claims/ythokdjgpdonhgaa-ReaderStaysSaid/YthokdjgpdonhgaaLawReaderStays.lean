/- Reading changes nothing, and the root is what word 0 of segment 0 means. -/
import Derived.Test.YthokdjgpdonhgaaH09b
namespace Go.Proofs.Ythokdjgpdonhgaa

theorem readerStays_holds : Rows.ReaderStaysSaid := Go.AM.Ythokdjgpdonhgaa.readerStays_proved

end Go.Proofs.Ythokdjgpdonhgaa
