/- Of any list of data that is read (the numbers and the other arguments being of bulk at most 1048576), each number is the document's. -/
import Derived.Test.YthokdjgpdonhgaaH09c
namespace Go.Proofs.Ythokdjgpdonhgaa

theorem readerListsUpto_holds : Rows.ReaderListsUptoSaid := Go.AM.Ythokdjgpdonhgaa.readerListsUpto_proved

end Go.Proofs.Ythokdjgpdonhgaa
