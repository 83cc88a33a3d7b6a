/- A message means the same with segments behind it that nothing points to (the arguments being of bulk at most 1048576). -/
import Derived.Test.YthokdjgpdonhgaaH11c
namespace Go.Proofs.Ythokdjgpdonhgaa

theorem unfoldMovesUpto_holds : Rows.UnfoldMovesUptoSaid := Go.AM.Ythokdjgpdonhgaa.unfoldMovesUpto_proved

end Go.Proofs.Ythokdjgpdonhgaa
