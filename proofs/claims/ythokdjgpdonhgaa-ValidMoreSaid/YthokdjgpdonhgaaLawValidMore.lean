/- With greater limits what is valid stays so, and weighs the same, of a Weight of at most 3000. -/
import Derived.Test.YthokdjgpdonhgaaH10c
namespace Go.Proofs.Ythokdjgpdonhgaa

theorem validMore_holds : Rows.ValidMoreSaid := Go.AM.Ythokdjgpdonhgaa.validMore_proved

end Go.Proofs.Ythokdjgpdonhgaa
