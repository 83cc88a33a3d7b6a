/- The square closes: on every tree on which two edits are both defined, each, left behind the other one, makes the same of what the other made: for all of them the law's function returns true. -/
import Derived.Test.YtpjenobkibfpcaaH30c
namespace Go.Proofs.Ytpjenobkibfpcaa

theorem rebaseSquare_holds : Rows.RebaseSquareSaid := Go.AM.Ytpjenobkibfpcaa.rebaseSquare_proved

end Go.Proofs.Ytpjenobkibfpcaa
