/- On any tree on which two edits are defined, each, left behind the other, makes the same of what the other made: for every pair of edits and every tree the law's function returns true. -/
import Derived.Test.YtpjenobkibfpcaaH30c
namespace Go.Proofs.Ytpjenobkibfpcaa

theorem rebaseSquare_holds : Rows.RebaseSquareSaid := Go.AM.Ytpjenobkibfpcaa.rebaseSquare_proved

end Go.Proofs.Ytpjenobkibfpcaa
