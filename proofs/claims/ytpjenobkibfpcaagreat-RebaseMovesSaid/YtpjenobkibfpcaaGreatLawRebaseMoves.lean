/- Of any two edits what the program leaves of each behind the other is, as it is written, what the document says, or the error is the same. No conditions. -/
import Derived.Test.YtpjenobkibfpcaaGreatYH30
namespace Go.Proofs.YtpjenobkibfpcaaGreat

theorem rebaseMoves_holds : Rows.RebaseMovesSaid := Go.AM.YtpjenobkibfpcaaGreat.rebaseMoves_proved

end Go.Proofs.YtpjenobkibfpcaaGreat
