/- Which of two edits is asked first is no matter when each is moved behind the other one: for every pair of edits the law's function returns true. -/
import Derived.Test.YtpjenobkibfpcaaH30a
namespace Go.Proofs.Ytpjenobkibfpcaa

theorem rebaseTurned_holds : Rows.RebaseTurnedSaid := Go.AM.Ytpjenobkibfpcaa.rebaseTurned_proved

end Go.Proofs.Ytpjenobkibfpcaa
