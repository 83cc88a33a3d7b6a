/- A nil history has nothing, and does nothing: for every deed the law's function returns true. -/
import Derived.Test.YtpjenobkibfpcaaGreatYH42c
namespace Go.Proofs.YtpjenobkibfpcaaGreat

theorem historyNone_holds : Rows.HistoryNoneSaid := Go.AM.YtpjenobkibfpcaaGreat.historyNone_proved

end Go.Proofs.YtpjenobkibfpcaaGreat
