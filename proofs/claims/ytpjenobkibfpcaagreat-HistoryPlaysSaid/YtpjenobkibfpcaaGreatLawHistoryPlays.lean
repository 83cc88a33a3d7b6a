/- whatever is done, undone, redone and dropped, the history has, and answers, what the document says. -/
import Derived.Test.YtpjenobkibfpcaaGreatYH42e
namespace Go.Proofs.YtpjenobkibfpcaaGreat

theorem historyPlays_holds : Rows.HistoryPlaysSaid := Go.AM.YtpjenobkibfpcaaGreat.historyPlays_proved

end Go.Proofs.YtpjenobkibfpcaaGreat
