/- What is taken back, as often as can be, leads to the first tree, and done again, as often, to the one that was there: for every tree and every list of edits the law's function returns true. -/
import Derived.Test.YtpjenobkibfpcaaH42a
namespace Go.Proofs.Ytpjenobkibfpcaa

theorem historyBack_holds : Rows.HistoryBackSaid := Go.AM.Ytpjenobkibfpcaa.historyBack_proved

end Go.Proofs.Ytpjenobkibfpcaa
