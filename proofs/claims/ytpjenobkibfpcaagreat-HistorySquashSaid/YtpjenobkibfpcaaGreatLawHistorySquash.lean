/- what is squashed leads from the first tree to the one that is there, whatever was done, taken back, and dropped (of the first 20 deeds, of a right tree that is no atom, and of edits and trees of at most 3000 parts). -/
import Derived.Test.YtpjenobkibfpcaaGreatYH42d
namespace Go.Proofs.YtpjenobkibfpcaaGreat

theorem historySquash_holds : Rows.HistorySquashSaid := Go.AM.YtpjenobkibfpcaaGreat.historySquash_proved

end Go.Proofs.YtpjenobkibfpcaaGreat
