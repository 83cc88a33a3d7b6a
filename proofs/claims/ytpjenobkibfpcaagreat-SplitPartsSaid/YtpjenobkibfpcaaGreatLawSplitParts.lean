/- SplitParts of chapter 41 answers true, and does not panic, whatever edit it is handed. No conditions. -/
import Derived.Test.YtpjenobkibfpcaaGreatYH41a
namespace Go.Proofs.YtpjenobkibfpcaaGreat

theorem splitParts_holds : Rows.SplitPartsSaid := Go.AM.YtpjenobkibfpcaaGreat.splitParts_proved

end Go.Proofs.YtpjenobkibfpcaaGreat
