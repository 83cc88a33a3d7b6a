/- SplitDoes of chapter 41 answers true, and does not panic, whatever edit and tree it is handed. No conditions. -/
import Derived.Test.YtpjenobkibfpcaaH41a
namespace Go.Proofs.Ytpjenobkibfpcaa

theorem splitDoes_holds : Rows.SplitDoesSaid := Go.AM.Ytpjenobkibfpcaa.splitDoes_proved

end Go.Proofs.Ytpjenobkibfpcaa
