/- FocusDoes of chapter 40 answers true, and does not panic, whatever edit, tree and path it is handed. No conditions. -/
import Derived.Test.YtpjenobkibfpcaaH40b
namespace Go.Proofs.Ytpjenobkibfpcaa

theorem focusDoes_holds : Rows.FocusDoesSaid := Go.AM.Ytpjenobkibfpcaa.focusDoes_proved

end Go.Proofs.Ytpjenobkibfpcaa
