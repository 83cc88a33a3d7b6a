/- FocusLeaves of chapter 40 answers true, and does not panic, whatever tree, path, edit and other path it is handed. No conditions. -/
import Derived.Test.YtpjenobkibfpcaaH40c
namespace Go.Proofs.Ytpjenobkibfpcaa

theorem focusLeaves_holds : Rows.FocusLeavesSaid := Go.AM.Ytpjenobkibfpcaa.focusLeaves_proved

end Go.Proofs.Ytpjenobkibfpcaa
