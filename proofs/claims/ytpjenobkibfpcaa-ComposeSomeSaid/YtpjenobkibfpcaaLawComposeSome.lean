/- ComposeSome of chapter 25 answers true, and does not panic, whatever two edits it is handed. No conditions. -/
import Derived.Test.YtpjenobkibfpcaaH25c
namespace Go.Proofs.Ytpjenobkibfpcaa

theorem composeSome_holds : Rows.ComposeSomeSaid := Go.AM.Ytpjenobkibfpcaa.composeSome_proved

end Go.Proofs.Ytpjenobkibfpcaa
