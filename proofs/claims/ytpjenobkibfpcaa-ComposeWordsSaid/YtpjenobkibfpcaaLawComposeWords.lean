/- Of any two edits of a word the one that does both is the document's, or there is none (of such as may be). -/
import Derived.Test.YtpjenobkibfpcaaH25b
namespace Go.Proofs.Ytpjenobkibfpcaa

theorem composeWords_holds : Rows.ComposeWordsSaid := Go.AM.Ytpjenobkibfpcaa.composeWords_proved

end Go.Proofs.Ytpjenobkibfpcaa
