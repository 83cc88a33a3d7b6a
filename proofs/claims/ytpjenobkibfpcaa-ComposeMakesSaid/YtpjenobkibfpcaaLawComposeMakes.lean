/- Of any two edits the one that does both is the document's, or there is none (of right edits of at most 3000 parts). -/
import Derived.Test.YtpjenobkibfpcaaH25a
namespace Go.Proofs.Ytpjenobkibfpcaa

theorem composeMakes_holds : Rows.ComposeMakesSaid := Go.AM.Ytpjenobkibfpcaa.composeMakes_proved

end Go.Proofs.Ytpjenobkibfpcaa
