/- Of any tree, any path and any edit the edit that does it there is the document's, or there is none (of right trees and edits of at most 3000 parts). -/
import Derived.Test.YtpjenobkibfpcaaH40a
namespace Go.Proofs.Ytpjenobkibfpcaa

theorem focusWraps_holds : Rows.FocusWrapsSaid := Go.AM.Ytpjenobkibfpcaa.focusWraps_proved

end Go.Proofs.Ytpjenobkibfpcaa
