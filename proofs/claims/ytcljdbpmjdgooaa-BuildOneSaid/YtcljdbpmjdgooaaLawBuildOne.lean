/- Where one segment has room for all, it holds the tree's own words. -/
import Derived.Test.YtcljdbpmjdgooaaEH2
namespace Go.Proofs.Ytcljdbpmjdgooaa

theorem buildOne_holds : Rows.BuildOneSaid := Go.AM.Ytcljdbpmjdgooaa.buildOne_proved

end Go.Proofs.Ytcljdbpmjdgooaa
