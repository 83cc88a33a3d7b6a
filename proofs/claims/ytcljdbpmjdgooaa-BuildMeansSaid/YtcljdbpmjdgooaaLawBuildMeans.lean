/- What is built means the tree, however small the segments are. -/
import Derived.Test.YtcljdbpmjdgooaaEH3
namespace Go.Proofs.Ytcljdbpmjdgooaa

theorem buildMeans_holds : Rows.BuildMeansSaid := Go.AM.Ytcljdbpmjdgooaa.buildMeans_proved

end Go.Proofs.Ytcljdbpmjdgooaa
