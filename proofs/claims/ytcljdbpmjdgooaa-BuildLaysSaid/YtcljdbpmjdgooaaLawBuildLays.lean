/- Any tree is laid into segments of any size as the document says, or there is no room. -/
import Derived.Test.YtcljdbpmjdgooaaEH1
namespace Go.Proofs.Ytcljdbpmjdgooaa

theorem buildLays_holds : Rows.BuildLaysSaid := Go.AM.Ytcljdbpmjdgooaa.buildLays_proved

end Go.Proofs.Ytcljdbpmjdgooaa
