/- DIFF AND COMPOSITION: from a first tree to a second one, and from that to a third one, made one, leads from the first to the third one. -/
import Derived.Test.YtnfbomhidainjaaGreatOH1
namespace Go.Proofs.YtnfbomhidainjaaGreat

theorem topTriangle_holds : Rows.TopTriangleSaid := Go.AM.YtnfbomhidainjaaGreat.topTriangle_proved

end Go.Proofs.YtnfbomhidainjaaGreat
