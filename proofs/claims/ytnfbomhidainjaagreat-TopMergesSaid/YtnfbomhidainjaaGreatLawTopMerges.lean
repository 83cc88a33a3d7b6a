/- MERGE: what is merged without conflicts leads on: merged with either side once more, from the base on, it is merged as it is. -/
import Derived.Test.YtnfbomhidainjaaGreatOH2
namespace Go.Proofs.YtnfbomhidainjaaGreat

theorem topMerges_holds : Rows.TopMergesSaid := Go.AM.YtnfbomhidainjaaGreat.topMerges_proved

end Go.Proofs.YtnfbomhidainjaaGreat
