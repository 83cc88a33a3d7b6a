/- The tree of a bundle behind any number of edits, whether it is right, and what leads from one tree to another one, are as the document says, whatever the bundle and the places. No conditions. -/
import Derived.Test.YtfapacabjkhepaaGreatWH44
namespace Go.Proofs.YtfapacabjkhepaaGreat

theorem bundleAt_holds : Rows.BundleAtSaid := Go.AM.YtfapacabjkhepaaGreat.bundleAt_proved

end Go.Proofs.YtfapacabjkhepaaGreat
