/- The tree of a bundle is what the document says; read again it is the bundle, its edits as they are written; and whatever tree is read, both readings agree. No conditions. -/
import Derived.Test.YtfapacabjkhepaaGreatWH44b
namespace Go.Proofs.YtfapacabjkhepaaGreat

theorem bundleTrees_holds : Rows.BundleTreesSaid := Go.AM.YtfapacabjkhepaaGreat.bundleTrees_proved

end Go.Proofs.YtfapacabjkhepaaGreat
