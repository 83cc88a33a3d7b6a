/- Of a right bundle what leads from behind some edits to behind others leads from the one tree to the other one, as the law asks. No conditions. -/
import Derived.Test.YtfapacabjkhepaaVH44
namespace Go.Proofs.Ytfapacabjkhepaa

theorem bundleLeads_holds : Rows.BundleLeadsSaid := Go.AM.Ytfapacabjkhepaa.bundleLeads_proved

end Go.Proofs.Ytfapacabjkhepaa
