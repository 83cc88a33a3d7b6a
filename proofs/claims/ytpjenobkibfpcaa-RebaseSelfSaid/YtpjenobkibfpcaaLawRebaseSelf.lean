/- Of an edit and itself nothing is left, behind Same all is left, and of Same nothing: for every edit the law's function returns true. -/
import Derived.Test.YtpjenobkibfpcaaH30b
namespace Go.Proofs.Ytpjenobkibfpcaa

theorem rebaseSelf_holds : Rows.RebaseSelfSaid := Go.AM.Ytpjenobkibfpcaa.rebaseSelf_proved

end Go.Proofs.Ytpjenobkibfpcaa
