/- The parts of an edit, made one again, are the edit: what the law asks of splitting and joining holds of every edit and tree. No conditions. -/
import Derived.Test.YtpjenobkibfpcaaGreatYH41b
namespace Go.Proofs.YtpjenobkibfpcaaGreat

theorem splitJoins_holds : Rows.SplitJoinsSaid := Go.AM.YtpjenobkibfpcaaGreat.splitJoins_proved

end Go.Proofs.YtpjenobkibfpcaaGreat
