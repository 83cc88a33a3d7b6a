/- two edits that are sent at one version make the same tree, whoever is first, if none is refused; and if one is refused behind the other, so is the other behind the one (of a right tree, no atom, and of right, light edits, each of at most 3000 parts). -/
import Derived.Test.YtpjenobkibfpcaaGreatYH43a
namespace Go.Proofs.YtpjenobkibfpcaaGreat

theorem hubTurned_holds : Rows.HubTurnedSaid := Go.AM.YtpjenobkibfpcaaGreat.hubTurned_proved

end Go.Proofs.YtpjenobkibfpcaaGreat
