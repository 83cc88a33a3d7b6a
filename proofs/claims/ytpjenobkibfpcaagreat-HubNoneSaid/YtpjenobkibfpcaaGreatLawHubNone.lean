/- nil hubs and desks have nothing, and do nothing: for every deed the law's function returns true. -/
import Derived.Test.YtpjenobkibfpcaaGreatYH43b
namespace Go.Proofs.YtpjenobkibfpcaaGreat

theorem hubNone_holds : Rows.HubNoneSaid := Go.AM.YtpjenobkibfpcaaGreat.hubNone_proved

end Go.Proofs.YtpjenobkibfpcaaGreat
