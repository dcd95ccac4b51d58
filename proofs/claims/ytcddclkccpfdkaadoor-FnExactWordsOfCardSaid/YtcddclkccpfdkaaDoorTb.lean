/- The library's tables that the row lists. -/
import Derived.Test.YtcddclkccpfdkaaDoorEv10
import Derived.Lib.LaidTab
import Derived.Lib.LaidTab
namespace Go.Proofs.YtcddclkccpfdkaaDoor.EV
def tabList : List (String × IntKind × List Int) := []
end Go.Proofs.YtcddclkccpfdkaaDoor.EV
