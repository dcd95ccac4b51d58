/- The library's tables that the row lists. -/
import Derived.Test.YtiagpplidnfabaaDoorEv10
import Derived.Lib.LaidTab
import Derived.Lib.ItoaNum
namespace Go.Proofs.YtiagpplidnfabaaDoor.EV
def tabList : List (String × IntKind × List Int) := [("internal/strconv.uint64pow10", .u64, Lib.pow10Tab)]
end Go.Proofs.YtiagpplidnfabaaDoor.EV
