/- Structs held against each other (printed by seq.py). -/
import Derived.Test.YtcddclkccpfdkaaDoorFa
set_option linter.unusedSimpArgs false
set_option linter.unusedVariables false
namespace Go.Proofs.YtcddclkccpfdkaaDoor.EV
open Go.RowKit
open Classical
end Go.Proofs.YtcddclkccpfdkaaDoor.EV
