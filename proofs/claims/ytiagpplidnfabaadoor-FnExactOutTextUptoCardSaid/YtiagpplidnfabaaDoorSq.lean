/- Structs held against each other (printed by seq.py). -/
import Derived.Test.YtiagpplidnfabaaDoorFa
set_option linter.unusedSimpArgs false
set_option linter.unusedVariables false
namespace Go.Proofs.YtiagpplidnfabaaDoor.EV
open Go.RowKit
open Classical
end Go.Proofs.YtiagpplidnfabaaDoor.EV
