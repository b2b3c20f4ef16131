/- A plain machine, sound for the given model, and contracts of functions over it, part 38: RN4. Nothing is assumed. -/
import Derived.Test.YtedbifiejciocaeGreatDoorRM3
set_option linter.unusedSimpArgs false
set_option linter.unusedVariables false
set_option linter.unusedSectionVars false
/- RN4 -/
namespace Go.PL
open Go Go.Proofs
set_option maxRecDepth 10000
set_option maxHeartbeats 4000000
set_option linter.unusedSimpArgs false
set_option linter.unusedVariables false
end Go.PL
