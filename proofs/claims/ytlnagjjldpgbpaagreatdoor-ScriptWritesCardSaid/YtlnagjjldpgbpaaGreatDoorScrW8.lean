/- Walks of scripts. -/
import Derived.Test.YtlnagjjldpgbpaaGreatDoorScrW7
set_option linter.unusedSimpArgs false
set_option linter.unusedVariables false
set_option linter.unusedSectionVars false
namespace Go.Wk
open Go.HL
open Go.Proofs hiding encI
variable [DM]
end Go.Wk
