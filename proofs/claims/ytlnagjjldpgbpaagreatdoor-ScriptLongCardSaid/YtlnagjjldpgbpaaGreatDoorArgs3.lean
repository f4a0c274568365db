/- Readings of a law's arguments: arrays of bytes. -/
import Derived.Test.YtlnagjjldpgbpaaGreatDoorArgs2
import Derived.Test.YtlnagjjldpgbpaaGreatDoorArr
set_option linter.unusedSimpArgs false
set_option linter.unusedVariables false
set_option linter.unusedSectionVars false
namespace Go.Wk
open Go.HL
variable [DM]
variable {P : Program} {t : TypeId}
end Go.Wk
