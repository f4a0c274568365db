/- Plain words: the law ScriptParses. -/
import Derived.Test.YtlnagjjldpgbpaaGreatDoorScG
set_option linter.unusedSimpArgs false
set_option linter.unusedVariables false
set_option linter.unusedSectionVars false
namespace Go.Wk
open Go.HL
variable [DM]
end Go.Wk
