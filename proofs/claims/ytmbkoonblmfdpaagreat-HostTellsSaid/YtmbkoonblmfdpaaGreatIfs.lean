/- A text as an interface. (Text Strs has it too.) -/
import Derived.Test.YtmbkoonblmfdpaaGreatOps
set_option linter.unusedSimpArgs false
set_option linter.unusedVariables false
set_option linter.unusedSectionVars false
namespace Go.Wk
open Go.HL
variable [DM]
end Go.Wk
