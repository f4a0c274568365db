/- Strings, in order; a map that is gone through, looked into. -/
import Derived.Test.YtmbkoonblmfdpaaGreatOwn3
import Derived.Test.YtmbkoonblmfdpaaGreatSrt
import Derived.Test.YtmbkoonblmfdpaaGreatOpsBits
set_option linter.unusedSimpArgs false
set_option linter.unusedVariables false
set_option linter.unusedSectionVars false
namespace Go.Wk
open Go.HL
variable [DM]
end Go.Wk
