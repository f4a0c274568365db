/- Strings, in order; a map that is gone through, looked into. -/
import Derived.Test.YtmbkoonblmfdpaaOwn3
import Derived.Test.YtmbkoonblmfdpaaSrt
import Derived.Test.YtmbkoonblmfdpaaOpsBits
set_option linter.unusedSimpArgs false
set_option linter.unusedVariables false
set_option linter.unusedSectionVars false
namespace Go.Wk
open Go.HL
variable [DM]
end Go.Wk
