/- The library's functions of texts, over things owned. -/
import Derived.Test.YtjliljlmgepmpaaGreatArr
import Derived.Shelf.Small.Strs
import Derived.Shelf.Strings.OnBuilder
import Derived.Shelf.Strconv.Itoa3
set_option linter.unusedSimpArgs false
set_option linter.unusedVariables false
set_option linter.unusedSectionVars false
namespace Go.Wk
open Go.HL Go.Shelf Go.Proofs
variable [DM]
variable {P : Program} {ρ : Ren}
end Go.Wk
