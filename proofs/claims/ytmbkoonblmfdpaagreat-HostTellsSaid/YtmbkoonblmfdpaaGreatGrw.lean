/- slices.Grow of nothing: an own slice without a thing in it. -/
import Derived.Test.YtmbkoonblmfdpaaGreatRo
import Derived.Shelf.Spec.SlicesGrow
import Derived.Laws.AppendOwn
set_option linter.unusedSimpArgs false
set_option linter.unusedVariables false
set_option linter.unusedSectionVars false
namespace Go.Wk
open Go.HL
open Go.Proofs Go.Shelf
variable [DM]
end Go.Wk
