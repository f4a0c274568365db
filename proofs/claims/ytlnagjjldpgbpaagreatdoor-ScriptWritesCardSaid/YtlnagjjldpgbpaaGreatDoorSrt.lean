/- The library's sorts of cells (slices.Sort at ints and strings; slices.SortFunc at elements of one cell), over things owned. -/
import Derived.Test.YtlnagjjldpgbpaaGreatDoorFn
import Derived.Shelf.SortM.Plain
import Derived.Shelf.SortM.SortNone
import Derived.Shelf.SlSortCmp.Whole1
set_option linter.unusedSimpArgs false
set_option linter.unusedVariables false
set_option linter.unusedSectionVars false
namespace Go.Wk
open Go.HL
variable [DM]
open Go.Shelf Go.RowKit Go.Lib Go.Sort Go.Proofs
variable {P : Program} {ρ : Ren} {α : Type} [Inhabited α]
end Go.Wk
