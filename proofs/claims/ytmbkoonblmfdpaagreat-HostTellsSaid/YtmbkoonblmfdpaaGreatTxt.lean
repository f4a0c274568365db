/- The library's functions of texts, over things owned. -/
import Derived.Test.YtmbkoonblmfdpaaGreatArr
import Derived.Shelf.Small.Strs
import Derived.Shelf.Strings.OnBuilder
import Derived.Shelf.Strconv.Itoa3
set_option linter.unusedSimpArgs false
set_option linter.unusedVariables false
set_option linter.unusedSectionVars false
namespace Go.Wk
open Go.HL Go.Shelf Go.Proofs
variable [DM]
variable {P : Program} {ρ : Ren}
def H5 (a b : Str) : Int := Lib.compareBytes a b
theorem VK (L : Lays.n106 P ρ) (a b : Str) (h : Heap) : HC P (ρ.f 106) #[.string (bs a), .string (bs b)] h fun u h' => u = .int .i64 (H5 a b) /\ h' = h :=
  HC.of_same fun w => Any.strings_Compare L (bs a) (bs b) w
end Go.Wk
