/- Readings of a law's arguments, in the plain words of the mirrors. -/
import Derived.Test.YtmbkoonblmfdpaaGreatArgs
import Derived.Test.YtmbkoonblmfdpaaGreatWk
set_option linter.unusedSimpArgs false
set_option linter.unusedVariables false
set_option linter.unusedSectionVars false
namespace Go.Wk
open Go.HL
variable [DM]
variable {P : Program} {t : TypeId} {α β : Type}
theorem rd_I (ht : P.underlying t = some (.int .i64)) : Rd P t encI (fun _ n => I64 n) :=
  Rd.imp (rd_int ht) id (fun _ => rfl) (fun _ n h => by simpa [okK, IntKind.min, IntKind.max, IntKind.signed, IntKind.bits] using h)
end Go.Wk
