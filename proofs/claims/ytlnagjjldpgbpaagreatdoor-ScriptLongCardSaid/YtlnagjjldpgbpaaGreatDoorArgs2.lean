/- Readings of a law's arguments, in the plain words of the mirrors. -/
import Derived.Test.YtlnagjjldpgbpaaGreatDoorArgs
import Derived.Test.YtlnagjjldpgbpaaGreatDoorWk
set_option linter.unusedSimpArgs false
set_option linter.unusedVariables false
set_option linter.unusedSectionVars false
namespace Go.Wk
open Go.HL
variable [DM]
variable {P : Program} {t : TypeId} {α β : Type}
theorem acU {k : IntKind} (ht : P.underlying t = some (.int k)) : Rd P t (EE k) (fun _ n => k.min <= n /\ n <= k.max) :=
  Rd.imp (ZI ht) id (fun _ => rfl) (fun _ n h => h)
end Go.Wk
