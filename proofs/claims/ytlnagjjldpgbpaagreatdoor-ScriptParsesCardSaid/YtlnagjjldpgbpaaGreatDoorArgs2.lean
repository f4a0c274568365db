/- Readings of a law's arguments, in the plain words of the mirrors. -/
import Derived.Test.YtlnagjjldpgbpaaGreatDoorArgs
import Derived.Test.YtlnagjjldpgbpaaGreatDoorWk
set_option linter.unusedSimpArgs false
set_option linter.unusedVariables false
set_option linter.unusedSectionVars false
namespace Go.Wk
open Go.HL
variable [DM]
variable {P : Program} {t : TypeId} {α β : Type}
theorem bbf (b : ByteArray) : b = bs b.data.toList := by cases b; simp [bs]
theorem bh3 (ht : P.underlying t = some .string) : Rd P t abt (fun _ s => s.length <= maxLen) :=
  Rd.imp (bdb ht) (fun b => b.data.toList) (fun b => congrArg (fun x => [Value.string x]) (bbf b)) (fun _ b h => by show b.data.toList.length <= maxLen; rw [Array.length_toList]; exact h)
end Go.Wk
