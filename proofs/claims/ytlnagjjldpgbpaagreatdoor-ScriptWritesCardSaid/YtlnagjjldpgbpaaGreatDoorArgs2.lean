/- Readings of a law's arguments, in the plain words of the mirrors. -/
import Derived.Test.YtlnagjjldpgbpaaGreatDoorArgs
import Derived.Test.YtlnagjjldpgbpaaGreatDoorWk
set_option linter.unusedSimpArgs false
set_option linter.unusedVariables false
set_option linter.unusedSectionVars false
namespace Go.Wk
open Go.HL
variable [DM]
variable {P : Program} {t : TypeId} {α β : Type}
theorem Yj (ht : P.underlying t = some (.int .i64)) : Rd P t encI (fun _ n => I64 n) :=
  Rd.imp (UF ht) id (fun _ => rfl) (fun _ n h => by simpa [okK, IntKind.min, IntKind.max, IntKind.signed, IntKind.bits] using h)
theorem ae3 {k : IntKind} (ht : P.underlying t = some (.int k)) : Rd P t (Fh k) (fun _ n => k.min <= n /\ n <= k.max) :=
  Rd.imp (UF ht) id (fun _ => rfl) (fun _ n h => h)
theorem aaw (b : ByteArray) : b = bs b.data.toList := by cases b; simp [bs]
theorem abJ (ht : P.underlying t = some .string) : Rd P t kS (fun _ s => s.length <= maxLen) :=
  Rd.imp (abI ht) (fun b => b.data.toList) (fun b => congrArg (fun x => [Value.string x]) (aaw b)) (fun _ b h => by show b.data.toList.length <= maxLen; rw [Array.length_toList]; exact h)
end Go.Wk
