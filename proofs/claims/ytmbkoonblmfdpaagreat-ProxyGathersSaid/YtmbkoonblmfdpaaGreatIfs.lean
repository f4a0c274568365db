/- A text as an interface. (Text Strs has it too.) -/
import Derived.Test.YtmbkoonblmfdpaaGreatOps
set_option linter.unusedSimpArgs false
set_option linter.unusedVariables false
set_option linter.unusedSectionVars false
namespace Go.Wk
open Go.HL
variable [DM]
theorem q_mkIfaceS {P : Program} {f : Slots} {h : Heap} {ty : TypeId} {xt : TypeId} {x : Operand} {v : Value} (ht : P.underlying xt = some .string) (hx : ev f x = v) : QV P (.makeInterface xt x) ty f h (.iface xt v) := by
  intro dst pos after guard w _
  simp [execOp, Instr.makeInterface, hx, run_underlying ht, go_sem]
end Go.Wk
