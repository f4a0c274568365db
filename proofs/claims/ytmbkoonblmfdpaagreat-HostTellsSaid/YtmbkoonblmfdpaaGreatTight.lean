/- Short names for the commonest steps. -/
import Derived.Test.YtmbkoonblmfdpaaGreatOps
set_option linter.unusedSimpArgs false
set_option linter.unusedVariables false
namespace Go.HL
variable [DM] {P : Program} {n : Nat} {ops : Array Oper} {rest : List Oper} {Q : kT -> Heap -> Prop} {f : kT} {h : Heap} {op : Op} {ty : TypeId}
theorem oV {dst pos after} (v : Value) (hr : QV P op ty f h v) (hd : yc n dst = true) (K : HO P n ops rest Q (FM f dst v) h) : HO P n ops (Oper.mk dst op ty pos after none :: rest) Q f h := HO.val ag hd hr K
theorem oM {dst pos after} {x : Operand} (v : Value) (hx : ev f x = v) (hd : yc n dst = true) (K : HO P n ops rest Q (FM f dst v) h) : HO P n ops (Oper.mk dst (.move x) ty pos after none :: rest) Q f h := HO.val ag hd (bV hx) K
theorem oA {dst pos after} {x : Operand} (v : Value) (hx : ev f x = v) (hd : yc n dst = true) (K : HO P n ops rest Q (FM f dst v) h) : HO P n ops (Oper.mk dst (.assign x) ty pos after none :: rest) Q f h := HO.val ag hd (jw hx) K
end Go.HL
