/- Bits: and, or, xor, shifts, at uint64 by natural numbers, and at any kind. -/
import Derived.Test.YtmbkoonblmfdpaaGreatOps3
import Derived.Laws.Bits64
import Derived.Laws.Bits64b
set_option linter.unusedSimpArgs false
set_option linter.unusedVariables false
set_option linter.unusedSectionVars false
namespace Go.HL
variable [DM]
variable {P : Program} {f : kT} {h : Heap} {ty : TypeId}
theorem afq {op : BinOp} {t t2 : TypeId} {x y : Operand} {k : IntKind} {a b : Int} (ho : op = .and ∨ op = .or ∨ op = .xor) (hx : ev f x = .int k a) (hy : ev f y = .int k b) :
    QV P (.binOp op t x y t2) ty f h (.int k (bits op k a b)) := by
  refine FY hx hy ?_ (fun w => ?_)
  · rcases ho with rfl | rfl | rfl <;> simp
  · rcases ho with rfl | rfl | rfl <;> simp [binOp, Op.intBits, go_sem] <;> (cases k <;> rfl)
theorem aez {t t2 : TypeId} {x y : Operand} {k k' : IntKind} {a b c : Int} (hx : ev f x = .int k a) (hy : ev f y = .int k' b) (h0 : 0 <= b) (hc : a.fdiv (2 ^ (min b.toNat k.bits)) = c) :
    QV P (.binOp .shr t x y t2) ty f h (.int k c) := by
  intro dst pos after guard w _
  have hg : (eqGuard .shr t x y (.int k a) (.int k' b)).run P w = .ok () w := by unfold eqGuard; simp [go_sem]
  have hb : ¬ b < 0 := by omega
  simp [execOp, hx, hy, hg, binOp, Op.shift, hb, go_sem]
  exact hc
end Go.HL
