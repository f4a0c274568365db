/- Strings, in order; a map that is gone through, looked into. -/
import Derived.Test.YtfoebjicglgklaaGreatOwn3
import Derived.Test.YtfoebjicglgklaaGreatSrt
import Derived.Test.YtfoebjicglgklaaGreatOpsBits
set_option linter.unusedSimpArgs false
set_option linter.unusedVariables false
set_option linter.unusedSectionVars false
namespace Go.Wk
open Go.HL
variable [DM]
theorem less_eq : ∀ (x y : Str), Op.bytesLess x y = decide (x < y)
  | [], [] => by simp [Op.bytesLess]
  | _ :: _, [] => by simp [Op.bytesLess]
  | [], _ :: _ => by simp [Op.bytesLess]
  | a :: x, b :: y => by
    rw [Op.bytesLess, less_eq x y, Bool.eq_iff_iff]
    simp [List.cons_lt_cons_iff]
theorem beqd (a b : Str) : (a == b) = decide (a = b) := by rw [Bool.eq_iff_iff]; simp
section
variable {P : Program} {f : Slots} {h : Heap} {ty : TypeId} {t t2 : TypeId} {x y : Operand} {a b : Str}
theorem q_lssT (hx : ev f x = .string (bs a)) (hy : ev f y = .string (bs b)) : QV P (.binOp .lss t x y t2) ty f h (.bool (decide (a < b))) :=
  q_str (by simp) hx hy (fun w => by simp [Op.stringOp, go_sem, bs_toList, less_eq])
theorem q_gtrT (hx : ev f x = .string (bs a)) (hy : ev f y = .string (bs b)) : QV P (.binOp .gtr t x y t2) ty f h (.bool (!decide (a < b ∨ a = b))) :=
  q_str (by simp) hx hy (fun w => by simp [Op.stringOp, go_sem, bs_toList, less_eq]; rw [beqd])
end
end Go.Wk
