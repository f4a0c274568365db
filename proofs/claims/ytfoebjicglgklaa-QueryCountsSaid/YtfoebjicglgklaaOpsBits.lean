/- Bits: and, or, xor, shifts, at uint64 by natural numbers, and at any kind. -/
import Derived.Test.YtfoebjicglgklaaOps3
import Derived.Laws.Bits64
import Derived.Laws.Bits64b
set_option linter.unusedSimpArgs false
set_option linter.unusedVariables false
set_option linter.unusedSectionVars false
namespace Go.HL
variable [DM]
variable {P : Program} {f : Slots} {h : Heap} {ty : TypeId}
theorem q_bits {op : BinOp} {t t2 : TypeId} {x y : Operand} {k : IntKind} {a b : Int} (ho : op = .and ∨ op = .or ∨ op = .xor) (hx : ev f x = .int k a) (hy : ev f y = .int k b) :
    QV P (.binOp op t x y t2) ty f h (.int k (bits op k a b)) := by
  refine run_int hx hy ?_ (fun w => ?_)
  · rcases ho with rfl | rfl | rfl <;> simp
  · rcases ho with rfl | rfl | rfl <;> simp [binOp, Op.intBits, go_sem] <;> (cases k <;> rfl)
theorem q_xor64 {t t2 : TypeId} {x y : Operand} {a b c : Nat} (hx : ev f x = .int .u64 (a : Int)) (hy : ev f y = .int .u64 (b : Int)) (ha : a < 18446744073709551616) (hb : b < 18446744073709551616) (hc : a ^^^ b = c) :
    QV P (.binOp .xor t x y t2) ty f h (.int .u64 (c : Int)) := (q_bits (by simp) hx hy).of_eq (by rw [bits_xor_u64_nat a b ha hb, hc])
theorem q_and64 {t t2 : TypeId} {x y : Operand} {a b c : Nat} (hx : ev f x = .int .u64 (a : Int)) (hy : ev f y = .int .u64 (b : Int)) (ha : a < 18446744073709551616) (hb : b < 18446744073709551616) (hc : a &&& b = c) :
    QV P (.binOp .and t x y t2) ty f h (.int .u64 (c : Int)) := (q_bits (by simp) hx hy).of_eq (by rw [bits_and_u64_nat a b ha hb, hc])
theorem q_shl {t t2 : TypeId} {x y : Operand} {k k' : IntKind} {a b c : Int} (hx : ev f x = .int k a) (hy : ev f y = .int k' b) (h0 : 0 ≤ b) (hc : k.wrap (a * 2 ^ (min b.toNat k.bits)) = c) :
    QV P (.binOp .shl t x y t2) ty f h (.int k c) := by
  intro dst pos after guard w _
  have hg : (eqGuard .shl t x y (.int k a) (.int k' b)).run P w = .ok () w := by unfold eqGuard; simp [go_sem]
  have hb : ¬ b < 0 := by omega
  simp [execOp, hx, hy, hg, binOp, Op.shift, hb, go_sem]
  exact hc
theorem q_shr {t t2 : TypeId} {x y : Operand} {k k' : IntKind} {a b c : Int} (hx : ev f x = .int k a) (hy : ev f y = .int k' b) (h0 : 0 ≤ b) (hc : a.fdiv (2 ^ (min b.toNat k.bits)) = c) :
    QV P (.binOp .shr t x y t2) ty f h (.int k c) := by
  intro dst pos after guard w _
  have hg : (eqGuard .shr t x y (.int k a) (.int k' b)).run P w = .ok () w := by unfold eqGuard; simp [go_sem]
  have hb : ¬ b < 0 := by omega
  simp [execOp, hx, hy, hg, binOp, Op.shift, hb, go_sem]
  exact hc
theorem q_shl64 {t t2 : TypeId} {x y : Operand} {k' : IntKind} {a c : Nat} (n : Nat) (hx : ev f x = .int .u64 (a : Int)) (hy : ev f y = .int k' (n : Int)) (hn : n ≤ 64) (hc : a * 2 ^ n % 18446744073709551616 = c) :
    QV P (.binOp .shl t x y t2) ty f h (.int .u64 (c : Int)) := q_shl hx hy (by omega) (by
  have hb : IntKind.u64.bits = 64 := rfl
  rw [hb, Int.toNat_natCast, Nat.min_eq_left hn, IntKind.wrap_u64, ← hc, Int.natCast_emod, Int.natCast_mul, Int.natCast_pow]; rfl)
theorem q_shr64 {t t2 : TypeId} {x y : Operand} {k' : IntKind} {a c : Nat} (n : Nat) (hx : ev f x = .int .u64 (a : Int)) (hy : ev f y = .int k' (n : Int)) (hn : n ≤ 64) (hc : a / 2 ^ n = c) :
    QV P (.binOp .shr t x y t2) ty f h (.int .u64 (c : Int)) := q_shr hx hy (by omega) (by
  have hb : IntKind.u64.bits = 64 := rfl
  rw [hb, Int.toNat_natCast, Nat.min_eq_left hn, ← hc, Int.fdiv_eq_ediv_of_nonneg _ (Int.pow_nonneg (by decide)), Int.natCast_ediv, Int.natCast_pow]; rfl)
end Go.HL
