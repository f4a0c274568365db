/- The library's count of bits. -/
import Derived.Test.YtolmcabcmphkpaaTxt
import Derived.Test.YtolmcabcmphkpaaLayK
import Derived.Shelf.Small.Bits
import Derived.Sort.WalkA14
import Derived.Sort.LotD1
import Derived.Laws.Bits64b
set_option linter.unusedSimpArgs false
set_option linter.unusedVariables false
set_option linter.unusedSectionVars false
namespace Go.Wk
open Go.HL Go.Shelf Go.Proofs
variable [DM]
variable {P : Program} {ρ : Ren}
/-- How many bits a number takes. -/
def blen (x : Int) : Int := (Lib.bitLen x.toNat : Int)
theorem blen_hc (L : Lays.n125 P ρ) (x : Int) (hx : (0 : Int) ≤ x ∧ x ≤ 18446744073709551615) (h : Heap) : HC P (ρ.f 125) #[.int .u64 x] h fun u h' => u = .int .i64 (blen x) ∧ h' = h :=
  HC.of_same fun w => Any.bits_Len L x w hx.1 hx.2
theorem blen_nat {l : Nat} (h : l ≤ 2305843009213693952) : ∃ r : Nat, blen (l : Int) = r ∧ r ≤ 62 ∧ (1 ≤ l → 2 ^ r ≤ 2 * l) := by
  refine ⟨Go.Sort.bitsLen l, ?_, ?_, fun h1 => Go.Sort.two_pow_bitsLen_le h1⟩
  · unfold blen; rw [Int.toNat_natCast, bitLen_eq _ (by omega)]
  · exact (Go.Sort.bitsLen_le_iff l 62).2 (by omega)
theorem wrap64 {l : Nat} (h : l ≤ 2305843009213693952 * 2) : IntKind.u64.wrap (l : Int) = l := by rw [IntKind.wrap_u64]; omega
/-- What a mask lets through. -/
theorem and_mask (X : Int) (m : Nat) (h1 : 1 ≤ m) (h2 : m ≤ 4611686018427387904) : 0 ≤ bits .and .u64 X (IntKind.u64.wrap ((m : Int) - 1)) ∧ bits .and .u64 X (IntKind.u64.wrap ((m : Int) - 1)) < m := by
  have e : (m : Int) - 1 = ((m - 1 : Nat) : Int) := by omega
  rw [e, wrap64 (by omega)]
  show 0 ≤ IntKind.u64.wrap ((BitVec.ofInt 64 X &&& BitVec.ofInt 64 ((m - 1 : Nat) : Int)).toNat : Int) ∧ IntKind.u64.wrap ((BitVec.ofInt 64 X &&& BitVec.ofInt 64 ((m - 1 : Nat) : Int)).toNat : Int) < m
  have hm : (BitVec.ofInt 64 ((m - 1 : Nat) : Int)).toNat = m - 1 := by
    rw [BitVec.ofInt_natCast, BitVec.toNat_ofNat]; exact Nat.mod_eq_of_lt (by omega)
  have hle : (BitVec.ofInt 64 X &&& BitVec.ofInt 64 ((m - 1 : Nat) : Int)).toNat ≤ m - 1 := by
    rw [BitVec.toNat_and, hm]; exact Nat.and_le_right
  rw [wrap64 (by omega)]; omega
end Go.Wk
