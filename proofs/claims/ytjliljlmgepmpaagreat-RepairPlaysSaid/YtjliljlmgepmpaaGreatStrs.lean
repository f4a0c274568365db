/- The library's functions of texts and numbers, over things owned: cut, split, repeat, replace, digits, errors; bytes of a text; package variables. -/
import Derived.Test.YtjliljlmgepmpaaGreatTxt
import Derived.Test.YtjliljlmgepmpaaGreatNest
import Derived.Test.YtjliljlmgepmpaaGreatRo
import Derived.Shelf.Strings.Split
import Derived.Shelf.Strings.Cut
import Derived.Shelf.Strings.Search3
import Derived.Shelf.Strings.Repeat
import Derived.Shelf.Strings.Replace
import Derived.Shelf.Strconv.ToError
import Derived.Shelf.Strconv.ToErrorRange
import Derived.Lib.ConvBytes
import Derived.Lib.BufferWrite
import Derived.Lib.AtoiErrMem
set_option linter.unusedSimpArgs false
set_option linter.unusedVariables false
set_option linter.unusedSectionVars false
namespace Go.Wk
open Go.HL Go.Shelf Go.Proofs
variable [DM]
section
variable {P : Program} {ρ : Ren} {F F' : Fz} {h h' : Heap} {os : List Ow} {g T : Nat} {c : Array Value}
def ErrV (b : Bool) (v : Value) : Prop := if b = true then ∃ t p, v = .iface t p else v = .nilIface
structure ErrF (b : Bool) (v : Value) (F : Fz) (h : Heap) : Prop where
  is : ErrV b v
theorem ErrF.kp {b : Bool} {v : Value} (s : ErrF b v F h) (k : Kp F h F' h') : ErrF b v F' h' := ⟨s.is⟩
theorem ErrF.nil (F : Fz) (h : Heap) : ErrF false .nilIface F h := ⟨by simp [ErrV]⟩
theorem ErrV.one {b : Bool} {v : Value} (s : ErrV b v) : v.oneCell' = true := by
  cases b
  · simp [ErrV] at s; subst s; rfl
  · simp [ErrV] at s; obtain ⟨t, p, rfl⟩ := s; rfl
theorem ErrV.cells {b : Bool} {v : Value} (s : ErrV b v) : v.cells = #[v] := by
  cases b
  · simp [ErrV] at s; subst s; rfl
  · simp [ErrV] at s; obtain ⟨t, p, rfl⟩ := s; rfl
end
section
variable {P : Program} {f : Slots} {h : Heap} {ty : TypeId} {F : Fz} {os : List Ow} {i : Nat}
theorem q_mkIfaceS {xt : TypeId} {x : Operand} {v : Value} (ht : P.underlying xt = some .string) (hx : ev f x = v) : QV P (.makeInterface xt x) ty f h (.iface xt v) := by
  intro dst pos after guard w _
  simp [execOp, Instr.makeInterface, hx, run_underlying ht, go_sem]
end
def u8w (t : Int) : UInt8 := UInt8.ofNat (t % 256).toNat
theorem u8w_toNat (t : Int) : ((u8w t).toNat : Int) = t % 256 := by
  unfold u8w
  have h0 : 0 ≤ t % 256 := Int.emod_nonneg _ (by decide)
  have h1 : t % 256 < 256 := Int.emod_lt_of_pos _ (by decide)
  rw [UInt8.toNat_ofNat']
  have : (t % 256).toNat % 2 ^ 8 = (t % 256).toNat := Nat.mod_eq_of_lt (by omega)
  omega
theorem u8w_wrap (t : Int) : IntKind.u8.wrap t = ((u8w t).toNat : Int) := by rw [u8w_toNat]; exact IntKind.wrap_u8 t
theorem u8w_v (t : Int) : Value.int .u8 (IntKind.u8.wrap t) = .int .u8 ((u8w t).toNat : Int) := by rw [u8w_wrap]
theorem u8r_v {t : Int} (h : 0 ≤ t ∧ t < 256) : Value.int .u8 t = .int .u8 ((u8w t).toNat : Int) := by
  rw [u8w_toNat, Int.emod_eq_of_lt h.1 h.2]
end Go.Wk
