/- Maps keyed by whatever is told apart by its cells: structs too. -/
import Derived.Test.YtlnagjjldpgbpaaGreatDoorWk
set_option linter.unusedSimpArgs false
set_option linter.unusedVariables false
set_option linter.unusedSectionVars false
namespace Go.Wk
open Go.HL
variable [DM]
section
variable {κ ν : Type} [DecidableEq κ] {ek : κ -> Value} {en : ν -> Value} {P : Program} {f : jk} {h : Heap} {ty : TypeId}
def MapAt (h : Heap) (r : Nat) (ek : κ -> Value) (en : ν -> Value) (m : List (κ × ν)) (k : κ) (born : Nat) : Prop :=
  ∃ es clock i, fP h r (.map es clock) /\ SX ek en es clock m /\ (m.findIdx? fun p => decide (k = p.1)) = some i /\ ((es[i]?).map (·.born)) = some born
theorem MapAt.YF {m : List (κ × ν)} {r born : Nat} {k : κ} (a : MapAt h r ek en m k born) : Dp h r ek en m := let ⟨es, c, _, hb, he, _⟩ := a; ⟨es, c, hb, he⟩
end
section
variable {P : Program} {f : jk} {h : Heap} {ty : TypeId} {F : Fz} {os : List Ow} {i : Nat} {κ ν : Type} [DecidableEq κ] {ek : κ -> Value} {en : ν -> Value} {m : List (κ × ν)} {r : Nat}
def Ow.at (r : Nat) (ek : κ -> Value) (en : ν -> Value) (m : List (κ × ν)) (k : κ) (born : Nat) : Ow where
  foot x := x = r
  inv h := MapAt h r ek en m k born
  lt h x hi hx := by obtain ⟨es, c, j, hb, _⟩ := hi; subst hx; exact hb.lt
  loc h h' hi hk := let ⟨es, c, j, hb, q⟩ := hi; ⟨es, c, j, (hk r rfl).trans hb, q⟩
end
end Go.Wk
