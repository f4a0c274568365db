/- Own slices that the things of other lists hold: a pool of them. -/
import Derived.Test.YtmbkoonblmfdpaaGreatPm
set_option linter.unusedSimpArgs false
set_option linter.unusedVariables false
set_option linter.unusedSectionVars false
namespace Go.Wk
open Go.HL
variable [DM]
abbrev SV := Option Nat × Nat × Nat
def Oc (s : SV) : Value := .slice (s.1.map fun g => ⟨g, 0, none⟩) s.2.1 s.2.2
section
variable {α : Type} [DecidableEq α] {E k : Nat} {enc : α -> List Value} {v : Value} {l : List α} {F F' : Fz} {h h' : Heap} {os : List Ow} {i : Nat} {ps : List (SV × List α)} {s : SV}
theorem Rw (o : kL h 0 E k enc v l) : ∃ s : SV, v = Oc s := by
  rcases o.row.2 with ⟨e, _⟩ | ⟨g, cap, cur, e, _⟩
  · exact ⟨(none, 0, 0), e⟩
  · exact ⟨(some g, l.length, cap), e⟩
structure Qm (h : Heap) (E k : Nat) (enc : α -> List Value) (ps : List (SV × List α)) : Prop where
  own : ∀ p ∈ ps, kL h 0 E k enc (Oc p.1) p.2
  apart : ps.Pairwise fun p q => ∀ b, lC (Oc p.1) = some b -> lC (Oc q.1) ≠ some b
def ah8 (ps : List (SV × List α)) (p : SV × List α) : Prop := p ∈ ps ∨ p = ((none, 0, 0), [])
def Ow.pool (E k : Nat) (enc : α -> List Value) (ps : List (SV × List α)) : Ow where
  foot x := ∃ p ∈ ps, lC (Oc p.1) = some x
  inv h := Qm h E k enc ps
  lt h x hi hx := by obtain ⟨p, hp, hx⟩ := hx; exact (hi.own p hp).lt hx
  loc h h' hi hk := ⟨fun p hp => (hi.own p hp).keep fun b hx => hk b ⟨p, hp, hx⟩, hi.apart⟩
theorem St.pl (hS : St F os h) (i : Nat) (hi : os[i]? = some (Ow.pool E k enc ps)) : Qm h E k enc ps := hS.inv i _ hi
theorem Qm.at_ (q : Qm h E k enc ps) (hp : ah8 ps (s, l)) : kL h 0 E k enc (Oc s) l := by
  rcases hp with hp | hp
  · exact q.own _ hp
  · cases hp; exact kL.nil h 0 E k enc
theorem Qm.sl (q : Qm h E k enc ps) (hp : ah8 ps (s, l)) : gY h k enc (Oc s) l := (q.at_ hp).slice
theorem CZ.pool (q : CZ (Ow.pool E k enc ps) F h) : Qm h E k enc ps := q.is
end
end Go.Wk
