/- Own slices that the things of other lists hold: a pool of them. -/
import Derived.Test.YtfoebjicglgklaaGreatPm
set_option linter.unusedSimpArgs false
set_option linter.unusedVariables false
set_option linter.unusedSectionVars false
namespace Go.Wk
open Go.HL
variable [DM]
abbrev SV := Option Nat × Nat × Nat
def svV (s : SV) : Value := .slice (s.1.map fun g => ⟨g, 0, none⟩) s.2.1 s.2.2
theorem svShp (s : SV) : Shp (svV s) s.2.1 := ⟨_, _, rfl⟩
section
variable {α : Type} [DecidableEq α] {E k : Nat} {enc : α → List Value} {v : Value} {l : List α} {F F' : Fz} {h h' : Heap} {os : List Ow} {i : Nat} {ps : List (SV × List α)} {s : SV}
theorem own_sv (o : OwnIs h 0 E k enc v l) : ∃ s : SV, v = svV s := by
  rcases o.row.2 with ⟨e, _⟩ | ⟨g, cap, cur, e, _⟩
  · exact ⟨(none, 0, 0), e⟩
  · exact ⟨(some g, l.length, cap), e⟩
structure PoolIs (h : Heap) (E k : Nat) (enc : α → List Value) (ps : List (SV × List α)) : Prop where
  own : ∀ p ∈ ps, OwnIs h 0 E k enc (svV p.1) p.2
  apart : ps.Pairwise fun p q => ∀ b, blockOf (svV p.1) = some b → blockOf (svV q.1) ≠ some b
def pErase (ps : List (SV × List α)) (p : SV × List α) : List (SV × List α) := ps.erase p
theorem pErase_perm {ps qs : List (SV × List α)} (h : ps.Perm qs) (p : SV × List α) : (pErase ps p).Perm (pErase qs p) := h.erase p
theorem pErase_head (p : SV × List α) (l : List (SV × List α)) : pErase (p :: l) p = l := List.erase_cons_head ..
theorem pErase_none {ps : List (SV × List α)} {p : SV × List α} (h : p ∉ ps) : pErase ps p = ps := List.erase_of_not_mem h
theorem pErase_right {a b : List (SV × List α)} {p : SV × List α} (h : p ∉ a) : pErase (a ++ b) p = a ++ pErase b p := List.erase_append_right _ h
def PHas (ps : List (SV × List α)) (p : SV × List α) : Prop := p ∈ ps ∨ p = ((none, 0, 0), [])
def Ow.pool (E k : Nat) (enc : α → List Value) (ps : List (SV × List α)) : Ow where
  foot x := ∃ p ∈ ps, blockOf (svV p.1) = some x
  inv h := PoolIs h E k enc ps
  lt h x hi hx := by obtain ⟨p, hp, hx⟩ := hx; exact (hi.own p hp).lt hx
  loc h h' hi hk := ⟨fun p hp => (hi.own p hp).keep fun b hx => hk b ⟨p, hp, hx⟩, hi.apart⟩
theorem St.pl (hS : St F os h) (i : Nat) (hi : os[i]? = some (Ow.pool E k enc ps)) : PoolIs h E k enc ps := hS.inv i _ hi
theorem PoolIs.at_ (q : PoolIs h E k enc ps) (hp : PHas ps (s, l)) : OwnIs h 0 E k enc (svV s) l := by
  rcases hp with hp | hp
  · exact q.own _ hp
  · cases hp; exact OwnIs.nil h 0 E k enc
theorem PoolIs.sl (q : PoolIs h E k enc ps) (hp : PHas ps (s, l)) : SliceIs h k enc (svV s) l := (q.at_ hp).slice
theorem RoF.pool (q : RoF (Ow.pool E k enc ps) F h) : PoolIs h E k enc ps := q.is
theorem RoF.poolSl (q : RoF (Ow.pool E k enc ps) F h) (hp : PHas ps (s, l)) : SliceF F h k enc (svV s) l := by
  refine ⟨q.pool.sl hp, fun _ b hb => ?_⟩
  rcases hp with hp | hp
  · exact q.fz b ⟨_, hp, hb⟩
  · cases hp; cases hb
theorem St.poolNil (hS : St F os h) (E k : Nat) (enc : α → List Value) : St F (Ow.pool E k enc ([] : List (SV × List α)) :: os) h :=
  hS.bare _ ⟨by simp, List.Pairwise.nil⟩ (by rintro b ⟨p, hp, _⟩; cases hp)
theorem set_self {o : Ow} (hi : os[i]? = some o) : os.set i o = os := by
  apply List.ext_getElem?
  intro j; rw [List.getElem?_set]
  split
  · rename_i e; subst e; split
    · exact hi.symm
    · rename_i hlt; rw [List.getElem?_eq_none (by omega)]
  · rfl
theorem St.poolTake (hS : St F os h) (i : Nat) (hi : os[i]? = some (Ow.pool E k enc ps)) (hp : PHas ps (s, l)) : St F (Ow.own E k enc (svV s) l :: os.set i (Ow.pool E k enc (pErase ps (s, l)))) h := by
  have hb : PoolIs h E k enc ps := hS.inv i _ hi
  by_cases hm : (s, l) ∈ ps
  · obtain ⟨a, c, _, e1, e2⟩ := List.exists_erase_eq hm
    have e2 : pErase ps (s, l) = a ++ c := e2
    have hap := hb.apart
    rw [e1, List.pairwise_append] at hap
    obtain ⟨p1, p2, p3⟩ := hap
    rw [List.pairwise_cons] at p2
    have hsub : ∀ p ∈ a ++ c, p ∈ ps := fun p hp => by
      rw [e1]; simp only [List.mem_append, List.mem_cons] at hp ⊢
      rcases hp with hp | hp
      · exact .inl hp
      · exact .inr (.inr hp)
    rw [e2]
    refine hS.parted i hi (hb.own _ hm) ⟨fun p hp => hb.own p (hsub p hp), ?_⟩ (fun b hx => ⟨_, hm, hx⟩) (fun b ⟨p, hp, hx⟩ => ⟨p, hsub p hp, hx⟩) ?_
    · rw [List.pairwise_append]
      exact ⟨p1, p2.2, fun x hx y hy => p3 x hx y (List.mem_cons_of_mem _ hy)⟩
    · rintro b hx ⟨p, hp, hy⟩
      rcases List.mem_append.1 hp with hp | hp
      · exact p3 p hp _ (List.mem_cons_self ..) b hy hx
      · exact p2.1 p hp b hx hy
  · rcases hp with hp | hp
    · exact absurd hp hm
    · rw [pErase_none hm, set_self hi]; cases hp; exact hS.nilOwn E k enc
theorem St.poolPut (hS : St F (Ow.own E k enc (svV s) l :: os) h) (i : Nat) (hi : os[i]? = some (Ow.pool E k enc ps)) : St F (os.set i (Ow.pool E k enc ((s, l) :: ps))) h := by
  have hi' : (Ow.own E k enc (svV s) l :: os)[i + 1]? = some (Ow.pool E k enc ps) := by simpa using hi
  have hb : PoolIs h E k enc ps := hS.inv _ _ hi'
  have ho : OwnIs h 0 E k enc (svV s) l := hS.inv 0 _ rfl
  have hap : ∀ b, blockOf (svV s) = some b → ¬ ∃ p ∈ ps, blockOf (svV p.1) = some b := fun b hv => hS.apart 0 (i + 1) _ _ (by omega) rfl hi' b hv
  have hlen : i < os.length := (List.getElem?_eq_some_iff.1 hi).1
  have J := (hS.joined i hi).turn i (List.getElem?_set_self hlen) (Ow.pool E k enc ((s, l) :: ps)) (h' := h) ⟨?_, ?_⟩ ?_ (Nat.le_refl _) (fun _ _ _ => rfl)
  · rw [List.set_set] at J; exact J.1
  · intro p hp
    rcases List.mem_cons.1 hp with rfl | hp
    · exact ho
    · exact hb.own p hp
  · rw [List.pairwise_cons]
    exact ⟨fun q hq b h1 h2 => hap b h1 ⟨q, hq, h2⟩, hb.apart⟩
  · rintro b ⟨p, hp, hx⟩
    rcases List.mem_cons.1 hp with rfl | hp
    · exact .inl (.inl hx)
    · exact .inl (.inr ⟨p, hp, hx⟩)
end
end Go.Wk
