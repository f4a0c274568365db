/- Maps of things that hold slices: what is known of the things a map holds. -/
import Derived.Test.YtmbkoonblmfdpaaGreatNest
import Derived.Test.YtmbkoonblmfdpaaGreatMapK
import Derived.Test.YtmbkoonblmfdpaaGreatBag
set_option linter.unusedSimpArgs false
set_option linter.unusedVariables false
set_option linter.unusedSectionVars false
namespace Go.Wk
open Go.HL
variable [DM]
variable {κ ν : Type} [DecidableEq κ]
def mgetD (z : ν) (m : List (κ × ν)) (k : κ) : ν := (mget m k).getD z
theorem mvalD {en : ν → Value} {z : ν} {zv : Value} (hz : en z = zv) (m : List (κ × ν)) (k : κ) : mval en zv m k = en (mgetD z m k) := by
  unfold mval mgetD; cases mget m k
  · exact hz.symm
  · rfl
theorem mset_sub {m : List (κ × ν)} {k : κ} {v : ν} : ∀ {p}, p ∈ mset m k v → p = (k, v) ∨ p ∈ m := by
  induction m with
  | nil => intro p hp; exact .inl (by simpa [mset] using hp)
  | cons a m ih =>
    intro p hp
    unfold mset at hp
    split at hp
    · rcases List.mem_cons.1 hp with e | e
      · exact .inl e
      · exact .inr (List.mem_cons_of_mem _ e)
    · rcases List.mem_cons.1 hp with e | e
      · exact .inr (by rw [e]; exact List.mem_cons_self ..)
      · exact (ih e).imp id (List.mem_cons_of_mem _)
section
variable {α β : Type}
def Nf.all (n : Nf β) : Nf (List β) where
  p F h l := NfL n F h l
  q h l := NfI n h l
  kp _ _ _ _ _ s k := s.kp k
  is _ _ _ s := s.is
  init _ _ s := NfL.init s
def hotL (z : α → α) (l : List α) : List α := l.dropLast ++ (l.getLast?.map z).toList
variable {n : Nf α} {F : Fz} {h : Heap} {l : List α} {z : α → α} {a : α} {i : Int}
theorem NfL.hot (hz : ∀ x, n.p F h x → n.p F h (z x)) (s : NfL n F h l) : NfL n F h (hotL z l) := ⟨fun x hx => by
  rcases List.mem_append.1 hx with e | e
  · exact s.all x (List.dropLast_subset l e)
  · cases hl : l.getLast? with
    | none => rw [hl] at e; cases e
    | some y =>
      rw [hl] at e
      have : x = z y := by simpa using e
      rw [this]; exact hz y (s.all y (List.mem_of_getLast? hl))⟩
theorem NfL.unhot (hz : ∀ x, l.getLast? = some x → n.p F h (z x) → n.p F h x) (s : NfL n F h (hotL z l)) : NfL n F h l := ⟨fun x hx => by
  cases hl : l.getLast? with
  | none => rw [List.getLast?_eq_none_iff] at hl; subst hl; cases hx
  | some y =>
    have e : l = l.dropLast ++ [y] := by
      have hne : l ≠ [] := by intro e; subst e; cases hl
      have h2 : l.getLast hne = y := by rw [List.getLast?_eq_some_getLast hne] at hl; exact Option.some.inj hl
      rw [← h2, List.dropLast_concat_getLast hne]
    rw [e] at hx
    rcases List.mem_append.1 hx with e1 | e1
    · exact s.all x (List.mem_append_left _ e1)
    · have : x = y := by simpa using e1
      subst this
      exact hz x hl (s.all _ (List.mem_append_right _ (by rw [hl]; simp)))⟩
theorem NfL.hotSet [Inhabited α] (s : NfL n F h (hotL z l)) (hi : i + 1 = (l.length : Int)) (ha : z a = z (gi l i)) : NfL n F h (hotL z (l.set i.toNat a)) := by
  by_cases hne : l = []
  · subst hne; exact s
  obtain ⟨r, y, rfl⟩ : ∃ r y, l = r ++ [y] := ⟨l.dropLast, l.getLast hne, (List.dropLast_concat_getLast hne).symm⟩
  have h0 : i.toNat = r.length := by simp at hi; omega
  have h1 : (r ++ [y]).set i.toNat a = r ++ [a] := by rw [h0, List.set_append_right _ _ (Nat.le_refl _)]; simp
  have h2 : gi (r ++ [y]) i = y := by
    have hlt : i < ((r ++ [y]).length : Int) := by omega
    have h3 : 0 ≤ i := by simp at hi; omega
    rw [gi_lt h3 hlt]; simp [h0]
  rw [h2] at ha; rw [h1]
  have h4 : ∀ u, hotL z (r ++ [u]) = r ++ [z u] := by intro u; simp [hotL]
  rw [h4, ha]; rw [h4] at s; exact s
end
variable {n : Nf ν} {F : Fz} {h : Heap} {m : List (κ × ν)} {k : κ} {x z : ν}
theorem NfL.mset (s : NfL n F h (m.map (·.2))) (k : κ) (p : n.p F h x) : NfL n F h ((mset m k x).map (·.2)) := ⟨fun y hy => by
  obtain ⟨q, hq, rfl⟩ := List.mem_map.1 hy
  rcases mset_sub hq with e | e
  · rw [e]; exact p
  · exact s.all _ (List.mem_map.2 ⟨q, e, rfl⟩)⟩
theorem NfL.mdel (s : NfL n F h (m.map (·.2))) (k : κ) : NfL n F h ((mdel m k).map (·.2)) := ⟨fun y hy => by
  obtain ⟨q, hq, rfl⟩ := List.mem_map.1 hy
  exact s.all _ (List.mem_map.2 ⟨q, (List.mem_filter.1 hq).1, rfl⟩)⟩
theorem NfL.mgetD (s : NfL n F h (m.map (·.2))) (k : κ) (hz : n.p F h z) : n.p F h (mgetD z m k) := by
  unfold Go.Wk.mgetD
  rcases hq : mget m k with _ | v
  · exact hz
  · unfold mget at hq
    rcases hf : m.find? (fun p => decide (k = p.1)) with _ | p
    · rw [hf] at hq; cases hq
    · rw [hf] at hq
      have : p.2 = v := by simpa using hq
      show n.p F h v
      rw [← this]
      exact s.all _ (List.mem_map.2 ⟨p, List.mem_of_find?_eq_some hf, rfl⟩)
theorem bagAt_cases {α : Type} (m : List (κ × (Value × List α))) (k : κ) : bagAt m k = (.slice none 0 0, []) ∨ ∃ p ∈ m, p.2 = bagAt m k := by
  unfold bagAt
  cases e : mget m k with
  | none => exact .inl rfl
  | some x => obtain ⟨p, hp, e⟩ := mget_mem e; exact .inr ⟨p, hp, e⟩
theorem NfL.bagAt {α : Type} {n : Nf α} {F : Fz} {h : Heap} {m : List (κ × (Value × List α))} (s : NfL (Nf.all n) F h (m.map (·.2.2))) (k : κ) : NfL n F h (Go.Wk.bagAt m k).2 := by
  rcases bagAt_cases m k with e | ⟨p, hp, e⟩
  · rw [e]; exact NfL.nil _ _ _
  · rw [← e]; exact s.all _ (List.mem_map.2 ⟨p, hp, rfl⟩)
theorem q_nilElem {P : Program} {f : Slots} {h : Heap} {ty : TypeId} {α : Type} {k : Nat} {enc : α → List Value} {v : Value} {l : List α} {x : Operand} {t : Int} (hS : SliceIs h k enc v l) (hx : ev f x = elemPtr k v t.toNat) (hb : 0 ≤ t ∧ t < (l.length : Int)) : QV P (.nilCheck x) ty f h (elemPtr k v t.toNat) := by
  obtain ⟨⟨a, cap, hv, h1, h2, h3⟩, h4⟩ := hS
  subst hv
  rcases h3 with h3 | ⟨b, off, ha, hb', hr⟩
  · subst h3; simp at hb; omega
  · subst ha
    exact q_nilCheck hx
end Go.Wk
