/- Maps of things that hold slices: what is known of the things a map holds. -/
import Derived.Test.YtmbkoonblmfdpaaGreatNest
import Derived.Test.YtmbkoonblmfdpaaGreatMapK
import Derived.Test.YtmbkoonblmfdpaaGreatBag
set_option linter.unusedSimpArgs false
set_option linter.unusedVariables false
set_option linter.unusedSectionVars false
namespace Go.Wk
open Go.HL
variable [DM]
variable {κ ν : Type} [DecidableEq κ]
def jM (z : ν) (m : List (κ × ν)) (k : κ) : ν := (qU m k).getD z
theorem ach {en : ν -> Value} {z : ν} {zv : Value} (hz : en z = zv) (m : List (κ × ν)) (k : κ) : QE en zv m k = en (jM z m k) := by
  unfold QE jM; cases qU m k
  · exact hz.symm
  · rfl
theorem aci {m : List (κ × ν)} {k : κ} {v : ν} : ∀ {p}, p ∈ zU m k v -> p = (k, v) ∨ p ∈ m := by
  induction m with
  | nil => intro p hp; exact .inl (by simpa [zU] using hp)
  | cons a m ih =>
    intro p hp
    unfold zU at hp
    split at hp
    · rcases List.mem_cons.1 hp with e | e
      · exact .inl e
      · exact .inr (List.mem_cons_of_mem _ e)
    · rcases List.mem_cons.1 hp with e | e
      · exact .inr (by rw [e]; exact List.mem_cons_self ..)
      · exact (ih e).imp id (List.mem_cons_of_mem _)
section
variable {α β : Type}
def Nf.all (n : Nf β) : Nf (List β) where
  p F h l := jq n F h l
  q h l := VI n h l
  kp _ _ _ _ _ s k := s.kp k
  is _ _ _ s := s.is
  init _ _ s := jq.init s
def RI (z : α -> α) (l : List α) : List α := l.dropLast ++ (l.getLast?.map z).toList
variable {n : Nf α} {F : Fz} {h : Heap} {l : List α} {z : α -> α} {a : α} {i : Int}
theorem jq.hot (hz : ∀ x, n.p F h x -> n.p F h (z x)) (s : jq n F h l) : jq n F h (RI z l) := ⟨fun x hx => by
  rcases List.mem_append.1 hx with e | e
  · exact s.all x (List.dropLast_subset l e)
  · cases hl : l.getLast? with
    | none => rw [hl] at e; cases e
    | some y =>
      rw [hl] at e
      have : x = z y := by simpa using e
      rw [this]; exact hz y (s.all y (List.mem_of_getLast? hl))⟩
theorem jq.aev (hz : ∀ x, l.getLast? = some x -> n.p F h (z x) -> n.p F h x) (s : jq n F h (RI z l)) : jq n F h l := ⟨fun x hx => by
  cases hl : l.getLast? with
  | none => rw [List.getLast?_eq_none_iff] at hl; subst hl; cases hx
  | some y =>
    have e : l = l.dropLast ++ [y] := by
      have hne : l ≠ [] := by intro e; subst e; cases hl
      have h2 : l.getLast hne = y := by rw [List.getLast?_eq_some_getLast hne] at hl; exact Option.some.inj hl
      rw [← h2, List.dropLast_concat_getLast hne]
    rw [e] at hx
    rcases List.mem_append.1 hx with e1 | e1
    · exact s.all x (List.mem_append_left _ e1)
    · have : x = y := by simpa using e1
      subst this
      exact hz x hl (s.all _ (List.mem_append_right _ (by rw [hl]; simp)))⟩
theorem jq.afy [Inhabited α] (s : jq n F h (RI z l)) (hi : i + 1 = (l.length : Int)) (ha : z a = z (gi l i)) : jq n F h (RI z (l.set i.toNat a)) := by
  by_cases hne : l = []
  · subst hne; exact s
  obtain ⟨r, y, rfl⟩ : ∃ r y, l = r ++ [y] := ⟨l.dropLast, l.getLast hne, (List.dropLast_concat_getLast hne).symm⟩
  have h0 : i.toNat = r.length := by simp at hi; omega
  have h1 : (r ++ [y]).set i.toNat a = r ++ [a] := by rw [h0, List.set_append_right _ _ (Nat.le_refl _)]; simp
  have h2 : gi (r ++ [y]) i = y := by
    have hlt : i < ((r ++ [y]).length : Int) := by omega
    have h3 : 0 <= i := by simp at hi; omega
    rw [SY h3 hlt]; simp [h0]
  rw [h2] at ha; rw [h1]
  have h4 : ∀ u, RI z (r ++ [u]) = r ++ [z u] := by intro u; simp [RI]
  rw [h4, ha]; rw [h4] at s; exact s
end
variable {n : Nf ν} {F : Fz} {h : Heap} {m : List (κ × ν)} {k : κ} {x z : ν}
theorem jq.zU (s : jq n F h (m.map (·.2))) (k : κ) (p : n.p F h x) : jq n F h ((zU m k x).map (·.2)) := ⟨fun y hy => by
  obtain ⟨q, hq, rfl⟩ := List.mem_map.1 hy
  rcases aci hq with e | e
  · rw [e]; exact p
  · exact s.all _ (List.mem_map.2 ⟨q, e, rfl⟩)⟩
theorem jq.yA (s : jq n F h (m.map (·.2))) (k : κ) : jq n F h ((yA m k).map (·.2)) := ⟨fun y hy => by
  obtain ⟨q, hq, rfl⟩ := List.mem_map.1 hy
  exact s.all _ (List.mem_map.2 ⟨q, (List.mem_filter.1 hq).1, rfl⟩)⟩
theorem jq.jM (s : jq n F h (m.map (·.2))) (k : κ) (hz : n.p F h z) : n.p F h (jM z m k) := by
  unfold Go.Wk.jM
  rcases hq : qU m k with _ | v
  · exact hz
  · unfold qU at hq
    rcases hf : m.find? (fun p => decide (k = p.1)) with _ | p
    · rw [hf] at hq; cases hq
    · rw [hf] at hq
      have : p.2 = v := by simpa using hq
      show n.p F h v
      rw [← this]
      exact s.all _ (List.mem_map.2 ⟨p, List.mem_of_find?_eq_some hf, rfl⟩)
theorem Y7 {α : Type} (m : List (κ × (Value × List α))) (k : κ) : Td m k = (.slice none 0 0, []) ∨ ∃ p ∈ m, p.2 = Td m k := by
  unfold Td
  cases e : qU m k with
  | none => exact .inl rfl
  | some x => obtain ⟨p, hp, e⟩ := YJ e; exact .inr ⟨p, hp, e⟩
theorem jq.Td {α : Type} {n : Nf α} {F : Fz} {h : Heap} {m : List (κ × (Value × List α))} (s : jq (Nf.all n) F h (m.map (·.2.2))) (k : κ) : jq n F h (Go.Wk.Td m k).2 := by
  rcases Y7 m k with e | ⟨p, hp, e⟩
  · rw [e]; exact jq.nil _ _ _
  · rw [← e]; exact s.all _ (List.mem_map.2 ⟨p, hp, rfl⟩)
theorem Wl {P : Program} {f : kT} {h : Heap} {ty : TypeId} {α : Type} {k : Nat} {enc : α -> List Value} {v : Value} {l : List α} {x : Operand} {t : Int} (hS : gY h k enc v l) (hx : ev f x = iE k v t.toNat) (hb : 0 <= t /\ t < (l.length : Int)) : QV P (.nilCheck x) ty f h (iE k v t.toNat) := by
  obtain ⟨⟨a, cap, hv, h1, h2, h3⟩, h4⟩ := hS
  subst hv
  rcases h3 with h3 | ⟨b, off, ha, hb', hr⟩
  · subst h3; simp at hb; omega
  · subst ha
    exact cu hx
end Go.Wk
