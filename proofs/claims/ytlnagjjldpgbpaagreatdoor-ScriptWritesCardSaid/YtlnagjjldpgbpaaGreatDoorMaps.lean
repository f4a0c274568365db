/- Maps keyed by an integer or a string: how they read, and what the operations on them do. -/
import Derived.Test.YtlnagjjldpgbpaaGreatDoorMem
set_option linter.unusedSimpArgs false
set_option linter.unusedVariables false
set_option linter.unusedSectionVars false
namespace Go.HL
variable [DM]
section Xd
variable {κ ν : Type} [DecidableEq κ]
def YE (m : List (κ × ν)) (k : κ) : Option ν := (m.find? fun p => decide (k = p.1)).map (·.2)
def N7 : List (κ × ν) -> κ -> ν -> List (κ × ν)
  | [], k, v => [(k, v)]
  | p :: r, k, v => if k = p.1 then (k, v) :: r else p :: N7 r k v
theorem Xg (p : κ × ν) (r : List (κ × ν)) (k : κ) : YE (p :: r) k = if k = p.1 then some p.2 else YE r k := by
  unfold YE; rw [List.find?_cons]; by_cases h : k = p.1 <;> simp [h]
theorem Xo (m : List (κ × ν)) (k : κ) (v : ν) : (N7 m k v).map Prod.fst = if k ∈ m.map Prod.fst then m.map Prod.fst else m.map Prod.fst ++ [k] := by
  induction m with
  | nil => simp [N7]
  | cons p r ih =>
    unfold N7
    split
    · rename_i h; simp [h]
    · rename_i h
      simp only [List.map_cons, ih, List.mem_cons]
      by_cases e : k ∈ r.map Prod.fst
      · simp [e]
      · simp [e, h]
theorem Px {m : List (κ × ν)} (h : (m.map Prod.fst).Nodup) (k : κ) (v : ν) : ((N7 m k v).map Prod.fst).Nodup := by
  rw [Xo]; split
  · exact h
  · rename_i hk; rw [List.nodup_append]; exact ⟨h, by simp, by intro a ha b hb; simp at hb; subst hb; rintro rfl; exact hk ha⟩
end Xd
structure SX {κ ν : Type} (ek : κ -> Value) (en : ν -> Value) (es : Array MapEntry) (clock : Nat) (m : List (κ × ν)) : Prop where
  is : es.toList.map (fun e => (e.key, e.val)) = m.map fun p => (ek p.1, en p.2)
  born : ∀ e ∈ es.toList, e.born < clock
  apart : (es.toList.map (·.born)).Nodup
  nodup : (m.map Prod.fst).Nodup
def Dp {κ ν : Type} (h : Heap) (r : Nat) (ek : κ -> Value) (en : ν -> Value) (m : List (κ × ν)) : Prop :=
  ∃ es clock, fP h r (.map es clock) /\ SX ek en es clock m
theorem Dp.ext {κ ν : Type} {h h' : Heap} {r : Nat} {ek : κ -> Value} {en : ν -> Value} {m : List (κ × ν)} (k : Dp h r ek en m) (e : Ext h h') : Dp h' r ek en m :=
  let ⟨es, c, hb, he⟩ := k; ⟨es, c, hb.ext e, he⟩
theorem Dp.upd {κ ν : Type} {h h' : Heap} {r b : Nat} {o : Obj} {ek : κ -> Value} {en : ν -> Value} {m : List (κ × ν)} (k : Dp h r ek en m) (u : Qq h b o h') (hne : r ≠ b) : Dp h' r ek en m :=
  let ⟨es, c, hb, he⟩ := k; ⟨es, c, hb.upd u hne, he⟩
theorem Dp.lt {κ ν : Type} {h : Heap} {r : Nat} {ek : κ -> Value} {en : ν -> Value} {m : List (κ × ν)} (k : Dp h r ek en m) : r < h.size :=
  let ⟨_, _, hb, _⟩ := k; hb.lt
theorem Dp.nodup {κ ν : Type} {h : Heap} {r : Nat} {ek : κ -> Value} {en : ν -> Value} {m : List (κ × ν)} (k : Dp h r ek en m) : (m.map Prod.fst).Nodup :=
  let ⟨_, _, _, he⟩ := k; he.nodup
section
variable {κ ν : Type} [DecidableEq κ] {ek : κ -> Value} {en : ν -> Value}
variable {P : Program} {f : jk} {h : Heap} {ty : TypeId}
theorem UZ {es : List MapEntry} {m : List (κ × ν)} (k : κ) (v : ν) (h : es.map (fun e => (e.key, e.val)) = m.map (fun p => (ek p.1, en p.2))) {i : Nat}
    (hi : (m.findIdx? fun p => decide (k = p.1)) = some i) :
    (es.modify i fun e => { e with key := ek k, val := en v }).map (fun e => (e.key, e.val)) = (N7 m k v).map (fun p => (ek p.1, en p.2)) := by
  induction es generalizing m i with
  | nil =>
    have : m = [] := by simpa using h.symm
    subst this; simp at hi
  | cons e es ih =>
    match m, h, hi with
    | p :: r, h, hi =>
      simp only [List.map_cons, List.cons.injEq, Prod.mk.injEq] at h
      obtain ⟨⟨h1, h2⟩, h3⟩ := h
      rw [List.findIdx?_cons] at hi
      unfold N7
      by_cases e1 : k = p.1
      · simp only [e1, decide_true, if_true, Option.some.injEq] at hi
        subst hi
        rw [if_pos e1]
        simp [h3]
      · rw [if_neg e1]
        simp only [e1, decide_false, Bool.false_eq_true, if_false, Option.map_eq_some_iff] at hi
        obtain ⟨j, hj, rfl⟩ := hi
        simp only [List.modify_succ_cons, List.map_cons, List.cons.injEq, Prod.mk.injEq]
        exact ⟨⟨h1, h2⟩, ih h3 hj⟩
theorem Xf {m : List (κ × ν)} {k : κ} {v : ν} (h : YE m k = none) : N7 m k v = m ++ [(k, v)] := by
  induction m with
  | nil => rfl
  | cons p r ih =>
    rw [Xg] at h
    by_cases e : k = p.1
    · simp [e] at h
    · rw [if_neg e] at h; unfold N7; rw [if_neg e, ih h]; rfl
theorem NJ (es : List MapEntry) (i : Nat) (a b : Value) : (es.modify i fun e => { e with key := a, val := b }).map (·.born) = es.map (·.born) := by
  induction es generalizing i with
  | nil => simp
  | cons e es ih => cases i <;> simp [ih]
theorem SX.N7 {es : Array MapEntry} {clock : Nat} {m : List (κ × ν)} (he : SX ek en es clock m) (k : κ) (v : ν) {i : Nat} (hi : (m.findIdx? fun p => decide (k = p.1)) = some i) :
    SX ek en (es.modify i fun e => { e with key := ek k, val := en v }) clock (N7 m k v) where
  is := by rw [Array.toList_modify]; exact UZ k v he.is hi
  born := by
    intro e h
    have : e.born ∈ (es.modify i fun e => { e with key := ek k, val := en v }).toList.map (·.born) := List.mem_map.2 ⟨e, h, rfl⟩
    rw [Array.toList_modify, NJ] at this
    obtain ⟨e', h', hb⟩ := List.mem_map.1 this
    rw [← hb]; exact he.born e' h'
  apart := by rw [Array.toList_modify, NJ]; exact he.apart
  nodup := Px he.nodup k v
theorem SX.push {es : Array MapEntry} {clock : Nat} {m : List (κ × ν)} (he : SX ek en es clock m) (k : κ) (v : ν) (hn : YE m k = none) :
    SX ek en (es.push { key := ek k, val := en v, born := clock }) (clock + 1) (Go.HL.N7 m k v) where
  is := by rw [Xf hn]; simp [he.is]
  born := by
    intro e h
    simp only [Array.toList_push, List.mem_append, List.mem_singleton] at h
    rcases h with h | rfl
    · have := he.born e h; omega
    · simp
  apart := by
    simp only [Array.toList_push, List.map_append, List.map_cons, List.map_nil]
    rw [List.nodup_append]
    refine ⟨he.apart, by simp, ?_⟩
    intro a ha b hb e
    obtain ⟨x, hx, rfl⟩ := List.mem_map.1 ha
    have := he.born x hx
    simp at hb; omega
  nodup := Px he.nodup k v
theorem Dp.empty {h' : Heap} {r : Nat} (n : New h (.map #[] 0) r h') : Dp h' r ek en ([] : List (κ × ν)) :=
  ⟨#[], 0, n.blk, by simp, by simp, by simp, by simp⟩
end
end Go.HL
