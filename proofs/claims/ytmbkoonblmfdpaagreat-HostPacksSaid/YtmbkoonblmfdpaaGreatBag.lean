/- Maps whose values are slices of one's own: a bag; a bag with one slice taken out; a bag that stays. -/
import Derived.Test.YtmbkoonblmfdpaaGreatRo
set_option linter.unusedSimpArgs false
set_option linter.unusedVariables false
set_option linter.unusedSectionVars false
namespace Go.Wk
open Go.HL
variable [DM]
section
variable {F : Fz} {os : List Ow} {h h' : Heap} {o o1 o2 : Ow}
def Ow.both (o1 o2 : Ow) : Ow where
  foot b := o1.foot b ∨ o2.foot b
  inv h := o1.inv h ∧ o2.inv h
  lt h b hi hb := hb.elim (o1.lt h b hi.1) (o2.lt h b hi.2)
  loc h h' hi hk := ⟨o1.loc h h' hi.1 fun b hb => hk b (.inl hb), o2.loc h h' hi.2 fun b hb => hk b (.inr hb)⟩
end
section
variable {κ α : Type} [DecidableEq κ]
abbrev BagM (κ α : Type) := List (κ × Value × List α)
def bagAt (m : BagM κ α) (k : κ) : Value × List α := (mget m k).getD (.slice none 0 0, [])
variable {P : Program} {f : Slots} {ty : TypeId} {F F' : Fz} {os : List Ow} {h h' : Heap} {r E kk : Nat} {ek : κ → Value} {enc : α → List Value} {m : BagM κ α} {i : Nat}
structure NfBI (kk : Nat) (enc : α → List Value) (h : Heap) (m : BagM κ α) : Prop where
  all : ∀ p ∈ m, SliceIs h kk enc p.2.1 p.2.2
structure NfB (kk : Nat) (enc : α → List Value) (F : Fz) (h : Heap) (m : BagM κ α) : Prop where
  all : ∀ p ∈ m, SliceF F h kk enc p.2.1 p.2.2
theorem NfB.kp (q : NfB kk enc F h m) (k : Kp F h F' h') : NfB kk enc F' h' m := ⟨fun p hp => (q.all p hp).kp k⟩
theorem NfB.is (q : NfB kk enc F h m) : NfBI kk enc h m := ⟨fun p hp => (q.all p hp).is⟩
theorem mget_mem {m : BagM κ α} {k : κ} {x : Value × List α} (h : mget m k = some x) : ∃ p ∈ m, p.2 = x := by
  induction m with
  | nil => cases h
  | cons p r ih =>
    rw [mget_cons] at h
    split at h
    · exact ⟨p, by simp, Option.some.inj h⟩
    · obtain ⟨q, hq, e⟩ := ih h; exact ⟨q, by simp [hq], e⟩
theorem NfB.at_ (q : NfB kk enc F h m) (k : κ) : SliceF F h kk enc (bagAt m k).1 (bagAt m k).2 := by
  unfold bagAt
  cases e : mget m k with
  | none => exact SliceF.nil F h kk enc
  | some x => obtain ⟨p, hp, rfl⟩ := mget_mem e; exact q.all p hp
theorem NfB.nil (kk : Nat) (enc : α → List Value) (F : Fz) (h : Heap) : NfB kk enc F h ([] : BagM κ α) := ⟨by simp⟩
theorem NfB.put (q : NfB kk enc F h m) {k : κ} {v : Value} {l : List α} (s : SliceF F h kk enc v l) : NfB kk enc F h (mset m k (v, l)) := by
  refine ⟨fun p hp => ?_⟩
  have : p ∈ m ∨ p = (k, v, l) := by
    clear q
    induction m with
    | nil => right; simpa [mset] using hp
    | cons a r ih =>
      unfold mset at hp
      split at hp
      · rcases List.mem_cons.1 hp with e | hp
        · exact .inr e
        · exact .inl (by simp [hp])
      · rcases List.mem_cons.1 hp with e | hp
        · exact .inl (by simp [e])
        · rcases ih hp with e | e
          · exact .inl (by simp [e])
          · exact .inr e
  rcases this with h1 | rfl
  · exact q.all p h1
  · exact s
end
end Go.Wk
