/- Maps whose values are slices of one's own: a bag; a bag with one slice taken out; a bag that stays. -/
import Derived.Test.YtfoebjicglgklaaGreatRo
set_option linter.unusedSimpArgs false
set_option linter.unusedVariables false
set_option linter.unusedSectionVars false
namespace Go.Wk
open Go.HL
variable [DM]
section
variable {F : Fz} {os : List Ow} {h h' : Heap} {o o1 o2 : Ow}
def Ow.both (o1 o2 : Ow) : Ow where
  foot b := o1.foot b ∨ o2.foot b
  inv h := o1.inv h ∧ o2.inv h
  lt h b hi hb := hb.elim (o1.lt h b hi.1) (o2.lt h b hi.2)
  loc h h' hi hk := ⟨o1.loc h h' hi.1 fun b hb => hk b (.inl hb), o2.loc h h' hi.2 fun b hb => hk b (.inr hb)⟩
theorem set_get {i j : Nat} {q : Ow} (hq : (os.set i o)[j]? = some q) : (j = i ∧ q = o) ∨ (j ≠ i ∧ os[j]? = some q) := by
  rw [List.getElem?_set] at hq
  by_cases e : i = j
  · subst e; rw [if_pos rfl] at hq
    split at hq
    · left; exact ⟨rfl, by injection hq with hq; exact hq.symm⟩
    · cases hq
  · rw [if_neg e] at hq; exact .inr ⟨fun e' => e e'.symm, hq⟩
theorem St.joined (hS : St F (o1 :: os) h) (i : Nat) (hi : os[i]? = some o2) : St F (os.set i (Ow.both o1 o2)) h := by
  have hi' : (o1 :: os)[i + 1]? = some o2 := by simpa using hi
  have up : ∀ {j : Nat} {q : Ow}, os[j]? = some q → (o1 :: os)[j + 1]? = some q := fun hq => by simpa using hq
  refine ⟨hS.fz, ?_, ?_, ?_⟩
  · intro j q hq
    rcases set_get hq with ⟨rfl, rfl⟩ | ⟨_, hq⟩
    · exact ⟨hS.inv 0 o1 rfl, hS.inv _ o2 hi'⟩
    · exact hS.inv _ q (up hq)
  · intro j q hq b hb
    rcases set_get hq with ⟨rfl, rfl⟩ | ⟨_, hq⟩
    · rcases hb with hb | hb
      · exact hS.off 0 o1 rfl b hb
      · exact hS.off _ o2 hi' b hb
    · exact hS.off _ q (up hq) b hb
  · intro j k q r hjk hq hr b hb hb'
    rcases set_get hq with ⟨rfl, rfl⟩ | ⟨hj, hq1⟩ <;> rcases set_get hr with ⟨rfl, rfl⟩ | ⟨hk, hr1⟩
    · exact hjk rfl
    · rcases hb with hb | hb
      · exact hS.apart 0 (k + 1) o1 r (by omega) rfl (up hr1) b hb hb'
      · exact hS.apart (j + 1) (k + 1) o2 r (by omega) hi' (up hr1) b hb hb'
    · rcases hb' with hb' | hb'
      · exact hS.apart (j + 1) 0 q o1 (by omega) (up hq1) rfl b hb hb'
      · exact hS.apart (j + 1) (k + 1) q o2 (by omega) (up hq1) hi' b hb hb'
    · exact hS.apart (j + 1) (k + 1) q r (by omega) (up hq1) (up hr1) b hb hb'
theorem St.parted (hS : St F os h) (i : Nat) (hi : os[i]? = some o) (h1 : o1.inv h) (h2 : o2.inv h) (f1 : ∀ b, o1.foot b → o.foot b) (f2 : ∀ b, o2.foot b → o.foot b) (ha : ∀ b, o1.foot b → ¬ o2.foot b) : St F (o1 :: os.set i o2) h := by
  refine ⟨hS.fz, ?_, ?_, ?_⟩
  · intro j q hq
    cases j with
    | zero => simp only [List.getElem?_cons_zero, Option.some.injEq] at hq; subst hq; exact h1
    | succ j =>
      simp only [List.getElem?_cons_succ] at hq
      rcases set_get hq with ⟨rfl, rfl⟩ | ⟨_, hq⟩
      · exact h2
      · exact hS.inv j q hq
  · intro j q hq b hb
    cases j with
    | zero => simp only [List.getElem?_cons_zero, Option.some.injEq] at hq; subst hq; exact hS.off i o hi b (f1 b hb)
    | succ j =>
      simp only [List.getElem?_cons_succ] at hq
      rcases set_get hq with ⟨rfl, rfl⟩ | ⟨_, hq⟩
      · exact hS.off j o hi b (f2 b hb)
      · exact hS.off j q hq b hb
  · have one : ∀ (j : Nat) (q : Ow), (os.set i o2)[j]? = some q → ∀ b, o1.foot b → ¬ q.foot b := by
      intro j q hq b hb hb'
      rcases set_get hq with ⟨rfl, rfl⟩ | ⟨hj, hq⟩
      · exact ha b hb hb'
      · exact hS.apart i j o q (by omega) hi hq b (f1 b hb) hb'
    intro j k q r hjk hq hr b hb hb'
    cases j with
    | zero =>
      simp only [List.getElem?_cons_zero, Option.some.injEq] at hq; subst hq
      cases k with
      | zero => exact hjk rfl
      | succ k => simp only [List.getElem?_cons_succ] at hr; exact one k r hr b hb hb'
    | succ j =>
      simp only [List.getElem?_cons_succ] at hq
      cases k with
      | zero => simp only [List.getElem?_cons_zero, Option.some.injEq] at hr; subst hr; exact one j q hq b hb' hb
      | succ k =>
        simp only [List.getElem?_cons_succ] at hr
        rcases set_get hq with ⟨rfl, rfl⟩ | ⟨hj, hq1⟩ <;> rcases set_get hr with ⟨rfl, rfl⟩ | ⟨hk, hr1⟩
        · exact hjk rfl
        · exact hS.apart j k o r (by omega) hi hr1 b (f2 b hb) hb'
        · exact hS.apart j k q o (by omega) hq1 hi b hb (f2 b hb')
        · exact hS.apart j k q r (by omega) hq1 hr1 b hb hb'
end
section
variable {κ α : Type} [DecidableEq κ]
abbrev BagM (κ α : Type) := List (κ × Value × List α)
def bagAt (m : BagM κ α) (k : κ) : Value × List α := (mget m k).getD (.slice none 0 0, [])
variable {P : Program} {f : Slots} {ty : TypeId} {F F' : Fz} {os : List Ow} {h h' : Heap} {r E kk : Nat} {ek : κ → Value} {enc : α → List Value} {m : BagM κ α} {i : Nat}
structure NfBI (kk : Nat) (enc : α → List Value) (h : Heap) (m : BagM κ α) : Prop where
  all : ∀ p ∈ m, SliceIs h kk enc p.2.1 p.2.2
structure NfB (kk : Nat) (enc : α → List Value) (F : Fz) (h : Heap) (m : BagM κ α) : Prop where
  all : ∀ p ∈ m, SliceF F h kk enc p.2.1 p.2.2
theorem NfB.kp (q : NfB kk enc F h m) (k : Kp F h F' h') : NfB kk enc F' h' m := ⟨fun p hp => (q.all p hp).kp k⟩
theorem NfB.is (q : NfB kk enc F h m) : NfBI kk enc h m := ⟨fun p hp => (q.all p hp).is⟩
theorem mget_mem {m : BagM κ α} {k : κ} {x : Value × List α} (h : mget m k = some x) : ∃ p ∈ m, p.2 = x := by
  induction m with
  | nil => cases h
  | cons p r ih =>
    rw [mget_cons] at h
    split at h
    · exact ⟨p, by simp, Option.some.inj h⟩
    · obtain ⟨q, hq, e⟩ := ih h; exact ⟨q, by simp [hq], e⟩
theorem NfB.at_ (q : NfB kk enc F h m) (k : κ) : SliceF F h kk enc (bagAt m k).1 (bagAt m k).2 := by
  unfold bagAt
  cases e : mget m k with
  | none => exact SliceF.nil F h kk enc
  | some x => obtain ⟨p, hp, rfl⟩ := mget_mem e; exact q.all p hp
theorem NfB.nil (kk : Nat) (enc : α → List Value) (F : Fz) (h : Heap) : NfB kk enc F h ([] : BagM κ α) := ⟨by simp⟩
theorem NfB.put (q : NfB kk enc F h m) {k : κ} {v : Value} {l : List α} (s : SliceF F h kk enc v l) : NfB kk enc F h (mset m k (v, l)) := by
  refine ⟨fun p hp => ?_⟩
  have : p ∈ m ∨ p = (k, v, l) := by
    clear q
    induction m with
    | nil => right; simpa [mset] using hp
    | cons a r ih =>
      unfold mset at hp
      split at hp
      · rcases List.mem_cons.1 hp with e | hp
        · exact .inr e
        · exact .inl (by simp [hp])
      · rcases List.mem_cons.1 hp with e | hp
        · exact .inl (by simp [e])
        · rcases ih hp with e | e
          · exact .inl (by simp [e])
          · exact .inr e
  rcases this with h1 | rfl
  · exact q.all p h1
  · exact s
theorem NfB.del (q : NfB kk enc F h m) (k : κ) : NfB kk enc F h (mdel m k) := ⟨fun p hp => q.all p (List.mem_filter.1 hp).1⟩
end
end Go.Wk
