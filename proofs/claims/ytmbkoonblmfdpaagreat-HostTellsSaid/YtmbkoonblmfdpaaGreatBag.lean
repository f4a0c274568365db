/- Maps whose values are slices of one's own: a bag; a bag with one slice taken out; a bag that stays. -/
import Derived.Test.YtmbkoonblmfdpaaGreatRo
set_option linter.unusedSimpArgs false
set_option linter.unusedVariables false
set_option linter.unusedSectionVars false
namespace Go.Wk
open Go.HL
variable [DM]
section
variable {F : Fz} {os : List Ow} {h h' : Heap} {o o1 o2 : Ow}
def Ow.both (o1 o2 : Ow) : Ow where
  foot b := o1.foot b ∨ o2.foot b
  inv h := o1.inv h /\ o2.inv h
  lt h b hi hb := hb.elim (o1.lt h b hi.1) (o2.lt h b hi.2)
  loc h h' hi hk := ⟨o1.loc h h' hi.1 fun b hb => hk b (.inl hb), o2.loc h h' hi.2 fun b hb => hk b (.inr hb)⟩
theorem Jy {i j : Nat} {q : Ow} (hq : (os.set i o)[j]? = some q) : (j = i /\ q = o) ∨ (j ≠ i /\ os[j]? = some q) := by
  rw [List.getElem?_set] at hq
  by_cases e : i = j
  · subst e; rw [if_pos rfl] at hq
    split at hq
    · left; exact ⟨rfl, by injection hq with hq; exact hq.symm⟩
    · cases hq
  · rw [if_neg e] at hq; exact .inr ⟨fun e' => e e'.symm, hq⟩
theorem St.joined (hS : St F (o1 :: os) h) (i : Nat) (hi : os[i]? = some o2) : St F (os.set i (Ow.both o1 o2)) h := by
  have hi' : (o1 :: os)[i + 1]? = some o2 := by simpa using hi
  have up : ∀ {j : Nat} {q : Ow}, os[j]? = some q -> (o1 :: os)[j + 1]? = some q := fun hq => by simpa using hq
  refine ⟨hS.fz, ?_, ?_, ?_⟩
  · intro j q hq
    rcases Jy hq with ⟨rfl, rfl⟩ | ⟨_, hq⟩
    · exact ⟨hS.inv 0 o1 rfl, hS.inv _ o2 hi'⟩
    · exact hS.inv _ q (up hq)
  · intro j q hq b hb
    rcases Jy hq with ⟨rfl, rfl⟩ | ⟨_, hq⟩
    · rcases hb with hb | hb
      · exact hS.off 0 o1 rfl b hb
      · exact hS.off _ o2 hi' b hb
    · exact hS.off _ q (up hq) b hb
  · intro j k q r hjk hq hr b hb hb'
    rcases Jy hq with ⟨rfl, rfl⟩ | ⟨hj, hq1⟩ <;> rcases Jy hr with ⟨rfl, rfl⟩ | ⟨hk, hr1⟩
    · exact hjk rfl
    · rcases hb with hb | hb
      · exact hS.apart 0 (k + 1) o1 r (by omega) rfl (up hr1) b hb hb'
      · exact hS.apart (j + 1) (k + 1) o2 r (by omega) hi' (up hr1) b hb hb'
    · rcases hb' with hb' | hb'
      · exact hS.apart (j + 1) 0 q o1 (by omega) (up hq1) rfl b hb hb'
      · exact hS.apart (j + 1) (k + 1) q o2 (by omega) (up hq1) hi' b hb hb'
    · exact hS.apart (j + 1) (k + 1) q r (by omega) (up hq1) (up hr1) b hb hb'
theorem St.parted (hS : St F os h) (i : Nat) (hi : os[i]? = some o) (h1 : o1.inv h) (h2 : o2.inv h) (f1 : ∀ b, o1.foot b -> o.foot b) (f2 : ∀ b, o2.foot b -> o.foot b) (ha : ∀ b, o1.foot b -> ¬ o2.foot b) : St F (o1 :: os.set i o2) h := by
  refine ⟨hS.fz, ?_, ?_, ?_⟩
  · intro j q hq
    cases j with
    | zero => simp only [List.getElem?_cons_zero, Option.some.injEq] at hq; subst hq; exact h1
    | succ j =>
      simp only [List.getElem?_cons_succ] at hq
      rcases Jy hq with ⟨rfl, rfl⟩ | ⟨_, hq⟩
      · exact h2
      · exact hS.inv j q hq
  · intro j q hq b hb
    cases j with
    | zero => simp only [List.getElem?_cons_zero, Option.some.injEq] at hq; subst hq; exact hS.off i o hi b (f1 b hb)
    | succ j =>
      simp only [List.getElem?_cons_succ] at hq
      rcases Jy hq with ⟨rfl, rfl⟩ | ⟨_, hq⟩
      · exact hS.off j o hi b (f2 b hb)
      · exact hS.off j q hq b hb
  · have one : ∀ (j : Nat) (q : Ow), (os.set i o2)[j]? = some q -> ∀ b, o1.foot b -> ¬ q.foot b := by
      intro j q hq b hb hb'
      rcases Jy hq with ⟨rfl, rfl⟩ | ⟨hj, hq⟩
      · exact ha b hb hb'
      · exact hS.apart i j o q (by omega) hi hq b (f1 b hb) hb'
    intro j k q r hjk hq hr b hb hb'
    cases j with
    | zero =>
      simp only [List.getElem?_cons_zero, Option.some.injEq] at hq; subst hq
      cases k with
      | zero => exact hjk rfl
      | succ k => simp only [List.getElem?_cons_succ] at hr; exact one k r hr b hb hb'
    | succ j =>
      simp only [List.getElem?_cons_succ] at hq
      cases k with
      | zero => simp only [List.getElem?_cons_zero, Option.some.injEq] at hr; subst hr; exact one j q hq b hb' hb
      | succ k =>
        simp only [List.getElem?_cons_succ] at hr
        rcases Jy hq with ⟨rfl, rfl⟩ | ⟨hj, hq1⟩ <;> rcases Jy hr with ⟨rfl, rfl⟩ | ⟨hk, hr1⟩
        · exact hjk rfl
        · exact hS.apart j k o r (by omega) hi hr1 b (f2 b hb) hb'
        · exact hS.apart j k q o (by omega) hq1 hi b hb (f2 b hb')
        · exact hS.apart j k q r (by omega) hq1 hr1 b hb hb'
end
section
variable {κ α : Type} [DecidableEq κ]
abbrev Ze (κ α : Type) := List (κ × Value × List α)
abbrev ajn : Value × List α -> Value := fun x => x.1
def Td (m : Ze κ α) (k : κ) : Value × List α := (qU m k).getD (.slice none 0 0, [])
structure ae4 (h : Heap) (r : Nat) (ek : κ -> Value) (E kk : Nat) (enc : α -> List Value) (m : Ze κ α) (but : Option κ) : Prop where
  map : qV h r ek ajn m
  own : ∀ p ∈ m, but ≠ some p.1 -> kL h 0 E kk enc p.2.1 p.2.2
  off : ∀ p ∈ m, but ≠ some p.1 -> lC p.2.1 ≠ some r
  apart : ∀ p ∈ m, ∀ q ∈ m, but ≠ some p.1 -> but ≠ some q.1 -> p.1 ≠ q.1 -> ∀ b, lC p.2.1 = some b -> lC q.2.1 ≠ some b
def Ow.bag (r : Nat) (ek : κ -> Value) (E kk : Nat) (enc : α -> List Value) (m : Ze κ α) (but : Option κ) : Ow where
  foot x := x = r ∨ ∃ p ∈ m, but ≠ some p.1 /\ lC p.2.1 = some x
  inv h := ae4 h r ek E kk enc m but
  lt h x hi hx := by
    rcases hx with rfl | ⟨p, hp, hb, hx⟩
    · exact hi.map.lt
    · exact (hi.own p hp hb).lt hx
  loc h h' hi hk := by
    refine ⟨?_, fun p hp hb => (hi.own p hp hb).keep fun b hx => hk b (.inr ⟨p, hp, hb, hx⟩), hi.off, hi.apart⟩
    obtain ⟨es, c, hb, he⟩ := hi.map
    exact ⟨es, c, (hk r (.inl rfl)).trans hb, he⟩
variable {P : Program} {f : kT} {ty : TypeId} {F F' : Fz} {os : List Ow} {h h' : Heap} {r E kk : Nat} {ek : κ -> Value} {enc : α -> List Value} {m : Ze κ α} {i : Nat}
theorem St.bg (hS : St F os h) (i : Nat) {but : Option κ} (hi : os[i]? = some (Ow.bag r ek E kk enc m but)) : ae4 h r ek E kk enc m but := hS.inv i _ hi
structure ajp (kk : Nat) (enc : α -> List Value) (h : Heap) (m : Ze κ α) : Prop where
  all : ∀ p ∈ m, gY h kk enc p.2.1 p.2.2
structure ZW (kk : Nat) (enc : α -> List Value) (F : Fz) (h : Heap) (m : Ze κ α) : Prop where
  all : ∀ p ∈ m, az F h kk enc p.2.1 p.2.2
theorem ZW.kp (q : ZW kk enc F h m) (k : Kp F h F' h') : ZW kk enc F' h' m := ⟨fun p hp => (q.all p hp).kp k⟩
theorem ZW.is (q : ZW kk enc F h m) : ajp kk enc h m := ⟨fun p hp => (q.all p hp).is⟩
theorem YJ {m : Ze κ α} {k : κ} {x : Value × List α} (h : qU m k = some x) : ∃ p ∈ m, p.2 = x := by
  induction m with
  | nil => cases h
  | cons p r ih =>
    rw [nV] at h
    split at h
    · exact ⟨p, by simp, Option.some.inj h⟩
    · obtain ⟨q, hq, e⟩ := ih h; exact ⟨q, by simp [hq], e⟩
theorem ZW.at_ (q : ZW kk enc F h m) (k : κ) : az F h kk enc (Td m k).1 (Td m k).2 := by
  unfold Td
  cases e : qU m k with
  | none => exact az.nil F h kk enc
  | some x => obtain ⟨p, hp, rfl⟩ := YJ e; exact q.all p hp
theorem ZW.nil (kk : Nat) (enc : α -> List Value) (F : Fz) (h : Heap) : ZW kk enc F h ([] : Ze κ α) := ⟨by simp⟩
theorem ZW.put (q : ZW kk enc F h m) {k : κ} {v : Value} {l : List α} (s : az F h kk enc v l) : ZW kk enc F h (zU m k (v, l)) := by
  refine ⟨fun p hp => ?_⟩
  have : p ∈ m ∨ p = (k, v, l) := by
    clear q
    induction m with
    | nil => right; simpa [zU] using hp
    | cons a r ih =>
      unfold zU at hp
      split at hp
      · rcases List.mem_cons.1 hp with e | hp
        · exact .inr e
        · exact .inl (by simp [hp])
      · rcases List.mem_cons.1 hp with e | hp
        · exact .inl (by simp [e])
        · rcases ih hp with e | e
          · exact .inl (by simp [e])
          · exact .inr e
  rcases this with h1 | rfl
  · exact q.all p h1
  · exact s
theorem ZW.del (q : ZW kk enc F h m) (k : κ) : ZW kk enc F h (yA m k) := ⟨fun p hp => q.all p (List.mem_filter.1 hp).1⟩
end
end Go.Wk
