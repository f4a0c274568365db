/- Plain words: a small living call; timers that run out. -/
import Derived.Test.YtokodpeigafenaaFilP
set_option linter.unusedSimpArgs false
set_option linter.unusedVariables false
set_option linter.unusedSectionVars false
namespace Go.Wk
open Go.HL
variable [DM]
/-! ### A small living call -/
def four (n : Int) : Ad := (false, mkB 16 [10, 0, 0, n, 0, 0, 0, 0, 0, 0, 0, 0, 0, 0, 0, 0])
theorem four_ok {n : Int} {Q : Ad → Prop} (h0 : 0 ≤ n ∧ n < 256) (h : Q (four n)) : law15_four_W n Q := ⟨h0, h⟩
instance (a b : Ad) : Decidable (aLt a b) := inferInstanceAs (Decidable (aCmp a b < 0))
theorem lives_few : FewS false [four 1, four 2] [] where
  sOn := ⟨by decide +kernel, by decide +kernel⟩
  sOff := ASet.nil
  apart := by simp
  inc := fun _ => rfl
  lon := by simp
  loff := by simp
theorem lives_ok {Q : Bool → Prop} (h : Q true) : law15_lives_W Q := by
  refine four_ok (by decide) (four_ok (by decide) (four_ok (by decide) (four_ok (by decide) (applyP_ok lives_few (by simp) ?_))))
  intro E On Off Full Rest G Ask All hE hOn hOff _ _ hG _ _
  have e1 : On = [four 2] := hOn.trans (by decide +kernel)
  have e2 : Off = [four 3] := hOff.trans (by decide +kernel)
  have e3 : E = true := hE.trans (by decide)
  have e4 : G = true := hG.trans (by decide)
  have s1 : ASet [four 2] := ⟨by simp, by decide +kernel⟩
  have s2 : ASet [four 3] := ⟨by simp, by decide +kernel⟩
  subst e1 e2 e3 e4
  refine ⟨fun _ => ⟨fun _ => ⟨by simp, four_ok (by decide) ⟨fun _ => ⟨fun _ => ⟨fun _ => four_ok (by decide) (letsP_ok s1 s2 (by simp) (by simp) ?_), fun c => (by cases c)⟩, fun c => absurd rfl c⟩, fun c => absurd rfl c⟩⟩, fun c => absurd rfl c⟩, fun c => (by cases c)⟩
  rw [show lets true [four 2] [four 3] (four 9) = true by decide +kernel]
  refine ⟨fun _ => four_ok (by decide) (letsP_ok s1 s2 (by simp) (by simp) ?_), fun c => (by cases c)⟩
  rw [show lets true [four 2] [four 3] (four 3) = false by decide +kernel]
  exact h
theorem take66 (l : List Ad) : (l.take 6).take 6 = l.take 6 := by rw [List.take_take]; rfl
/-! ### FilterLets -/
theorem own_ok {e : Bool} {on off : List Ad} {Q : Bool → List Ad → List Ad → Prop} (l1 : on.length ≤ 1000) (l2 : off.length ≤ 1000) (h : Q e on off) : filter_own_W e on off Q := clone_Ad (by omega) (clone_Ad (by omega) h)
def expOff (e : Bool) (on off b : List Ad) : List Ad := if e then orL off (andL on b) else off
theorem expireP_ok {e : Bool} {on off l : List Ad} {Q : Bool → List Ad → List Ad → Prop} (hF : FewS e on off) (hl : l.length ≤ 100) (h : Q e (minusL on (ofL l)) (expOff e on off (ofL l))) : filter_Expire_W e on off l Q := by
  have q1 := hF.lon
  have q2 := hF.loff
  have lo := ofL_len l
  have la := filt_len on (aIn (ofL l))
  refine ofP_ok (by omega) (own_ok (by omega) (by omega) (minusP_ok hF.sOn (ofL_set l) (by omega) ⟨fun c => andP_ok hF.sOn (ofL_set l) (by omega) (orP_ok hF.sOff (hF.sOn.filter _) (by unfold andL; omega) ?_), fun c => ?_⟩))
  · unfold expOff at h; rw [if_pos c] at h; exact h
  · unfold expOff at h; rw [if_neg (by rw [c]; decide)] at h; exact h
theorem expireR_ok {e : Bool} {on off l : List Ad} {Q : Bool → List Ad → List Ad → Prop} (l1 : on.length ≤ 1000) (l2 : off.length ≤ 1000) (l3 : l.length ≤ 1000) (h : Q e (minusL on l) (expOff e on off l)) : ref15_Expire_W e on off l Q := by
  have la := filt_len on (aIn l)
  refine pickR_ok (by omega) (by omega) ?_
  rw [pick_false]
  refine ⟨fun c => pickR_ok (by omega) (by omega) ?_, fun c => ?_⟩
  · rw [pick_true]
    refine orR_ok (by omega) (by unfold andL; omega) ?_
    unfold expOff at h; rw [if_pos c] at h; exact h
  · unfold expOff at h; rw [if_neg (by rw [c]; decide)] at h; exact h
theorem in_of {on l : List Ad} (h : ASet on) {x : Ad} (hx : x ∈ on) : aIn (ofL l) x = aIn l x := by
  rw [Bool.eq_iff_iff, aIn_iff, aIn_iff, mem_ofL]; exact ⟨fun q => q.1, fun q => ⟨q, h.good x hx⟩⟩
theorem minus_of {on l : List Ad} (h : ASet on) : minusL on (ofL l) = minusL on l := List.filter_congr fun x hx => by rw [in_of h hx]
theorem and_of {on l : List Ad} (h : ASet on) : andL on (ofL l) = andL on l := List.filter_congr fun x hx => by rw [in_of h hx]
end Go.Wk
