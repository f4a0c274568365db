/- Plain words: what records do to a router's state: the table, source by source; the four laws. -/
import Derived.Test.YtokodpeigafenaaSrcP2
set_option linter.unusedSimpArgs false
set_option linter.unusedVariables false
set_option linter.unusedSectionVars false
namespace Go.Wk
open Go.HL
variable [DM]
def kI (k : Int) : Bool := decide (k = 1 ∨ k = 3 ∨ k = 5)
def kX (k : Int) : Bool := decide (k = 2 ∨ k = 4)
/-- What becomes of a source: e: left out; a, b: it is on, off; c: it is said. -/
def gOn (e : Bool) (k : Int) (a b c : Bool) : Bool := if c && !a && !b && e && (kX k || decide (k = 6)) then true else if kX k && !c then false else if kI k && c then true else a
def gOff (e : Bool) (k : Int) (a b c : Bool) : Bool := if c && !a && !b && !e && kX k then true else if kX k && !c then false else if kI k && c then false else b
def gFull (e : Bool) (k : Int) (a b c : Bool) : Bool := (kI k && c) || (c && !a && !b && e && (kX k || decide (k = 6)) && decide (k = 2))
def gRest (e : Bool) (k : Int) (a b c : Bool) : Bool := c && !a && !b && e && (kX k || decide (k = 6)) && !decide (k = 2)
def gAsk (e : Bool) (k : Int) (a b c : Bool) : Bool := if decide (k = 6) || decide (k = 4) then c && (a || (e && !b)) else decide (k = 3) && a && !c
def allL (on off b : List Ad) : List Ad := orL (orL on off) b
def pickL (g : Bool → Bool → Bool → Bool) (on off b : List Ad) : List Ad := (allL on off b).filter fun x => g (aIn on x) (aIn off x) (aIn b x)
/-- A state as it may be. -/
structure FewS (e : Bool) (on off : List Ad) : Prop where
  sOn : ASet on
  sOff : ASet off
  apart : ∀ x, x ∈ on → x ∉ off
  inc : e = false → off = []
  lon : on.length ≤ 100
  loff : off.length ≤ 100
theorem aIn_iff {l : List Ad} {x : Ad} : aIn l x = true ↔ x ∈ l := by unfold aIn; simp
/-- A set, source by source. -/
structure Ch (e : Bool) (on off b m : List Ad) (f : Bool → Bool → Bool → Bool) : Prop where
  set : ASet m
  is : ∀ x, aIn m x = f (aIn on x) (aIn off x) (aIn b x)
section
variable {e : Bool} {on off b m n : List Ad} {f g : Bool → Bool → Bool → Bool}
theorem Ch.cOn (h : FewS e on off) : Ch e on off b on (fun a _ _ => a) := ⟨h.sOn, fun _ => rfl⟩
theorem Ch.cOff (h : FewS e on off) : Ch e on off b off (fun _ a _ => a) := ⟨h.sOff, fun _ => rfl⟩
theorem Ch.cB (h : ASet b) : Ch e on off b b (fun _ _ a => a) := ⟨h, fun _ => rfl⟩
theorem Ch.cNil : Ch e on off b [] (fun _ _ _ => false) := ⟨ASet.nil, fun _ => rfl⟩
theorem Ch.cOr (h : Ch e on off b m f) (k : Ch e on off b n g) : Ch e on off b (orL m n) (fun a b c => f a b c || g a b c) :=
  ⟨orL_set _ _, fun x => by rw [← h.is, ← k.is, Bool.eq_iff_iff, aIn_iff, Bool.or_eq_true, aIn_iff, aIn_iff]; exact mem_orL h.set k.set⟩
theorem Ch.cAnd (h : Ch e on off b m f) (k : Ch e on off b n g) : Ch e on off b (andL m n) (fun a b c => f a b c && g a b c) :=
  ⟨h.set.filter _, fun x => by rw [← h.is, ← k.is, Bool.eq_iff_iff, aIn_iff, Bool.and_eq_true, aIn_iff, aIn_iff]; exact mem_andL⟩
theorem Ch.cMinus (h : Ch e on off b m f) (k : Ch e on off b n g) : Ch e on off b (minusL m n) (fun a b c => f a b c && !g a b c) :=
  ⟨h.set.filter _, fun x => by rw [← h.is, ← k.is, Bool.eq_iff_iff, aIn_iff, Bool.and_eq_true, aIn_iff, Bool.not_eq_true', ← Bool.not_eq_true, aIn_iff]; exact mem_minusL⟩
theorem Ch.eq (hF : FewS e on off) (hb : ASet b) (h : Ch e on off b m f) (hg : ∀ x y z : Bool, (x && y) = false → (e || !y) = true → f x y z = ((x || y || z) && g x y z)) : m = pickL g on off b := by
  refine h.set.ext ((orL_set _ _).filter _) fun x => ?_
  show x ∈ m ↔ x ∈ pickL g on off b
  rw [← aIn_iff, h.is, hg _ _ _ ?_ ?_, Bool.and_eq_true]
  · unfold pickL
    rw [List.mem_filter]
    refine and_congr ?_ Iff.rfl
    unfold allL
    rw [mem_orL (orL_set _ _) hb, mem_orL hF.sOn hF.sOff, Bool.or_eq_true, Bool.or_eq_true, aIn_iff, aIn_iff, aIn_iff]
  · cases hx : aIn on x
    · rfl
    · cases hy : aIn off x
      · rfl
      · exact absurd (aIn_iff.1 hy) (hF.apart x (aIn_iff.1 hx))
  · cases he : e
    · have : aIn off x = false := by rw [hF.inc he]; rfl
      rw [this]; rfl
    · rfl
theorem pickL_set : ASet (pickL g on off b) := (orL_set _ _).filter _
theorem mem_pickL (hF : FewS e on off) (hb : ASet b) {x : Ad} : x ∈ pickL g on off b ↔ (x ∈ on ∨ x ∈ off ∨ x ∈ b) ∧ g (aIn on x) (aIn off x) (aIn b x) = true := by
  unfold pickL allL
  rw [List.mem_filter, mem_orL (orL_set _ _) hb, mem_orL hF.sOn hF.sOff, or_assoc]
theorem pickL_len (hlon : on.length ≤ 100) (hloff : off.length ≤ 100) (hlb : b.length ≤ 100) : (pickL g on off b).length ≤ 300 := by
  have h1 := orL_len (orL on off) b
  have h2 := orL_len on off
  have h3 := List.length_filter_le (fun x => g (aIn on x) (aIn off x) (aIn b x)) (allL on off b)
  unfold pickL; unfold allL at h3 ⊢; omega
end
theorem filt_len (l : List Ad) (p : Ad → Bool) : (l.filter p).length ≤ l.length := List.length_filter_le p l
/-- What a step of the program's comes to. -/
abbrev StepQ := Bool → List Ad → List Ad → List Ad → List Ad → Bool → List Ad → Bool → Prop
def AsSaid (e : Bool) (k : Int) (on off b : List Ad) (Q : StepQ) : Prop :=
  ∀ E On Off Full Rest G Ask All, E = (e || kX k) → On = pickL (gOn e k) on off b → Off = pickL (gOff e k) on off b → Full = pickL (gFull e k) on off b → Rest = pickL (gRest e k) on off b → G = kX k → Ask = pickL (gAsk e k) on off b → All = (e && decide (k = 3)) → Q E On Off Full Rest G Ask All
theorem includeP_ok {kind : Int} {on off b : List Ad} {Q : StepQ} (hF : FewS false on off) (hb : ASet b) (hl : b.length ≤ 100) (hQ : AsSaid false kind on off b Q) : filter_include_W on kind b Q := by
  have l1 := hF.lon
  have l2 := hF.loff
  have ho := hF.inc rfl
  subst ho
  unfold AsSaid at hQ
  by_cases k1 : kind = 1
  · subst k1
    unfold filter_include_W filter_include_j1 filter_include_j3 filter_include_j2 filter_include_j4
    simp only [reduceCtorEq, Int.reduceEq, Int.reduceNeg, decide_true, decide_false, true_implies, not_true_eq_false, not_false_eq_true, false_implies, true_and, and_true, Bool.true_eq_false, Bool.false_eq_true]
    exact orP_ok hF.sOn hb (by omega) (hQ _ _ _ _ _ _ _ _ rfl ((Ch.cOr (Ch.cOn hF) (Ch.cB hb)).eq hF hb (by decide)) (Ch.cNil.eq hF hb (by decide)) ((Ch.cB hb).eq hF hb (by decide)) (Ch.cNil.eq hF hb (by decide)) rfl (Ch.cNil.eq hF hb (by decide)) rfl)
  by_cases k2 : kind = 2
  · subst k2
    unfold filter_include_W filter_include_j1 filter_include_j3 filter_include_j2 filter_include_j4
    simp only [reduceCtorEq, Int.reduceEq, Int.reduceNeg, decide_true, decide_false, true_implies, not_true_eq_false, not_false_eq_true, false_implies, true_and, and_true, Bool.true_eq_false, Bool.false_eq_true]
    exact andP_ok hF.sOn hb (by omega) (minusP_ok hb hF.sOn (by omega) (hQ _ _ _ _ _ _ _ _ rfl ((Ch.cAnd (Ch.cOn hF) (Ch.cB hb)).eq hF hb (by decide)) ((Ch.cMinus (Ch.cB hb) (Ch.cOn hF)).eq hF hb (by decide)) (Ch.cNil.eq hF hb (by decide)) (Ch.cNil.eq hF hb (by decide)) rfl (Ch.cNil.eq hF hb (by decide)) rfl))
  by_cases k3 : kind = 3
  · subst k3
    unfold filter_include_W filter_include_j1 filter_include_j3 filter_include_j2 filter_include_j4
    simp only [reduceCtorEq, Int.reduceEq, Int.reduceNeg, decide_true, decide_false, true_implies, not_true_eq_false, not_false_eq_true, false_implies, true_and, and_true, Bool.true_eq_false, Bool.false_eq_true]
    exact orP_ok hF.sOn hb (by omega) (minusP_ok hF.sOn hb (by omega) (hQ _ _ _ _ _ _ _ _ rfl ((Ch.cOr (Ch.cOn hF) (Ch.cB hb)).eq hF hb (by decide)) (Ch.cNil.eq hF hb (by decide)) ((Ch.cB hb).eq hF hb (by decide)) (Ch.cNil.eq hF hb (by decide)) rfl ((Ch.cMinus (Ch.cOn hF) (Ch.cB hb)).eq hF hb (by decide)) rfl))
  by_cases k4 : kind = 4
  · subst k4
    unfold filter_include_W filter_include_j1 filter_include_j3 filter_include_j2 filter_include_j4
    simp only [reduceCtorEq, Int.reduceEq, Int.reduceNeg, decide_true, decide_false, true_implies, not_true_eq_false, not_false_eq_true, false_implies, true_and, and_true, Bool.true_eq_false, Bool.false_eq_true]
    exact andP_ok hF.sOn hb (by omega) (minusP_ok hb hF.sOn (by omega) (clone_Ad (by have := filt_len on (aIn b); unfold andL; omega) (hQ _ _ _ _ _ _ _ _ rfl ((Ch.cAnd (Ch.cOn hF) (Ch.cB hb)).eq hF hb (by decide)) ((Ch.cMinus (Ch.cB hb) (Ch.cOn hF)).eq hF hb (by decide)) (Ch.cNil.eq hF hb (by decide)) (Ch.cNil.eq hF hb (by decide)) rfl ((Ch.cAnd (Ch.cOn hF) (Ch.cB hb)).eq hF hb (by decide)) rfl)))
  by_cases k5 : kind = 5
  · subst k5
    unfold filter_include_W filter_include_j1 filter_include_j3 filter_include_j2 filter_include_j4
    simp only [reduceCtorEq, Int.reduceEq, Int.reduceNeg, decide_true, decide_false, true_implies, not_true_eq_false, not_false_eq_true, false_implies, true_and, and_true, Bool.true_eq_false, Bool.false_eq_true]
    exact orP_ok hF.sOn hb (by omega) (hQ _ _ _ _ _ _ _ _ rfl ((Ch.cOr (Ch.cOn hF) (Ch.cB hb)).eq hF hb (by decide)) (Ch.cNil.eq hF hb (by decide)) ((Ch.cB hb).eq hF hb (by decide)) (Ch.cNil.eq hF hb (by decide)) rfl (Ch.cNil.eq hF hb (by decide)) rfl)
  by_cases k6 : kind = 6
  · subst k6
    unfold filter_include_W filter_include_j1 filter_include_j3 filter_include_j2 filter_include_j4
    simp only [reduceCtorEq, Int.reduceEq, Int.reduceNeg, decide_true, decide_false, true_implies, not_true_eq_false, not_false_eq_true, false_implies, true_and, and_true, Bool.true_eq_false, Bool.false_eq_true]
    exact clone_Ad (by omega) (andP_ok hF.sOn hb (by omega) (hQ _ _ _ _ _ _ _ _ rfl ((Ch.cOn hF).eq hF hb (by decide)) (Ch.cNil.eq hF hb (by decide)) (Ch.cNil.eq hF hb (by decide)) (Ch.cNil.eq hF hb (by decide)) rfl ((Ch.cAnd (Ch.cOn hF) (Ch.cB hb)).eq hF hb (by decide)) rfl))
  unfold filter_include_W filter_include_j1 filter_include_j3 filter_include_j2 filter_include_j4
  simp only [k1, k2, k3, k4, k5, k6, decide_true, decide_false, true_implies, not_true_eq_false, not_false_eq_true, false_implies, true_and, and_true, Bool.true_eq_false, Bool.false_eq_true, reduceCtorEq]
  exact clone_Ad (by omega) (hQ _ _ _ _ _ _ _ _ (by simp [kX, k1, k2, k3, k4, k5, k6]) ((Ch.cOn hF).eq hF hb (by intro x y z; cases x <;> cases y <;> cases z <;> simp [gOn, gOff, gFull, gRest, gAsk, kI, kX, k1, k2, k3, k4, k5, k6])) (Ch.cNil.eq hF hb (by intro x y z; cases x <;> cases y <;> cases z <;> simp [gOn, gOff, gFull, gRest, gAsk, kI, kX, k1, k2, k3, k4, k5, k6])) (Ch.cNil.eq hF hb (by intro x y z; cases x <;> cases y <;> cases z <;> simp [gOn, gOff, gFull, gRest, gAsk, kI, kX, k1, k2, k3, k4, k5, k6])) (Ch.cNil.eq hF hb (by intro x y z; cases x <;> cases y <;> cases z <;> simp [gOn, gOff, gFull, gRest, gAsk, kI, kX, k1, k2, k3, k4, k5, k6])) (by simp [kX, k1, k2, k3, k4, k5, k6]) (Ch.cNil.eq hF hb (by intro x y z; cases x <;> cases y <;> cases z <;> simp [gOn, gOff, gFull, gRest, gAsk, kI, kX, k1, k2, k3, k4, k5, k6])) (by simp [k1, k2, k3, k4, k5, k6]))
theorem excludeP_ok {kind : Int} {on off b : List Ad} {Q : StepQ} (hF : FewS true on off) (hb : ASet b) (hl : b.length ≤ 100) (hQ : AsSaid true kind on off b Q) : filter_exclude_W on off kind b Q := by
  have l1 := hF.lon
  have l2 := hF.loff
  unfold AsSaid at hQ
  by_cases k1 : kind = 1
  · subst k1
    unfold filter_exclude_W filter_exclude_j1
    simp only [reduceCtorEq, Int.reduceEq, Int.reduceNeg, decide_true, decide_false, true_implies, not_true_eq_false, not_false_eq_true, false_implies, true_and, and_true, Bool.true_eq_false, Bool.false_eq_true]
    exact minusP_ok hb hF.sOn (by omega) (minusP_ok (hb.filter _) hF.sOff (by have := filt_len b fun x => !aIn on x; unfold minusL; omega) (minusP_ok hb hF.sOff (by omega) (orP_ok hF.sOn hb (by omega) (minusP_ok hF.sOff hb (by omega) (hQ _ _ _ _ _ _ _ _ rfl ((Ch.cOr (Ch.cOn hF) (Ch.cB hb)).eq hF hb (by decide)) ((Ch.cMinus (Ch.cOff hF) (Ch.cB hb)).eq hF hb (by decide)) ((Ch.cB hb).eq hF hb (by decide)) (Ch.cNil.eq hF hb (by decide)) rfl (Ch.cNil.eq hF hb (by decide)) rfl)))))
  by_cases k2 : kind = 2
  · subst k2
    unfold filter_exclude_W filter_exclude_j1
    simp only [reduceCtorEq, Int.reduceEq, Int.reduceNeg, decide_true, decide_false, true_implies, not_true_eq_false, not_false_eq_true, false_implies, true_and, and_true, Bool.true_eq_false, Bool.false_eq_true]
    exact minusP_ok hb hF.sOn (by omega) (minusP_ok (hb.filter _) hF.sOff (by have := filt_len b fun x => !aIn on x; unfold minusL; omega) (minusP_ok hb hF.sOff (by omega) (andP_ok hF.sOff hb (by omega) (hQ _ _ _ _ _ _ _ _ rfl ((Ch.cMinus (Ch.cB hb) (Ch.cOff hF)).eq hF hb (by decide)) ((Ch.cAnd (Ch.cOff hF) (Ch.cB hb)).eq hF hb (by decide)) ((Ch.cMinus (Ch.cMinus (Ch.cB hb) (Ch.cOn hF)) (Ch.cOff hF)).eq hF hb (by decide)) (Ch.cNil.eq hF hb (by decide)) rfl (Ch.cNil.eq hF hb (by decide)) rfl))))
  by_cases k3 : kind = 3
  · subst k3
    unfold filter_exclude_W filter_exclude_j1
    simp only [reduceCtorEq, Int.reduceEq, Int.reduceNeg, decide_true, decide_false, true_implies, not_true_eq_false, not_false_eq_true, false_implies, true_and, and_true, Bool.true_eq_false, Bool.false_eq_true]
    exact minusP_ok hb hF.sOn (by omega) (minusP_ok (hb.filter _) hF.sOff (by have := filt_len b fun x => !aIn on x; unfold minusL; omega) (minusP_ok hb hF.sOff (by omega) (orP_ok hF.sOn hb (by omega) (minusP_ok hF.sOff hb (by omega) (minusP_ok hF.sOn hb (by omega) (hQ _ _ _ _ _ _ _ _ rfl ((Ch.cOr (Ch.cOn hF) (Ch.cB hb)).eq hF hb (by decide)) ((Ch.cMinus (Ch.cOff hF) (Ch.cB hb)).eq hF hb (by decide)) ((Ch.cB hb).eq hF hb (by decide)) (Ch.cNil.eq hF hb (by decide)) rfl ((Ch.cMinus (Ch.cOn hF) (Ch.cB hb)).eq hF hb (by decide)) rfl))))))
  by_cases k4 : kind = 4
  · subst k4
    unfold filter_exclude_W filter_exclude_j1
    simp only [reduceCtorEq, Int.reduceEq, Int.reduceNeg, decide_true, decide_false, true_implies, not_true_eq_false, not_false_eq_true, false_implies, true_and, and_true, Bool.true_eq_false, Bool.false_eq_true]
    exact minusP_ok hb hF.sOn (by omega) (minusP_ok (hb.filter _) hF.sOff (by have := filt_len b fun x => !aIn on x; unfold minusL; omega) (minusP_ok hb hF.sOff (by omega) (andP_ok hF.sOff hb (by omega) (clone_Ad (by have := filt_len b fun x => !aIn off x; unfold minusL; omega) (hQ _ _ _ _ _ _ _ _ rfl ((Ch.cMinus (Ch.cB hb) (Ch.cOff hF)).eq hF hb (by decide)) ((Ch.cAnd (Ch.cOff hF) (Ch.cB hb)).eq hF hb (by decide)) (Ch.cNil.eq hF hb (by decide)) ((Ch.cMinus (Ch.cMinus (Ch.cB hb) (Ch.cOn hF)) (Ch.cOff hF)).eq hF hb (by decide)) rfl ((Ch.cMinus (Ch.cB hb) (Ch.cOff hF)).eq hF hb (by decide)) rfl)))))
  by_cases k5 : kind = 5
  · subst k5
    unfold filter_exclude_W filter_exclude_j1
    simp only [reduceCtorEq, Int.reduceEq, Int.reduceNeg, decide_true, decide_false, true_implies, not_true_eq_false, not_false_eq_true, false_implies, true_and, and_true, Bool.true_eq_false, Bool.false_eq_true]
    exact minusP_ok hb hF.sOn (by omega) (minusP_ok (hb.filter _) hF.sOff (by have := filt_len b fun x => !aIn on x; unfold minusL; omega) (minusP_ok hb hF.sOff (by omega) (orP_ok hF.sOn hb (by omega) (minusP_ok hF.sOff hb (by omega) (hQ _ _ _ _ _ _ _ _ rfl ((Ch.cOr (Ch.cOn hF) (Ch.cB hb)).eq hF hb (by decide)) ((Ch.cMinus (Ch.cOff hF) (Ch.cB hb)).eq hF hb (by decide)) ((Ch.cB hb).eq hF hb (by decide)) (Ch.cNil.eq hF hb (by decide)) rfl (Ch.cNil.eq hF hb (by decide)) rfl)))))
  by_cases k6 : kind = 6
  · subst k6
    unfold filter_exclude_W filter_exclude_j1
    simp only [reduceCtorEq, Int.reduceEq, Int.reduceNeg, decide_true, decide_false, true_implies, not_true_eq_false, not_false_eq_true, false_implies, true_and, and_true, Bool.true_eq_false, Bool.false_eq_true]
    exact minusP_ok hb hF.sOn (by omega) (minusP_ok (hb.filter _) hF.sOff (by have := filt_len b fun x => !aIn on x; unfold minusL; omega) (minusP_ok hb hF.sOff (by omega) (orP_ok hF.sOn (hb.filter _) (by have := filt_len b fun x => !aIn off x; unfold minusL; omega) (clone_Ad (by omega) (hQ _ _ _ _ _ _ _ _ rfl ((Ch.cOr (Ch.cOn hF) (Ch.cMinus (Ch.cB hb) (Ch.cOff hF))).eq hF hb (by decide)) ((Ch.cOff hF).eq hF hb (by decide)) (Ch.cNil.eq hF hb (by decide)) ((Ch.cMinus (Ch.cMinus (Ch.cB hb) (Ch.cOn hF)) (Ch.cOff hF)).eq hF hb (by decide)) rfl ((Ch.cMinus (Ch.cB hb) (Ch.cOff hF)).eq hF hb (by decide)) rfl)))))
  unfold filter_exclude_W filter_exclude_j1
  simp only [k1, k2, k3, k4, k5, k6, decide_true, decide_false, true_implies, not_true_eq_false, not_false_eq_true, false_implies, true_and, and_true, Bool.true_eq_false, Bool.false_eq_true, reduceCtorEq]
  exact minusP_ok hb hF.sOn (by omega) (minusP_ok (hb.filter _) hF.sOff (by have := filt_len b fun x => !aIn on x; unfold minusL; omega) (minusP_ok hb hF.sOff (by omega) (clone_Ad (by omega) (clone_Ad (by omega) (hQ _ _ _ _ _ _ _ _ (by simp [kX, k1, k2, k3, k4, k5, k6]) ((Ch.cOn hF).eq hF hb (by intro x y z; cases x <;> cases y <;> cases z <;> simp [gOn, gOff, gFull, gRest, gAsk, kI, kX, k1, k2, k3, k4, k5, k6])) ((Ch.cOff hF).eq hF hb (by intro x y z; cases x <;> cases y <;> cases z <;> simp [gOn, gOff, gFull, gRest, gAsk, kI, kX, k1, k2, k3, k4, k5, k6])) (Ch.cNil.eq hF hb (by intro x y z; cases x <;> cases y <;> cases z <;> simp [gOn, gOff, gFull, gRest, gAsk, kI, kX, k1, k2, k3, k4, k5, k6])) (Ch.cNil.eq hF hb (by intro x y z; cases x <;> cases y <;> cases z <;> simp [gOn, gOff, gFull, gRest, gAsk, kI, kX, k1, k2, k3, k4, k5, k6])) (by simp [kX, k1, k2, k3, k4, k5, k6]) (Ch.cNil.eq hF hb (by intro x y z; cases x <;> cases y <;> cases z <;> simp [gOn, gOff, gFull, gRest, gAsk, kI, kX, k1, k2, k3, k4, k5, k6])) (by simp [k1, k2, k3, k4, k5, k6]))))))
theorem applyP_ok {e : Bool} {kind : Int} {on off l : List Ad} {Q : StepQ} (hF : FewS e on off) (hl : l.length ≤ 100) (hQ : AsSaid e kind on off (ofL l) Q) : filter_Apply_W e on off kind l Q := by
  have hl2 := ofL_len l
  refine ofP_ok (by omega) ⟨fun c => ?_, fun c => ?_⟩
  · subst c; exact excludeP_ok hF (ofL_set l) (by omega) hQ
  · subst c; exact includeP_ok hF (ofL_set l) (by omega) hQ
/-! ### States -/
def fOn (on : List Ad) : List Ad := ofL (on.take 6)
def fOff (e : Bool) (on off : List Ad) : List Ad := if e then minusL (ofL (off.take 6)) (fOn on) else []
theorem pick_false (a b : List Ad) : (a.filter fun x => aIn b x == false) = minusL a b := by unfold minusL; congr 1; funext x; cases aIn b x <;> rfl
theorem pick_true (a b : List Ad) : (a.filter fun x => aIn b x == true) = andL a b := by unfold andL; congr 1; funext x; cases aIn b x <;> rfl
theorem take6_len (l : List Ad) : (l.take 6).length ≤ 6 := by rw [List.length_take]; omega
theorem of6_len (l : List Ad) : (ofL (l.take 6)).length ≤ 6 := Nat.le_trans (ofL_len _) (take6_len l)
theorem few_ok {e : Bool} {on off : List Ad} {Q : Bool → List Ad → List Ad → Prop} (h : Q e (fOn on) (fOff e on off)) : law15_Few_W e on off Q := by
  have l1 := take6_len on
  have l2 := take6_len off
  refine addrs_ok (addrs_ok (ofR_ok (by omega) ⟨fun c => ofR_ok (by omega) (pickR_ok (by have := of6_len off; omega) (by have := of6_len on; omega) ?_), fun c => ?_⟩))
  · rw [pick_false]; unfold fOff fOn at h; rw [if_pos c] at h; exact h
  · unfold fOff fOn at h; rw [if_neg (by rw [c]; decide)] at h; exact h
theorem few_set (e : Bool) (on off : List Ad) : FewS e (fOn on) (fOff e on off) where
  sOn := ofL_set _
  sOff := by unfold fOff; split; exact (ofL_set _).filter _; exact ASet.nil
  apart x hx := by
    unfold fOff; split
    · rw [mem_minusL]; exact fun q => q.2 hx
    · simp
  inc h := by unfold fOff; rw [h]; rfl
  lon := by have := of6_len on; unfold fOn; omega
  loff := by
    unfold fOff; split
    · have := of6_len off; have := filt_len (ofL (off.take 6)) fun x => !aIn (fOn on) x; unfold minusL; omega
    · simp
theorem fOn6 (on : List Ad) : (fOn on).length ≤ 6 := of6_len on
theorem fOff6 (e : Bool) (on off : List Ad) : (fOff e on off).length ≤ 6 := by
  unfold fOff; split
  · have := of6_len off; have := filt_len (ofL (off.take 6)) fun x => !aIn (fOn on) x; unfold minusL; omega
  · simp
theorem fOn_id {on : List Ad} (h : ASet on) (hl : on.length ≤ 6) : fOn on = on := by unfold fOn; rw [List.take_of_length_le hl, ofL_id h]
theorem fOff_id {e : Bool} {on off : List Ad} (h : FewS e on off) (h1 : on.length ≤ 6) (h2 : off.length ≤ 6) : fOff e on off = off := by
  unfold fOff
  cases e
  · rw [h.inc rfl]; rfl
  · rw [if_pos rfl, List.take_of_length_le h2, ofL_id h.sOff, fOn_id h.sOn h1]
    unfold minusL
    exact List.filter_eq_self.2 fun x hx => by
      cases hq : aIn on x
      · rfl
      · exact absurd hx (h.apart x (aIn_iff.1 hq))
theorem few_again {e : Bool} {on off : List Ad} {Q : Bool → List Ad → List Ad → Prop} (h : Q e (fOn on) (fOff e on off)) : law15_Few_W e (fOn on) (fOff e on off) Q := by
  refine few_ok ?_
  rw [fOff_id (few_set e on off) (fOn6 on) (fOff6 e on off), fOn_id (on := fOn on) (ofL_set _) (fOn6 on)]; exact h
/-! ### Judgements -/
def lets (e : Bool) (on off : List Ad) (a : Ad) : Bool := if e then !aIn off a else aIn on a
theorem letsP_ok {e : Bool} {on off : List Ad} {a : Ad} {Q : Bool → Prop} (h1 : ASet on) (h2 : ASet off) (l1 : on.length ≤ 1000) (l2 : off.length ≤ 1000) (h : Q (lets e on off a)) : filter_Lets_W e on off a Q := by
  unfold filter_Lets_W lets at *
  exact ⟨fun c => hasP_ok h2 (by omega) (by rw [if_pos c] at h; exact h), fun c => hasP_ok h1 (by omega) (by rw [if_neg (by rw [c]; decide)] at h; exact h)⟩
theorem letsR_ok {e : Bool} {on off : List Ad} {a : Ad} {Q : Bool → Prop} (l1 : on.length ≤ 1000) (l2 : off.length ≤ 1000) (h : Q (lets e on off a)) : ref15_Lets_W e on off a Q := by
  unfold ref15_Lets_W lets at *
  refine ⟨fun c => hasR_ok (by omega) ⟨fun d => ?_, fun d => ?_⟩, fun c => hasR_ok (by omega) ?_⟩
  · rw [if_pos c, d] at h; exact h
  · rw [if_pos c, d] at h; exact h
  · rw [if_neg (by rw [c]; decide)] at h; exact h
def gone (e : Bool) (on : List Ad) : Bool := !e && decide (on = [])
theorem gone_len (on : List Ad) : decide ((on.length : Int) = 0) = decide (on = []) := by
  cases on <;> simp
  omega
theorem goneP_ok {e : Bool} {on off : List Ad} {Q : Bool → Prop} (h : Q (gone e on)) : filter_Gone_W e on off Q := by
  unfold filter_Gone_W gone at *
  refine ⟨fun c => ?_, fun c => ?_⟩
  · rw [c] at h; rw [gone_len]; simpa using h
  · rw [c] at h; simpa using h
theorem goneR_ok {e : Bool} {on off : List Ad} {Q : Bool → Prop} (h : Q (gone e on)) : ref15_Gone_W e on off Q := goneP_ok (off := off) h
theorem same3R_ok {e e' : Bool} {a b a' b' : List Ad} {Q : Bool → Prop} (l1 : a.length ≤ 1000) (l2 : b.length ≤ 1000) (h : Q (decide (e = e' ∧ a = a' ∧ b = b'))) : ref15_Same_W e a b e' a' b' Q := by
  unfold ref15_Same_W
  refine ⟨fun c => sameR_ok (by omega) ⟨fun d => sameR_ok (by omega) ?_, fun d => ?_⟩, fun c => ?_⟩
  · have c : e = e' := by simpa using c
    have d : a = a' := by simpa using d
    simpa [c, d] using h
  · have d : a ≠ a' := by simpa using d
    simpa [d] using h
  · have c : e ≠ e' := by simpa using c
    simpa [c] using h
/-- A good state. -/
def stGood (e : Bool) (on off : List Ad) : Prop := ASet on ∧ ASet off ∧ (∀ x, x ∈ on → x ∉ off) ∧ (e = false → off = [])
theorem andL_nil {a b : List Ad} : andL a b = [] ↔ ∀ x, x ∈ a → x ∉ b := by
  unfold andL; rw [List.filter_eq_nil_iff]; simp only [aIn_iff]
theorem sgoodP_ok {e : Bool} {on off : List Ad} {Q : Bool → Prop} (l1 : on.length ≤ 1000) (l2 : off.length ≤ 1000) (h : ∀ b, (b = true ↔ stGood e on off) → Q b) : filter_Good_W e on off Q := by
  refine setP_ok (by omega) fun b1 h1 => ⟨fun c1 => setP_ok (by omega) fun b2 h2 => ⟨fun c2 => andP_ok (h1.1 c1) (h2.1 c2) (by omega) ⟨fun c3 => ?_, fun c3 => ?_⟩, fun c2 => ?_⟩, fun c1 => ?_⟩
  · have hn : andL on off = [] := List.length_eq_zero_iff.1 (by omega)
    refine ⟨fun c => h true ⟨fun _ => ⟨h1.1 c1, h2.1 c2, andL_nil.1 hn, fun q => by rw [c] at q; cases q⟩, fun _ => rfl⟩, fun c => ?_⟩
    refine h _ ⟨fun q => ?_, fun q => ?_⟩
    · have q := of_decide_eq_true q
      exact ⟨h1.1 c1, h2.1 c2, andL_nil.1 hn, fun _ => List.length_eq_zero_iff.1 (by omega)⟩
    · rw [q.2.2.2 c]; rfl
  · refine h false ⟨fun q => (by cases q), fun q => ?_⟩
    rw [andL_nil.2 q.2.2.1] at c3; exact absurd rfl c3
  · refine h false ⟨fun q => (by cases q), fun q => ?_⟩
    rw [h2.2 q.2.1] at c2; cases c2
  · refine h false ⟨fun q => (by cases q), fun q => ?_⟩
    rw [h1.2 q.1] at c1; cases c1
end Go.Wk
