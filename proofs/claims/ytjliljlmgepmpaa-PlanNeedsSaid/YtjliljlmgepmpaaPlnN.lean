/- Plain words: PlanNeeds. -/
import Derived.Test.YtjliljlmgepmpaaPlnP2
import Derived.Test.YtjliljlmgepmpaaPlnN1
set_option linter.unusedSimpArgs false
set_option linter.unusedVariables false
set_option linter.unusedSectionVars false
namespace Go.Wk
open Go.HL
variable [DM]
theorem u8b {x : Int} (h : IntKind.min .u8 ≤ x ∧ x ≤ IntKind.max .u8) : 0 ≤ x ∧ x < 256 := ⟨h.1, Int.lt_of_le_of_lt h.2 (by decide)⟩
theorem planNeeds_ok {m s f : Int} {Q : Bool → Prop} (hm : 0 ≤ m ∧ m < 256) (hs : 0 ≤ s ∧ s < 256) (hf : 0 ≤ f ∧ f < 256) (h : Q true) : law33_PlanNeeds_W m s f Q := by
  obtain ⟨m, rfl⟩ := Int.eq_ofNat_of_zero_le hm.1
  obtain ⟨s, rfl⟩ := Int.eq_ofNat_of_zero_le hs.1
  obtain ⟨f, rfl⟩ := Int.eq_ofNat_of_zero_le hf.1
  have t1 : ((m : Int).tmod 121) = ((m % 121 : Nat) : Int) := by rw [Int.tmod_eq_emod_of_nonneg (by omega)]; rfl
  have t2 : ((s : Int).tmod 121) = ((s % 121 : Nat) : Int) := by rw [Int.tmod_eq_emod_of_nonneg (by omega)]; rfl
  have t3 : ((f : Int).tmod 64) = ((f % 64 : Nat) : Int) := by rw [Int.tmod_eq_emod_of_nonneg (by omega)]; rfl
  unfold law33_PlanNeeds_W
  rw [t1, t2, t3, u8w_nat (by omega), u8w_nat (by omega), u8w_nat (by omega)]
  have e3 : (1 + ((f % 64 : Nat) : Int)) = ((1 + f % 64 : Nat) : Int) := by omega
  have hM : m % 121 ≤ 120 := by omega
  have hF : 1 ≤ 1 + f % 64 ∧ 1 + f % 64 ≤ 1000 := by omega
  rw [e3]
  refine ⟨by omega, by unfold I64; omega, by omega, by unfold I64; omega, by omega, by unfold I64; omega, by unfold I64; omega, ?_⟩
  generalize m % 121 = m at hM
  generalize 1 + f % 64 = f at hF
  generalize s % 121 = s
  refine need_ok (by omega) hF (fun k hk => refNeed_ok (by omega) hF (fun k' hk' => ⟨fun c => by omega, fun _ => ⟨fun _ => ⟨fun _ => fits_ok (by omega) hF (fun k2 hk2 => ?_) (fun hn => absurd hk.1 (by have := hn k; omega)), fun c => by cases c⟩, fun c => ?_⟩⟩) (fun hn => absurd hk.1 (by have := hn k; omega))) (fun hn => refNeed_ok (by omega) hF (fun k hk => absurd hk.1 (by have := hn k; omega)) (fun _ => ⟨fun _ => ⟨fun _ => ⟨fun _ => fits_ok (by omega) hF (fun k hk => absurd hk.1 (by have := hn k; omega)) (fun _ => ⟨fun _ => lives_ok h, fun c => by simp at c⟩), fun c => by simp at c⟩, fun c => by omega⟩, fun c => by omega⟩))
  · have e1 := hk.uniq hk'; have e2 := hk.uniq hk2
    subst e1; subst e2
    have : decide ((k : Int) ≤ (s : Int)) = decide (k ≤ s) := by rw [decide_eq_decide]; omega
    rw [this]
    exact ⟨fun _ => lives_ok h, fun c => by simp at c⟩
  · exact absurd (congrArg Int.ofNat (hk.uniq hk')) c
end Go.Wk
