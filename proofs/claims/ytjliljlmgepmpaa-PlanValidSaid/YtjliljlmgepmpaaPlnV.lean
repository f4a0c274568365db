/- Plain words: PlanValid. -/
import Derived.Test.YtjliljlmgepmpaaPlnP7
import Derived.Test.YtjliljlmgepmpaaPlnV1
set_option linter.unusedSimpArgs false
set_option linter.unusedVariables false
set_option linter.unusedSectionVars false
namespace Go.Wk
open Go.HL
variable [DM]
theorem few_ok {l : List Br} {Q : List Br → Prop} (h : Q (l.take 12)) : law32_few_W l Q := by
  refine loop_up 13 (fun i s => i ≤ 12 ∧ i ≤ l.length ∧ s = l.take i) ⟨by omega, by omega, rfl⟩ fun K i s hi ⟨h1, h2, hs⟩ hK => ?_
  have hsl : s.length = i := by rw [hs]; simp; omega
  show law32_few_l1 _ _ _ s (i : Int)
  unfold law32_few_l1
  have fin : i = 12 ∨ i = l.length → law32_few_j1 l Q s (i : Int) (fun out_1 i_1 => K (out_1, i_1)) false := fun e => ⟨fun c => (by cases c), fun _ => by
    have : l.take i = l.take 12 := by
      rcases e with e | e
      · rw [e]
      · rw [e, List.take_length, List.take_of_length_le (by omega)]
    rw [hs, this]; exact h⟩
  refine ⟨fun c => ?_, fun c => fin (by omega)⟩
  by_cases c2 : i < 12
  · rw [decide_eq_true (by omega : (i : Int) < 12)]
    have hlt : i < l.length := by omega
    refine ⟨fun _ => ⟨by omega, by simp only [List.length_cons, List.length_nil]; omega, by unfold I64; omega, hK (i + 1) _ (by omega) (by omega) ⟨by omega, hlt, ?_⟩⟩, fun c => (by cases c)⟩
    rw [hs, List.take_succ_eq_append_getElem hlt, gi_nat hlt]
  · rw [decide_eq_false (by omega : ¬ (i : Int) < 12)]; exact fin (by omega)
theorem copied_ok' {l : List Int} {Q : List Int → Prop} (hl : l.length * 8 ≤ 140737488351232) (h : Q l) : law33_copied_W l Q := ⟨by simp only [List.length_nil]; omega, h⟩
theorem planValid_ok {t r f : Int} {L : List Br} {M S : List Int} {Q : Bool → Prop} (hM : M.length * 8 ≤ 140737488351232) (hS : S.length * 8 ≤ 140737488351232) (hf : 0 ≤ f ∧ f < 256) (h : Q true) : law33_PlanValid_W t L r M S f Q := by
  refine few_ok ?_
  obtain ⟨f, rfl⟩ := Int.eq_ofNat_of_zero_le hf.1
  have t3 : ((f : Int).tmod 64) = ((f % 64 : Nat) : Int) := by rw [Int.tmod_eq_emod_of_nonneg (by omega)]; rfl
  have e3 : (1 + ((f % 64 : Nat) : Int)) = ((1 + f % 64 : Nat) : Int) := by omega
  have hLl : (L.take 12).length ≤ 12 := by simp; omega
  have j2 : ∀ m s : List Int, m.length ≤ 20 → s.length ≤ 12 → law33_PlanValid_j2 r (f : Int) Q t (L.take 12) m s := by
    intro m s hm hs
    refine few_ok (copied_ok (by omega) (copied_ok (by omega) ?_))
    have ett : (L.take 12).take 12 = L.take 12 := List.take_of_length_le hLl
    rw [t3, u8w_nat (by omega), e3, ett]
    refine valid_ok (by omega) (by omega) (by omega) (by omega) fun b hb => refValid_ok (by omega) (by omega) (by omega) (by omega) fun b2 hb2 => ?_
    have : b = b2 := by rw [Bool.eq_iff_iff, hb, hb2]
    subst this
    exact ⟨fun _ => lives_ok h, fun c => by simp at c⟩
  have j1 : ∀ m : List Int, m.length ≤ 20 → law33_PlanValid_j1 r (f : Int) Q t (L.take 12) S m := by
    intro m hm
    refine ⟨fun c => ⟨by omega, by omega, j2 _ _ hm ?_⟩, fun c => j2 _ _ hm (by omega)⟩
    rw [cut0]; simp; omega
  rw [t3, u8w_nat (by omega)]
  refine ⟨by omega, by unfold I64; omega, by unfold I64; omega, copied_ok' hM (copied_ok' hS ⟨fun c => ⟨by omega, by omega, j1 _ ?_⟩, fun c => j1 _ (by omega)⟩)⟩
  rw [cut0]; simp; omega
end Go.Wk
