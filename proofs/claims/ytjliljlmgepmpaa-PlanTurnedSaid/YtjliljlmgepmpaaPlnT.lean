/- Plain words: PlanTurned. -/
import Derived.Test.YtjliljlmgepmpaaPlnP7
import Derived.Test.YtjliljlmgepmpaaPlnT1
set_option linter.unusedSimpArgs false
set_option linter.unusedVariables false
set_option linter.unusedSectionVars false
namespace Go.Wk
open Go.HL
variable [DM]
theorem swap_permI (l : List Int) (i k : Nat) (hi : i < l.length) (hk : k < l.length) : ((l.set i l[k]).set k l[i]).Perm l := by
  have := Array.swap_perm (xs := l.toArray) (i := i) (j := k) (by simpa using hi) (by simpa using hk)
  rw [Array.perm_iff_toList_perm] at this
  simpa [Array.swap] using this
theorem planTurned_ok {r f : Int} {M S : List Int} {T : List UInt8} {Q : Bool → Prop} (hf : 0 ≤ f ∧ f < 256) (h : Q true) : law33_PlanTurned_W r M S f T Q := by
  refine own_ok hf fun m s k a => copied_ok (by have := a.ls; omega) ?_
  have lm := a.lm; have ls := a.ls; have hk := a.fan
  refine loop_by (fun s => s.2) 13 (fun i x => i ≤ s.length ∧ i ≤ T.length ∧ x.1.Perm s) rfl ⟨by omega, by omega, List.Perm.refl s⟩ ?_
  rintro K i ⟨x, _⟩ rfl hi ⟨hi2, hiT, hx⟩ hK
  simp only at hx hi hi2
  have hxl := hx.length_eq
  have fin : ∀ b : Bool, (b = true → i < x.length ∧ i < T.length) → law33_PlanTurned_j1 T Q r m s (k : Int) x (i : Int) (fun x_1 i_1 => K (x_1, i_1)) b := by
    intro b hb
    unfold law33_PlanTurned_j1
    refine ⟨fun q => ?_, fun _ => ?_⟩
    · obtain ⟨h1, h2⟩ := hb q
      rw [gi_nat h2]
      have ht := T[i].toNat_lt
      have e : ((T[i].toNat : Int).tmod (x.length : Int)) = ((T[i].toNat % x.length : Nat) : Int) := by rw [Int.tmod_eq_emod_of_nonneg (by omega)]; rfl
      have hm := Nat.mod_lt T[i].toNat (show 0 < x.length by omega)
      rw [e]
      generalize T[i].toNat % x.length = n at hm
      refine ⟨by omega, by unfold I64; omega, by omega, by omega, by omega, by simp only [List.length_set]; omega, by unfold I64; omega, hK (i + 1) _ rfl (by omega) (by omega) ⟨by omega, h2, ?_⟩⟩
      rw [gi_nat hm, gi_nat h1, Int.toNat_natCast, Int.toNat_natCast]
      exact (swap_permI x i n h1 hm).trans hx
    · have hN := a.nd hx
      refine copied_ok (by omega) (copied_ok (by omega) (makeT_ok hN a.rm (by omega) (by omega) fun L hL => refMakeT_ok a.rm (by omega) (by omega) fun L' hL' => ?_))
      have e := hL.uniq hL'; subst e
      have g := hL.good hN a.rm (by omega) hk.1
      have hLl := g.few
      have v := hL.valid hN a.rm (by omega) hk.1 a.rs hx
      refine refSame_ok (by omega) ⟨fun _ => copied_ok (by omega) (copied_ok (by omega) (valid_ok (by omega) (by omega) (by omega) (by omega) fun b hb => ?_)), fun c => by simp at c⟩
      rw [hb.2 v]
      exact ⟨fun _ => lives_ok h, fun c => by cases c⟩
  show law33_PlanTurned_l1 _ _ _ _ _ _ _ x (i : Int)
  unfold law33_PlanTurned_l1
  refine ⟨fun c => fin _ fun q => ?_, fun c => fin false fun q => by cases q⟩
  simp only [decide_eq_true_eq] at q; omega
end Go.Wk
