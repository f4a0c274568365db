/- The reference's text of a tree. -/
import Derived.Test.YtjliljlmgepmpaaGreatDoorTreN
import Derived.Test.YtjliljlmgepmpaaGreatDoorTreX1
set_option linter.unusedSimpArgs false
set_option linter.unusedVariables false
set_option linter.unusedSectionVars false
namespace Go.Wk
open Go.HL
variable [DM]
theorem sign_fact : ∀ k < 16, ((0 : Int) ≤ ((k : Nat) : Int) ∧ ((k : Nat) : Int) ≤ ((u8w (((k : Nat) : Int) + 1)).toNat : Int) ∧ ((u8w (((k : Nat) : Int) + 1)).toNat : Int) ≤ 16) ∧ cut ([48, 49, 50, 51, 52, 53, 54, 55, 56, 57, 97, 98, 99, 100, 101, 102] : Str) ((k : Nat) : Int) ((u8w (((k : Nat) : Int) + 1)).toNat : Int) = [dig k] := by decide +kernel
theorem sign_ok {k : Nat} (hk : k < 16) {Q : Str → Prop} (h : Q [dig k]) : ref01_Sign_W (k : Int) Q := by
  obtain ⟨h1, h2⟩ := sign_fact k hk
  refine ⟨h1, ?_⟩
  rw [h2]; exact h
/-- The reference's digits. -/
theorem num64_ok {n : Nat} (hn : n < 9223372036854775808) {Q : Str → Prop} (h : Q (numL 10 n)) : ref03_Num_W (n : Int) (10 : Int) Q := by
  have hlen : (numL 10 n).length ≤ 19 := numL_short 19 n (by decide) (by omega)
  refine ⟨fun s => (s = ((n : Int), [])) ∨ ∃ m : Nat, s.1 = m ∧ s.2 ≠ [] ∧ s.2.length ≤ 19 ∧ ((m = 0 ∧ s.2 = numL 10 n) ∨ (0 < m ∧ m ≤ n ∧ numL 10 n = numL 10 m ++ s.2)), fun s => if s.2 = [] then n + 1 else s.1.toNat, .inl rfl, ?_⟩
  have step : ∀ (m : Nat) (s : Str) (K : Int → Str → Prop), m ≤ n → s.length ≤ 19 → numL 10 n = numL 10 m ++ s →
      (∀ m' s', m' < m + 1 → (m' < m ∨ m = 0) → s' ≠ [] → s'.length ≤ 19 → ((m' = 0 ∧ s' = numL 10 n) ∨ (0 < m' ∧ m' ≤ n ∧ numL 10 n = numL 10 m' ++ s')) → K (m' : Int) s') → ref03_Num_j1 (10 : Int) (m : Int) s K := by
    intro m s K hm hs he hK
    refine ⟨by omega, ?_⟩
    have e1 : ((m : Int).tmod (10 : Int)) = ((m % 10 : Nat) : Int) := by rw [Int.tmod_eq_emod_of_nonneg (by omega)]; rfl
    have e2 : ((m : Int).tdiv (10 : Int)) = ((m / 10 : Nat) : Int) := by rw [Int.tdiv_eq_ediv_of_nonneg (by omega)]; rfl
    have hlt : m % 10 < 16 := by omega
    rw [e1, e2, u8w_nat (by omega)]
    have hd : m / 10 ≤ m := Nat.div_le_self _ _
    refine sign_ok hlt ⟨by simp only [List.length_cons, List.length_nil]; omega, (by unfold I64; omega), hK _ _ (by omega) (by omega) (List.cons_ne_nil _ _) ?_ ?_⟩
    · by_cases hmb : m < 10
      · rw [numL_lt hmb] at he
        rw [Nat.mod_eq_of_lt hmb]
        have := congrArg List.length he
        simp only [List.length_append, List.length_cons, List.length_nil] at this ⊢; omega
      · rw [numL_ge (n := m) (by decide) (by omega)] at he
        have := congrArg List.length he
        have h2 := List.length_pos_iff.2 (numL_ne 10 (m / 10))
        simp only [List.length_append, List.length_cons, List.length_nil] at this ⊢; omega
    · by_cases hmb : m < 10
      · refine .inl ⟨Nat.div_eq_of_lt hmb, ?_⟩
        rw [he, numL_lt hmb, Nat.mod_eq_of_lt hmb]
      · refine .inr ⟨Nat.div_pos (by omega) (by omega), by omega, ?_⟩
        rw [he, numL_ge (n := m) (by decide) (by omega), List.append_assoc]
  rintro ⟨x, s⟩ hI
  simp only at hI ⊢
  unfold ref03_Num_l1
  rcases hI with hI | ⟨m, rfl, hs, hsl, hm⟩
  · injection hI with e1 e2
    subst e1; subst e2
    refine ⟨fun _ => step n [] _ (Nat.le_refl _) (by simp) (by simp) fun m' s' h1 h2 h3 h4 h5 => ⟨.inr ⟨m', rfl, h3, h4, h5⟩, ?_⟩, fun c => absurd rfl c⟩
    simp only [if_neg h3, if_pos]; omega
  · refine ⟨fun c => absurd c hs, fun _ => ⟨fun c => ?_, fun c => ?_⟩⟩
    · rcases hm with ⟨rfl, _⟩ | ⟨hm0, hmn, he⟩
      · omega
      · refine step m s _ hmn hsl he fun m' s' h1 h2 h3 h4 h5 => ⟨.inr ⟨m', rfl, h3, h4, h5⟩, ?_⟩
        simp only [if_neg h3, if_neg hs]; omega
    · rcases hm with ⟨rfl, e⟩ | ⟨hm0, _, _⟩
      · rw [e]; exact h
      · omega
theorem rneg_ok (m : Nat) : 1 ≤ m → m ≤ 9223372036854775808 → ∃ fu, ∀ Q : Str → Prop, Q (45 :: numL 10 m) → ref32_num_Wn fu (-(m : Int)) Q := by
  induction m using Nat.strongRecOn with
  | _ m ih =>
    intro h1 h2
    have e1 : (-(m : Int)).tmod 10 = -((m % 10 : Nat) : Int) := by rw [Int.neg_tmod, Int.tmod_eq_emod_of_nonneg (by omega)]; rfl
    have e2 : (-(m : Int)).tdiv 10 = -((m / 10 : Nat) : Int) := by rw [Int.neg_tdiv, Int.tdiv_eq_ediv_of_nonneg (by omega)]; rfl
    by_cases hm : m < 10
    · refine ⟨1, fun Q h => ⟨fun c => by omega, fun _ => ⟨fun c => ?_, fun _ => ⟨fun _ => ⟨by unfold I64; omega, ?_⟩, fun c => by omega⟩⟩⟩⟩
      · rw [e1] at c; omega
      · have : (0 : Int) - -(m : Int) = (m : Int) := by omega
        rw [this]
        have hl : (numL 10 m).length = 1 := by rw [numL_lt hm]; rfl
        exact num64_ok (by omega) ⟨by simp only [List.length_cons, List.length_nil]; omega, h⟩
    · obtain ⟨fu, hfu⟩ := ih (m / 10) (by omega) (by omega) (by omega)
      have hl : (numL 10 (m / 10)).length ≤ 19 := numL_short 19 _ (by decide) (by omega)
      have hge := numL_ge (b := 10) (n := m) (by decide) (by omega)
      refine ⟨fu + 1, fun Q h => ⟨fun c => by omega, fun _ => ⟨fun c => ?_, fun c => ⟨fun c' => by omega, fun _ => ⟨?_, ?_⟩⟩⟩⟩⟩
      · rw [e1] at c
        have hz : m % 10 = 0 := by omega
        rw [e2]
        refine ⟨by unfold I64; omega, hfu _ ⟨by simp only [List.length_cons, List.length_nil]; omega, ?_⟩⟩
        rw [hz] at hge
        rw [hge] at h
        exact h
      · rw [e2]; unfold I64; omega
      · rw [e2, e1]
        have : (0 : Int) - -((m % 10 : Nat) : Int) = ((m % 10 : Nat) : Int) := by omega
        rw [this]
        have hn : numL 10 (m % 10) = [dig (m % 10)] := numL_lt (by omega)
        refine hfu _ ⟨by unfold I64; omega, num64_ok (by omega) ⟨?_, ?_⟩⟩
        · rw [hn]; simp only [List.length_cons, List.length_nil]; omega
        · rw [hge] at h
          rw [hn]
          exact h
theorem rnumI_ok {n : Int} (hn : I64 n) {Q : Str → Prop} (h : Q (itoaS n)) : ref32_num_W n Q := by
  unfold I64 at hn
  rcases itoa_cases n with ⟨m, rfl, e⟩ | ⟨m, h1, rfl, e⟩
  · exact ⟨1, fun _ => num64_ok (by omega) (e ▸ h), fun c => absurd (Int.natCast_nonneg m) c⟩
  · obtain ⟨fu, hfu⟩ := rneg_ok m h1 (by omega)
    exact ⟨fu, hfu _ (e ▸ h)⟩
end Go.Wk
