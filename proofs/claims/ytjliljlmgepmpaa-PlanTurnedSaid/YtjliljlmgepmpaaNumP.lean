/- Plain words for one law: what it needs. -/
import Derived.Test.YtjliljlmgepmpaaPlnA1
set_option linter.unusedSimpArgs false
set_option linter.unusedVariables false
set_option linter.unusedSectionVars false
namespace Go.Wk
open Go.HL
variable [DM]
/-! ### Digits -/
def dgs : Str := [48, 49, 50, 51, 52, 53, 54, 55, 56, 57, 97, 98, 99, 100, 101, 102, 103, 104, 105, 106, 107, 108, 109, 110, 111, 112, 113, 114, 115, 116, 117, 118, 119, 120, 121, 122]
def dig (k : Nat) : UInt8 := dgs.getD k 0
def numL (b n : Nat) : Str := if h : n < b ∨ b < 2 then [dig n] else numL b (n / b) ++ [dig (n % b)]
termination_by n
decreasing_by exact Nat.div_lt_self (by omega) (by omega)
theorem numL_lt {b n : Nat} (h : n < b) : numL b n = [dig n] := by rw [numL, dif_pos (.inl h)]
theorem numL_ge {b n : Nat} (hb : 2 ≤ b) (h : b ≤ n) : numL b n = numL b (n / b) ++ [dig (n % b)] := by
  rw [numL, dif_neg (by omega)]
theorem numL_ne (b n : Nat) : numL b n ≠ [] := by
  rw [numL]; split <;> simp
theorem numL_len {b : Nat} (hb : 2 ≤ b) : ∀ n, (numL b n).length ≤ n + 1 := by
  intro n
  induction n using Nat.strongRecOn with
  | _ n ih =>
    by_cases h : n < b
    · rw [numL_lt h]; simp
    · have h1 : n / b < n := Nat.div_lt_self (by omega) (by omega)
      have := ih _ h1
      rw [numL_ge hb (by omega), List.length_append]
      simp only [List.length_cons, List.length_nil]; omega
theorem sign_fact : ∀ k < 16, ((0 : Int) ≤ ((k : Nat) : Int) ∧ ((k : Nat) : Int) ≤ ((u8w (((k : Nat) : Int) + 1)).toNat : Int) ∧ ((u8w (((k : Nat) : Int) + 1)).toNat : Int) ≤ 16) ∧ cut ([48, 49, 50, 51, 52, 53, 54, 55, 56, 57, 97, 98, 99, 100, 101, 102] : Str) ((k : Nat) : Int) ((u8w (((k : Nat) : Int) + 1)).toNat : Int) = [dig k] := by decide +kernel
theorem sign_ok {k : Nat} (hk : k < 16) {Q : Str → Prop} (h : Q [dig k]) : ref01_Sign_W (k : Int) Q := by
  obtain ⟨h1, h2⟩ := sign_fact k hk
  refine ⟨h1, ?_⟩
  rw [h2]; exact h
theorem u8w_nat {k : Nat} (h : k < 256) : ((u8w (k : Int)).toNat : Int) = k := by rw [u8w_toNat]; omega
theorem num_ok {b n : Nat} (hb : 2 ≤ b ∧ b ≤ 16) (hn : n ≤ 100000) {Q : Str → Prop} (h : Q (numL b n)) : ref03_Num_W (n : Int) (b : Int) Q := by
  refine ⟨fun s => (s = ((n : Int), [])) ∨ ∃ m : Nat, s.1 = m ∧ s.2 ≠ [] ∧ s.2.length ≤ n + 1 ∧ ((m = 0 ∧ s.2 = numL b n) ∨ (0 < m ∧ m ≤ n ∧ numL b n = numL b m ++ s.2)), fun s => if s.2 = [] then n + 1 else s.1.toNat, .inl rfl, ?_⟩
  have hlen := numL_len hb.1 n
  have step : ∀ (m : Nat) (s : Str) (K : Int → Str → Prop), m ≤ n → s.length ≤ n + 1 → numL b n = numL b m ++ s →
      (∀ m' s', m' < m + 1 → (m' < m ∨ m = 0) → s' ≠ [] → s'.length ≤ n + 1 → ((m' = 0 ∧ s' = numL b n) ∨ (0 < m' ∧ m' ≤ n ∧ numL b n = numL b m' ++ s')) → K (m' : Int) s') → ref03_Num_j1 (b : Int) (m : Int) s K := by
    intro m s K hm hs he hK
    refine ⟨by omega, ?_⟩
    have e1 : ((m : Int).tmod (b : Int)) = ((m % b : Nat) : Int) := by rw [Int.tmod_eq_emod_of_nonneg (by omega)]; rfl
    have e2 : ((m : Int).tdiv (b : Int)) = ((m / b : Nat) : Int) := by rw [Int.tdiv_eq_ediv_of_nonneg (by omega)]; rfl
    have hlt : m % b < 16 := Nat.lt_of_lt_of_le (Nat.mod_lt _ (by omega)) hb.2
    rw [e1, e2, u8w_nat (by omega)]
    have hd : m / b ≤ m := Nat.div_le_self _ _
    refine sign_ok hlt ⟨by simp only [List.length_cons, List.length_nil]; omega, (by unfold I64; have h0 : (0 : Int) ≤ ((m / b : Nat) : Int) := Int.natCast_nonneg _; have h1 : ((m / b : Nat) : Int) ≤ (m : Int) := Int.ofNat_le.2 hd; constructor <;> omega), hK _ _ (by omega) ?_ (List.cons_ne_nil _ _) ?_ ?_⟩
    · by_cases h0 : m = 0
      · exact .inr h0
      · exact .inl (Nat.div_lt_self (by omega) (by omega))
    · by_cases hmb : m < b
      · rw [numL_lt hmb] at he
        rw [Nat.mod_eq_of_lt hmb]
        have := congrArg List.length he
        simp only [List.length_append, List.length_cons, List.length_nil] at this ⊢; omega
      · rw [numL_ge (n := m) hb.1 (by omega)] at he
        have := congrArg List.length he
        have h2 := List.length_pos_iff.2 (numL_ne b (m / b))
        simp only [List.length_append, List.length_cons, List.length_nil] at this ⊢; omega
    · by_cases hmb : m < b
      · refine .inl ⟨Nat.div_eq_of_lt hmb, ?_⟩
        rw [he, numL_lt hmb, Nat.mod_eq_of_lt hmb]
      · refine .inr ⟨Nat.div_pos (by omega) (by omega), by omega, ?_⟩
        rw [he, numL_ge (n := m) hb.1 (by omega), List.append_assoc]
  rintro ⟨x, s⟩ hI
  simp only at hI ⊢
  unfold ref03_Num_l1
  rcases hI with hI | ⟨m, rfl, hs, hsl, hm⟩
  · injection hI with e1 e2
    subst e1 e2
    refine ⟨fun _ => step n [] _ (Nat.le_refl _) (by simp) (by simp) fun m' s' h1 h2 h3 h4 h5 => ⟨.inr ⟨m', rfl, h3, h4, h5⟩, ?_⟩, fun c => absurd rfl c⟩
    rw [if_neg h3, if_pos rfl]; omega
  · refine ⟨fun c => absurd c hs, fun _ => ⟨fun c => ?_, fun c => ?_⟩⟩
    · rcases hm with ⟨rfl, _⟩ | ⟨h0, h1, h2⟩
      · omega
      · refine step m s _ h1 hsl h2 fun m' s' h1 h2 h3 h4 h5 => ⟨.inr ⟨m', rfl, h3, h4, h5⟩, ?_⟩
        rw [if_neg h3, if_neg hs]
        rcases h2 with h2 | h2 <;> omega
    · rcases hm with ⟨rfl, rfl⟩ | ⟨h0, _⟩
      · exact h
      · omega
/-! ### Digits to the base 16, by bits -/
/-! ### Numbers read -/
end Go.Wk
