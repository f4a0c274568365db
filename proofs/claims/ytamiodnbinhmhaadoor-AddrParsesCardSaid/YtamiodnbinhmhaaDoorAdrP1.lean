/- Plain words: a number's digits, written and read. -/
import Derived.Test.YtamiodnbinhmhaaDoorAdrW3
import Derived.Test.YtamiodnbinhmhaaDoorPl2
import Derived.Laws.BitsAllLaws
import Derived.Lib.ItoaMem
set_option linter.unusedSimpArgs false
set_option linter.unusedVariables false
set_option linter.unusedSectionVars false
namespace Go.Wk
open Go.HL
variable [DM]
/-! ### Digits -/
def dgs : Str := [48, 49, 50, 51, 52, 53, 54, 55, 56, 57, 97, 98, 99, 100, 101, 102, 103, 104, 105, 106, 107, 108, 109, 110, 111, 112, 113, 114, 115, 116, 117, 118, 119, 120, 121, 122]
def dig (k : Nat) : UInt8 := dgs.getD k 0
def numL (b n : Nat) : Str := if h : n < b ∨ b < 2 then [dig n] else numL b (n / b) ++ [dig (n % b)]
termination_by n
decreasing_by exact Nat.div_lt_self (by omega) (by omega)
theorem numL_lt {b n : Nat} (h : n < b) : numL b n = [dig n] := by rw [numL, dif_pos (.inl h)]
theorem numL_ge {b n : Nat} (hb : 2 ≤ b) (h : b ≤ n) : numL b n = numL b (n / b) ++ [dig (n % b)] := by
  rw [numL, dif_neg (by omega)]
theorem numL_ne (b n : Nat) : numL b n ≠ [] := by
  rw [numL]; split <;> simp
theorem numL_len {b : Nat} (hb : 2 ≤ b) : ∀ n, (numL b n).length ≤ n + 1 := by
  intro n
  induction n using Nat.strongRecOn with
  | _ n ih =>
    by_cases h : n < b
    · rw [numL_lt h]; simp
    · have h1 : n / b < n := Nat.div_lt_self (by omega) (by omega)
      have := ih _ h1
      rw [numL_ge hb (by omega), List.length_append]
      simp only [List.length_cons, List.length_nil]; omega
theorem dig10 : ∀ k < 10, dig k = UInt8.ofNat (48 + k) := by decide
theorem dec_numL : ∀ n, Lib.decDigits n = numL 10 n := by
  intro n
  induction n using Nat.strongRecOn with
  | _ n ih =>
    by_cases h : n < 10
    · rw [numL_lt h, Lib.decDigits, dif_pos h, dig10 n h]
    · rw [numL_ge (by decide) (by omega), Lib.decDigits, dif_neg h, ih _ (Nat.div_lt_self (by omega) (by decide)), dig10 _ (Nat.mod_lt _ (by decide))]
theorem itoa_numL (n : Nat) : itoaS (n : Int) = numL 10 n := by unfold itoaS; rw [Lib.itoa_nonneg, dec_numL]
theorem sign_fact : ∀ k < 16, ((0 : Int) ≤ ((k : Nat) : Int) ∧ ((k : Nat) : Int) ≤ ((u8w (((k : Nat) : Int) + 1)).toNat : Int) ∧ ((u8w (((k : Nat) : Int) + 1)).toNat : Int) ≤ 16) ∧ cut ([48, 49, 50, 51, 52, 53, 54, 55, 56, 57, 97, 98, 99, 100, 101, 102] : Str) ((k : Nat) : Int) ((u8w (((k : Nat) : Int) + 1)).toNat : Int) = [dig k] := by decide +kernel
theorem sign_ok {k : Nat} (hk : k < 16) {Q : Str → Prop} (h : Q [dig k]) : ref01_Sign_W (k : Int) Q := by
  obtain ⟨h1, h2⟩ := sign_fact k hk
  refine ⟨h1, ?_⟩
  rw [h2]; exact h
theorem u8w_nat {k : Nat} (h : k < 256) : ((u8w (k : Int)).toNat : Int) = k := by rw [u8w_toNat]; omega
theorem num_ok {b n : Nat} (hb : 2 ≤ b ∧ b ≤ 16) (hn : n ≤ 100000) {Q : Str → Prop} (h : Q (numL b n)) : ref03_Num_W (n : Int) (b : Int) Q := by
  refine ⟨fun s => (s = ((n : Int), [])) ∨ ∃ m : Nat, s.1 = m ∧ s.2 ≠ [] ∧ s.2.length ≤ n + 1 ∧ ((m = 0 ∧ s.2 = numL b n) ∨ (0 < m ∧ m ≤ n ∧ numL b n = numL b m ++ s.2)), fun s => if s.2 = [] then n + 1 else s.1.toNat, .inl rfl, ?_⟩
  have hlen := numL_len hb.1 n
  have step : ∀ (m : Nat) (s : Str) (K : Int → Str → Prop), m ≤ n → s.length ≤ n + 1 → numL b n = numL b m ++ s →
      (∀ m' s', m' < m + 1 → (m' < m ∨ m = 0) → s' ≠ [] → s'.length ≤ n + 1 → ((m' = 0 ∧ s' = numL b n) ∨ (0 < m' ∧ m' ≤ n ∧ numL b n = numL b m' ++ s')) → K (m' : Int) s') → ref03_Num_j1 (b : Int) (m : Int) s K := by
    intro m s K hm hs he hK
    refine ⟨by omega, ?_⟩
    have e1 : ((m : Int).tmod (b : Int)) = ((m % b : Nat) : Int) := by rw [Int.tmod_eq_emod_of_nonneg (by omega)]; rfl
    have e2 : ((m : Int).tdiv (b : Int)) = ((m / b : Nat) : Int) := by rw [Int.tdiv_eq_ediv_of_nonneg (by omega)]; rfl
    have hlt : m % b < 16 := Nat.lt_of_lt_of_le (Nat.mod_lt _ (by omega)) hb.2
    rw [e1, e2, u8w_nat (by omega)]
    have hd : m / b ≤ m := Nat.div_le_self _ _
    refine sign_ok hlt ⟨by simp only [List.length_cons, List.length_nil]; omega, (by unfold I64; have h0 : (0 : Int) ≤ ((m / b : Nat) : Int) := Int.natCast_nonneg _; have h1 : ((m / b : Nat) : Int) ≤ (m : Int) := Int.ofNat_le.2 hd; constructor <;> omega), hK _ _ (by omega) ?_ (List.cons_ne_nil _ _) ?_ ?_⟩
    · by_cases h0 : m = 0
      · exact .inr h0
      · exact .inl (Nat.div_lt_self (by omega) (by omega))
    · by_cases hmb : m < b
      · rw [numL_lt hmb] at he
        rw [Nat.mod_eq_of_lt hmb]
        have := congrArg List.length he
        simp only [List.length_append, List.length_cons, List.length_nil] at this ⊢; omega
      · rw [numL_ge (n := m) hb.1 (by omega)] at he
        have := congrArg List.length he
        have h2 := List.length_pos_iff.2 (numL_ne b (m / b))
        simp only [List.length_append, List.length_cons, List.length_nil] at this ⊢; omega
    · by_cases hmb : m < b
      · refine .inl ⟨Nat.div_eq_of_lt hmb, ?_⟩
        rw [he, numL_lt hmb, Nat.mod_eq_of_lt hmb]
      · refine .inr ⟨Nat.div_pos (by omega) (by omega), by omega, ?_⟩
        rw [he, numL_ge (n := m) hb.1 (by omega), List.append_assoc]
  rintro ⟨x, s⟩ hI
  simp only at hI ⊢
  unfold ref03_Num_l1
  rcases hI with hI | ⟨m, rfl, hs, hsl, hm⟩
  · injection hI with e1 e2
    subst e1 e2
    refine ⟨fun _ => step n [] _ (Nat.le_refl _) (by simp) (by simp) fun m' s' h1 h2 h3 h4 h5 => ⟨.inr ⟨m', rfl, h3, h4, h5⟩, ?_⟩, fun c => absurd rfl c⟩
    rw [if_neg h3, if_pos rfl]; omega
  · refine ⟨fun c => absurd c hs, fun _ => ⟨fun c => ?_, fun c => ?_⟩⟩
    · rcases hm with ⟨rfl, _⟩ | ⟨h0, h1, h2⟩
      · omega
      · refine step m s _ h1 hsl h2 fun m' s' h1 h2 h3 h4 h5 => ⟨.inr ⟨m', rfl, h3, h4, h5⟩, ?_⟩
        rw [if_neg h3, if_neg hs]
        rcases h2 with h2 | h2 <;> omega
    · rcases hm with ⟨rfl, rfl⟩ | ⟨h0, _⟩
      · exact h
      · omega
/-! ### Digits to the base 16, by bits -/
theorem tz16 {Q : Int → Prop} (h : Q 4) : math_bits_TrailingZeros_W (IntKind.u64.wrap 16) Q := by
  have e : b8 tab64 ((IntKind.u64.wrap ((bits .and .u64 (IntKind.u64.wrap 16) (IntKind.u64.wrap (0 - (IntKind.u64.wrap 16)))) * 285870213051353865)).fdiv (2 ^ (min (58 : Int).toNat IntKind.u64.bits))) = 4 := by decide +kernel
  refine ⟨fun c => absurd c (by decide), fun _ => ⟨by decide +kernel, ?_⟩⟩
  rw [e]; exact ⟨by decide, h⟩
theorem cut_setB {n : Nat} (X : Ba n) {i : Nat} (h0 : i < n) (v : Int) : cut (setB X (i : Int) v).1 (i : Int) (n : Int) = UInt8.ofNat v.toNat :: cut X.1 ((i : Int) + 1) (n : Int) := by
  have hl : (setB X (i : Int) v).1 = X.1.set i (UInt8.ofNat v.toNat) := by unfold setB; simp
  have hn := X.2
  rw [hl]
  unfold cut
  rw [List.take_of_length_le (by rw [List.length_set]; omega), List.take_of_length_le (by omega)]
  have e1 : ((i : Int)).toNat = i := by omega
  have e2 : ((i : Int) + 1).toNat = i + 1 := by omega
  rw [e1, e2, List.drop_eq_getElem_cons (by rw [List.length_set]; omega), List.getElem_set_self, List.drop_set_of_lt (by omega)]
theorem gi_dgs {k : Nat} (hk : k < 36) : gi dgs (k : Int) = dig k := by
  have : k < dgs.length := hk
  rw [gi_nat this]; unfold dig; rw [List.getD_eq_getElem?_getD, List.getElem?_eq_getElem this]; rfl
theorem put65 (a : Ba 65) {j k : Nat} (hj : j ≤ 63) (hk : k < 36) : cut (setB a (65 - (j : Int) - 1) ((gi dgs (k : Int)).toNat : Int)).1 (65 - (j : Int) - 1) 65 = dig k :: cut a.1 (65 - (j : Int)) 65 := by
  have e : (65 - (j : Int) - 1) = ((64 - j : Nat) : Int) := by omega
  have e2 : (65 - (j : Int)) = ((64 - j : Nat) : Int) + 1 := by omega
  rw [e, e2, gi_dgs hk]
  have := cut_setB a (i := 64 - j) (by omega) ((dig k).toNat : Int)
  rw [show ((65 : Nat) : Int) = 65 from rfl] at this
  rw [this]
  congr 1
  rw [Int.toNat_natCast, UInt8.ofNat_toNat]
theorem and15 (u : Nat) (hu : u < 18446744073709551616) : bits .and .u64 (u : Int) (IntKind.u64.wrap ((IntKind.u64.wrap 16) - 1)) = ((u % 16 : Nat) : Int) := by
  have e : IntKind.u64.wrap ((IntKind.u64.wrap 16) - 1) = ((15 : Nat) : Int) := by decide +kernel
  rw [e, Go.u64_and_nat u 15 hu (by decide)]
  congr 1
  exact Nat.and_two_pow_sub_one_eq_mod u 4
theorem fmt16_ok {n : Nat} (hn : n < 65536) {Q : Str → Prop} (h : Q (numL 16 n)) : strconv_FormatUint_W (n : Int) 16 Q := by
  unfold strconv_FormatUint_W internal_strconv_FormatUint_W internal_strconv_formatBits_W internal_strconv_formatBits_j1 internal_strconv_isPowerOfTwo_W
  refine ⟨fun c => absurd c (by decide), fun _ => ⟨fun c => absurd c (by decide), fun _ => ⟨fun c => absurd c (by decide), fun _ => ⟨fun c => absurd c (by decide), fun _ => ⟨by decide, fun _ => tz16 ?_, fun c => absurd c (by decide +kernel)⟩⟩⟩⟩⟩
  have e16 : IntKind.u64.wrap 16 = 16 := by decide +kernel
  have e4 : (2 : Int) ^ (min (IntKind.u64.wrap 4).toNat IntKind.u64.bits) = 16 := by decide +kernel
  refine ⟨fun s => ∃ u j : Nat, s.1 = (u : Int) ∧ s.2.2 = 65 - (j : Int) ∧ u * 16 ^ j ≤ n ∧ (j = 0 ∨ 1 ≤ u) ∧ numL 16 n = numL 16 u ++ cut s.2.1.1 (65 - (j : Int)) 65, fun s => s.1.toNat, ⟨n, 0, rfl, rfl, by simp, .inl rfl, ?_⟩, ?_⟩
  · have : cut (default : Ba 65).1 (65 - ((0 : Nat) : Int)) 65 = [] := by
      unfold cut
      apply List.drop_eq_nil_of_le
      rw [List.length_take]
      exact Nat.le_trans (Nat.min_le_left _ _) (by decide)
    rw [this, List.append_nil]
  rintro ⟨x, a, i⟩ ⟨u, j, rfl, rfl, hle, hj, he⟩
  simp only at hle hj he ⊢
  have hj3 : j ≤ 3 := by
    rcases hj with rfl | hu
    · omega
    · have h1 : 1 * 16 ^ j ≤ u * 16 ^ j := Nat.mul_le_mul_right _ hu
      have h2 : 16 ^ j < 16 ^ 4 := by omega
      have := (Nat.pow_lt_pow_iff_right (a := 16) (by decide)).1 h2
      omega
  have hu : u ≤ n := Nat.le_trans (Nat.le_mul_of_pos_right u (Nat.pow_pos (by decide))) hle
  unfold internal_strconv_formatBits_l1
  rw [e16, e4]
  refine ⟨fun c => ?_, fun c => ?_⟩
  · have c : 16 ≤ u := by omega
    have hm : u % 16 < 16 := Nat.mod_lt _ (by decide)
    have ea := and15 u (by omega)
    rw [e16] at ea
    rw [ea]
    have ef : (u : Int).fdiv 16 = ((u / 16 : Nat) : Int) := by rw [Int.fdiv_eq_ediv_of_nonneg _ (by decide)]; rfl
    rw [ef]
    refine ⟨by (first | omega | (unfold I64; omega) | (simp only [List.length_append, List.length_cons, List.length_nil, List.length_take, List.length_drop] at *; omega) | (unfold I64; simp only [List.length_append, List.length_cons, List.length_nil, List.length_take, List.length_drop] at *; omega)), ⟨by omega, by show _ < (36 : Int); omega⟩, by omega, by decide +kernel, ⟨u / 16, j + 1, rfl, by omega, ?_, .inr (by omega), ?_⟩, by simp only [Int.toNat_natCast]; omega⟩
    · rw [Nat.pow_succ, Nat.mul_comm (16 ^ j) 16, ← Nat.mul_assoc]
      exact Nat.le_trans (Nat.mul_le_mul_right _ (Nat.div_mul_le_self u 16)) hle
    · rw [numL_ge (by decide) c] at he
      rw [he, List.append_assoc]
      congr 1
      have := put65 a (j := j) (k := u % 16) (by omega) (by omega)
      rw [show (65 - ((j + 1 : Nat) : Int)) = 65 - (j : Int) - 1 by omega]
      exact this.symm
  · have c : u < 16 := by omega
    refine ⟨by (first | omega | (unfold I64; omega) | (simp only [List.length_append, List.length_cons, List.length_nil, List.length_take, List.length_drop] at *; omega) | (unfold I64; simp only [List.length_append, List.length_cons, List.length_nil, List.length_take, List.length_drop] at *; omega)), ⟨by omega, by show _ < (36 : Int); omega⟩, by omega, ⟨by omega, ?_⟩⟩
    have := put65 a (j := j) (k := u) (by omega) (by omega)
    have e2 : cut (setB a (65 - (j : Int) - 1) ((gi dgs (u : Int)).toNat : Int)).1 (65 - (j : Int) - 1) 65 = numL 16 n := by
      rw [this, he, numL_lt c]; rfl
    show Q (cut (setB a (65 - (j : Int) - 1) ((gi dgs (u : Int)).toNat : Int)).1 (65 - (j : Int) - 1) 65)
    rw [e2]; exact h
/-! ### Numbers read -/
def dval (c : UInt8) : Nat := (dgs.idxOf c)
def val (b : Nat) (l : Str) : Nat := l.foldl (fun a c => a * b + dval c) 0
theorem dval_dig : ∀ k < 36, dval (dig k) = k := by decide
theorem val_snoc (b : Nat) (l : Str) (c : UInt8) : val b (l ++ [c]) = val b l * b + dval c := by unfold val; rw [List.foldl_append]; rfl
theorem fold_ge {b : Nat} (hb : 1 ≤ b) : ∀ (l : Str) (a : Nat), a ≤ l.foldl (fun a c => a * b + dval c) a
  | [], _ => Nat.le_refl _
  | c :: l, a => by
    refine Nat.le_trans ?_ (fold_ge hb l (a * b + dval c))
    exact Nat.le_trans (Nat.le_mul_of_pos_right a hb) (Nat.le_add_right _ _)
theorem val_take {b : Nat} (hb : 1 ≤ b) (l : Str) (i : Nat) : val b (l.take i) ≤ val b l := by
  conv => rhs; rw [← List.take_append_drop i l]
  unfold val
  rw [List.foldl_append]
  exact fold_ge hb _ _
theorem val_numL {b : Nat} (hb : 2 ≤ b ∧ b ≤ 36) : ∀ n, val b (numL b n) = n := by
  intro n
  induction n using Nat.strongRecOn with
  | _ n ih =>
    by_cases h : n < b
    · rw [numL_lt h]
      show 0 * b + dval (dig n) = n
      rw [dval_dig n (by omega)]; omega
    · have hm : n % b < b := Nat.mod_lt _ (by omega)
      rw [numL_ge hb.1 (by omega), val_snoc, ih _ (Nat.div_lt_self (by omega) (by omega)), dval_dig _ (by omega)]
      exact Nat.div_add_mod' n b
theorem numL_mem {b : Nat} (hb : 2 ≤ b) : ∀ n, ∀ c ∈ numL b n, ∃ k < b, c = dig k := by
  intro n
  induction n using Nat.strongRecOn with
  | _ n ih =>
    intro c hc
    by_cases h : n < b
    · rw [numL_lt h] at hc
      exact ⟨n, h, List.mem_singleton.1 hc⟩
    · rw [numL_ge hb (by omega)] at hc
      rcases List.mem_append.1 hc with q | q
      · exact ih _ (Nat.div_lt_self (by omega) (by omega)) c q
      · exact ⟨n % b, Nat.mod_lt _ (by omega), List.mem_singleton.1 q⟩
theorem or32 {c : Nat} (hc : c < 256) : (0 : Int) ≤ bits .or .u8 (c : Int) 32 ∧ bits .or .u8 (c : Int) 32 < 256 := by
  have e := Go.u8_or_nat c 32 hc (by decide)
  rw [show ((32 : Nat) : Int) = 32 from rfl] at e
  rw [e]
  have : c ||| 32 < 2 ^ 8 := Nat.or_lt_two_pow (by omega) (by decide)
  omega
theorem lower_ok {c : Nat} (hc : c < 256) {Q : Int → Prop} (h : ∀ r : Nat, r < 256 → (∀ k < 16, 10 ≤ k → c = 87 + k → r = c) → Q (r : Int)) : internal_strconv_lower_W (c : Int) Q := by
  have h1 := or32 hc
  refine ⟨h1, ?_⟩
  refine h _ (by have := (u8w (bits .or .u8 (c : Int) 32)).toNat_lt; omega) fun k hk hk2 e => ?_
  have h2 := u8w_toNat (bits .or .u8 (c : Int) 32)
  rw [Int.emod_eq_of_lt h1.1 h1.2] at h2
  have hf : ∀ k < 16, 10 ≤ k → bits .or .u8 ((87 + k : Nat) : Int) 32 = ((87 + k : Nat) : Int) := by decide +kernel
  have := hf k hk hk2
  rw [← e] at this
  omega
end Go.Wk
