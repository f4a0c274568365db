/- Plain words for one law: what it needs. -/
import Derived.Test.YtlhcpndehikneaaGreatDoorSxmW3
import Derived.Laws.BitsAllLaws
import Derived.Lib.ItoaMem
import Derived.Test.YtlhcpndehikneaaGreatDoorPl2
import Derived.Test.YtlhcpndehikneaaGreatDoorStrP
set_option linter.unusedSimpArgs false
set_option linter.unusedVariables false
set_option linter.unusedSectionVars false
namespace Go.Wk
open Go.HL
variable [DM]
/-! ### Digits -/
def dgs : Str := [48, 49, 50, 51, 52, 53, 54, 55, 56, 57, 97, 98, 99, 100, 101, 102, 103, 104, 105, 106, 107, 108, 109, 110, 111, 112, 113, 114, 115, 116, 117, 118, 119, 120, 121, 122]
def dig (k : Nat) : UInt8 := dgs.getD k 0
def numL (b n : Nat) : Str := if h : n < b ∨ b < 2 then [dig n] else numL b (n / b) ++ [dig (n % b)]
termination_by n
decreasing_by exact Nat.div_lt_self (by omega) (by omega)
theorem numL_lt {b n : Nat} (h : n < b) : numL b n = [dig n] := by rw [numL, dif_pos (.inl h)]
theorem numL_ge {b n : Nat} (hb : 2 ≤ b) (h : b ≤ n) : numL b n = numL b (n / b) ++ [dig (n % b)] := by
  rw [numL, dif_neg (by omega)]
theorem numL_ne (b n : Nat) : numL b n ≠ [] := by
  rw [numL]; split <;> simp
theorem numL_len {b : Nat} (hb : 2 ≤ b) : ∀ n, (numL b n).length ≤ n + 1 := by
  intro n
  induction n using Nat.strongRecOn with
  | _ n ih =>
    by_cases h : n < b
    · rw [numL_lt h]; simp
    · have h1 : n / b < n := Nat.div_lt_self (by omega) (by omega)
      have := ih _ h1
      rw [numL_ge hb (by omega), List.length_append]
      simp only [List.length_cons, List.length_nil]; omega
theorem dig10 : ∀ k < 10, dig k = UInt8.ofNat (48 + k) := by decide
theorem dec_numL : ∀ n, Lib.decDigits n = numL 10 n := by
  intro n
  induction n using Nat.strongRecOn with
  | _ n ih =>
    by_cases h : n < 10
    · rw [numL_lt h, Lib.decDigits, dif_pos h, dig10 n h]
    · rw [numL_ge (by decide) (by omega), Lib.decDigits, dif_neg h, ih _ (Nat.div_lt_self (by omega) (by decide)), dig10 _ (Nat.mod_lt _ (by decide))]
theorem itoa_numL (n : Nat) : itoaS (n : Int) = numL 10 n := by unfold itoaS; rw [Lib.itoa_nonneg, dec_numL]
theorem sign_fact : ∀ k < 16, ((0 : Int) ≤ ((k : Nat) : Int) ∧ ((k : Nat) : Int) ≤ ((u8w (((k : Nat) : Int) + 1)).toNat : Int) ∧ ((u8w (((k : Nat) : Int) + 1)).toNat : Int) ≤ 16) ∧ cut ([48, 49, 50, 51, 52, 53, 54, 55, 56, 57, 97, 98, 99, 100, 101, 102] : Str) ((k : Nat) : Int) ((u8w (((k : Nat) : Int) + 1)).toNat : Int) = [dig k] := by decide +kernel
theorem sign_ok {k : Nat} (hk : k < 16) {Q : Str → Prop} (h : Q [dig k]) : ref01_Sign_W (k : Int) Q := by
  obtain ⟨h1, h2⟩ := sign_fact k hk
  refine ⟨h1, ?_⟩
  rw [h2]; exact h
theorem u8w_nat {k : Nat} (h : k < 256) : ((u8w (k : Int)).toNat : Int) = k := by rw [u8w_toNat]; omega
theorem num_ok {b n : Nat} (hb : 2 ≤ b ∧ b ≤ 16) (hn : n ≤ 100000) {Q : Str → Prop} (h : Q (numL b n)) : ref03_Num_W (n : Int) (b : Int) Q := by
  refine ⟨fun s => (s = ((n : Int), [])) ∨ ∃ m : Nat, s.1 = m ∧ s.2 ≠ [] ∧ s.2.length ≤ n + 1 ∧ ((m = 0 ∧ s.2 = numL b n) ∨ (0 < m ∧ m ≤ n ∧ numL b n = numL b m ++ s.2)), fun s => if s.2 = [] then n + 1 else s.1.toNat, .inl rfl, ?_⟩
  have hlen := numL_len hb.1 n
  have step : ∀ (m : Nat) (s : Str) (K : Int → Str → Prop), m ≤ n → s.length ≤ n + 1 → numL b n = numL b m ++ s →
      (∀ m' s', m' < m + 1 → (m' < m ∨ m = 0) → s' ≠ [] → s'.length ≤ n + 1 → ((m' = 0 ∧ s' = numL b n) ∨ (0 < m' ∧ m' ≤ n ∧ numL b n = numL b m' ++ s')) → K (m' : Int) s') → ref03_Num_j1 (b : Int) (m : Int) s K := by
    intro m s K hm hs he hK
    refine ⟨by omega, ?_⟩
    have e1 : ((m : Int).tmod (b : Int)) = ((m % b : Nat) : Int) := by rw [Int.tmod_eq_emod_of_nonneg (by omega)]; rfl
    have e2 : ((m : Int).tdiv (b : Int)) = ((m / b : Nat) : Int) := by rw [Int.tdiv_eq_ediv_of_nonneg (by omega)]; rfl
    have hlt : m % b < 16 := Nat.lt_of_lt_of_le (Nat.mod_lt _ (by omega)) hb.2
    rw [e1, e2, u8w_nat (by omega)]
    have hd : m / b ≤ m := Nat.div_le_self _ _
    refine sign_ok hlt ⟨by simp only [List.length_cons, List.length_nil]; omega, (by unfold I64; have h0 : (0 : Int) ≤ ((m / b : Nat) : Int) := Int.natCast_nonneg _; have h1 : ((m / b : Nat) : Int) ≤ (m : Int) := Int.ofNat_le.2 hd; constructor <;> omega), hK _ _ (by omega) ?_ (List.cons_ne_nil _ _) ?_ ?_⟩
    · by_cases h0 : m = 0
      · exact .inr h0
      · exact .inl (Nat.div_lt_self (by omega) (by omega))
    · by_cases hmb : m < b
      · rw [numL_lt hmb] at he
        rw [Nat.mod_eq_of_lt hmb]
        have := congrArg List.length he
        simp only [List.length_append, List.length_cons, List.length_nil] at this ⊢; omega
      · rw [numL_ge (n := m) hb.1 (by omega)] at he
        have := congrArg List.length he
        have h2 := List.length_pos_iff.2 (numL_ne b (m / b))
        simp only [List.length_append, List.length_cons, List.length_nil] at this ⊢; omega
    · by_cases hmb : m < b
      · refine .inl ⟨Nat.div_eq_of_lt hmb, ?_⟩
        rw [he, numL_lt hmb, Nat.mod_eq_of_lt hmb]
      · refine .inr ⟨Nat.div_pos (by omega) (by omega), by omega, ?_⟩
        rw [he, numL_ge (n := m) hb.1 (by omega), List.append_assoc]
  rintro ⟨x, s⟩ hI
  simp only at hI ⊢
  unfold ref03_Num_l1
  rcases hI with hI | ⟨m, rfl, hs, hsl, hm⟩
  · injection hI with e1 e2
    subst e1 e2
    refine ⟨fun _ => step n [] _ (Nat.le_refl _) (by simp) (by simp) fun m' s' h1 h2 h3 h4 h5 => ⟨.inr ⟨m', rfl, h3, h4, h5⟩, ?_⟩, fun c => absurd rfl c⟩
    rw [if_neg h3, if_pos rfl]; omega
  · refine ⟨fun c => absurd c hs, fun _ => ⟨fun c => ?_, fun c => ?_⟩⟩
    · rcases hm with ⟨rfl, _⟩ | ⟨h0, h1, h2⟩
      · omega
      · refine step m s _ h1 hsl h2 fun m' s' h1 h2 h3 h4 h5 => ⟨.inr ⟨m', rfl, h3, h4, h5⟩, ?_⟩
        rw [if_neg h3, if_neg hs]
        rcases h2 with h2 | h2 <;> omega
    · rcases hm with ⟨rfl, rfl⟩ | ⟨h0, _⟩
      · exact h
      · omega
/-! ### Digits to the base 16, by bits -/
theorem tz16 {Q : Int → Prop} (h : Q 4) : math_bits_TrailingZeros_W (IntKind.u64.wrap 16) Q := by
  have e : b8 tab64 ((IntKind.u64.wrap ((bits .and .u64 (IntKind.u64.wrap 16) (IntKind.u64.wrap (0 - (IntKind.u64.wrap 16)))) * 285870213051353865)).fdiv (2 ^ (min (58 : Int).toNat IntKind.u64.bits))) = 4 := by decide +kernel
  refine ⟨fun c => absurd c (by decide), fun _ => ⟨by decide +kernel, ?_⟩⟩
  rw [e]; exact ⟨by decide, h⟩
theorem cut_setB {n : Nat} (X : Ba n) {i : Nat} (h0 : i < n) (v : Int) : cut (setB X (i : Int) v).1 (i : Int) (n : Int) = UInt8.ofNat v.toNat :: cut X.1 ((i : Int) + 1) (n : Int) := by
  have hl : (setB X (i : Int) v).1 = X.1.set i (UInt8.ofNat v.toNat) := by unfold setB; simp
  have hn := X.2
  rw [hl]
  unfold cut
  rw [List.take_of_length_le (by rw [List.length_set]; omega), List.take_of_length_le (by omega)]
  have e1 : ((i : Int)).toNat = i := by omega
  have e2 : ((i : Int) + 1).toNat = i + 1 := by omega
  rw [e1, e2, List.drop_eq_getElem_cons (by rw [List.length_set]; omega), List.getElem_set_self, List.drop_set_of_lt (by omega)]
theorem gi_dgs {k : Nat} (hk : k < 36) : gi dgs (k : Int) = dig k := by
  have : k < dgs.length := hk
  rw [gi_nat this]; unfold dig; rw [List.getD_eq_getElem?_getD, List.getElem?_eq_getElem this]; rfl
theorem put65 (a : Ba 65) {j k : Nat} (hj : j ≤ 63) (hk : k < 36) : cut (setB a (65 - (j : Int) - 1) ((gi dgs (k : Int)).toNat : Int)).1 (65 - (j : Int) - 1) 65 = dig k :: cut a.1 (65 - (j : Int)) 65 := by
  have e : (65 - (j : Int) - 1) = ((64 - j : Nat) : Int) := by omega
  have e2 : (65 - (j : Int)) = ((64 - j : Nat) : Int) + 1 := by omega
  rw [e, e2, gi_dgs hk]
  have := cut_setB a (i := 64 - j) (by omega) ((dig k).toNat : Int)
  rw [show ((65 : Nat) : Int) = 65 from rfl] at this
  rw [this]
  congr 1
  rw [Int.toNat_natCast, UInt8.ofNat_toNat]
theorem and15 (u : Nat) (hu : u < 18446744073709551616) : bits .and .u64 (u : Int) (IntKind.u64.wrap ((IntKind.u64.wrap 16) - 1)) = ((u % 16 : Nat) : Int) := by
  have e : IntKind.u64.wrap ((IntKind.u64.wrap 16) - 1) = ((15 : Nat) : Int) := by decide +kernel
  rw [e, Go.u64_and_nat u 15 hu (by decide)]
  congr 1
  exact Nat.and_two_pow_sub_one_eq_mod u 4
theorem fmt16_ok {n : Nat} (hn : n < 65536) {Q : Str → Prop} (h : Q (numL 16 n)) : strconv_FormatUint_W (n : Int) 16 Q := by
  unfold strconv_FormatUint_W internal_strconv_FormatUint_W internal_strconv_formatBits_W internal_strconv_formatBits_j1 internal_strconv_isPowerOfTwo_W
  refine ⟨fun c => absurd c (by decide), fun _ => ⟨fun c => absurd c (by decide), fun _ => ⟨fun c => absurd c (by decide), fun _ => ⟨fun c => absurd c (by decide), fun _ => ⟨by decide, fun _ => tz16 ?_, fun c => absurd c (by decide +kernel)⟩⟩⟩⟩⟩
  have e16 : IntKind.u64.wrap 16 = 16 := by decide +kernel
  have e4 : (2 : Int) ^ (min (IntKind.u64.wrap 4).toNat IntKind.u64.bits) = 16 := by decide +kernel
  refine ⟨fun s => ∃ u j : Nat, s.1 = (u : Int) ∧ s.2.2 = 65 - (j : Int) ∧ u * 16 ^ j ≤ n ∧ (j = 0 ∨ 1 ≤ u) ∧ numL 16 n = numL 16 u ++ cut s.2.1.1 (65 - (j : Int)) 65, fun s => s.1.toNat, ⟨n, 0, rfl, rfl, by simp, .inl rfl, ?_⟩, ?_⟩
  · have : cut (default : Ba 65).1 (65 - ((0 : Nat) : Int)) 65 = [] := by
      unfold cut
      apply List.drop_eq_nil_of_le
      rw [List.length_take]
      exact Nat.le_trans (Nat.min_le_left _ _) (by decide)
    rw [this, List.append_nil]
  rintro ⟨x, a, i⟩ ⟨u, j, rfl, rfl, hle, hj, he⟩
  simp only at hle hj he ⊢
  have hj3 : j ≤ 3 := by
    rcases hj with rfl | hu
    · omega
    · have h1 : 1 * 16 ^ j ≤ u * 16 ^ j := Nat.mul_le_mul_right _ hu
      have h2 : 16 ^ j < 16 ^ 4 := by omega
      have := (Nat.pow_lt_pow_iff_right (a := 16) (by decide)).1 h2
      omega
  have hu : u ≤ n := Nat.le_trans (Nat.le_mul_of_pos_right u (Nat.pow_pos (by decide))) hle
  unfold internal_strconv_formatBits_l1
  rw [e16, e4]
  refine ⟨fun c => ?_, fun c => ?_⟩
  · have c : 16 ≤ u := by omega
    have hm : u % 16 < 16 := Nat.mod_lt _ (by decide)
    have ea := and15 u (by omega)
    rw [e16] at ea
    rw [ea]
    have ef : (u : Int).fdiv 16 = ((u / 16 : Nat) : Int) := by rw [Int.fdiv_eq_ediv_of_nonneg _ (by decide)]; rfl
    rw [ef]
    refine ⟨by (first | omega | (unfold I64; omega) | (simp only [List.length_append, List.length_cons, List.length_nil, List.length_take, List.length_drop] at *; omega) | (unfold I64; simp only [List.length_append, List.length_cons, List.length_nil, List.length_take, List.length_drop] at *; omega)), ⟨by omega, by show _ < (36 : Int); omega⟩, by omega, by decide +kernel, ⟨u / 16, j + 1, rfl, by omega, ?_, .inr (by omega), ?_⟩, by simp only [Int.toNat_natCast]; omega⟩
    · rw [Nat.pow_succ, Nat.mul_comm (16 ^ j) 16, ← Nat.mul_assoc]
      exact Nat.le_trans (Nat.mul_le_mul_right _ (Nat.div_mul_le_self u 16)) hle
    · rw [numL_ge (by decide) c] at he
      rw [he, List.append_assoc]
      congr 1
      have := put65 a (j := j) (k := u % 16) (by omega) (by omega)
      rw [show (65 - ((j + 1 : Nat) : Int)) = 65 - (j : Int) - 1 by omega]
      exact this.symm
  · have c : u < 16 := by omega
    refine ⟨by (first | omega | (unfold I64; omega) | (simp only [List.length_append, List.length_cons, List.length_nil, List.length_take, List.length_drop] at *; omega) | (unfold I64; simp only [List.length_append, List.length_cons, List.length_nil, List.length_take, List.length_drop] at *; omega)), ⟨by omega, by show _ < (36 : Int); omega⟩, by omega, ⟨by omega, ?_⟩⟩
    have := put65 a (j := j) (k := u) (by omega) (by omega)
    have e2 : cut (setB a (65 - (j : Int) - 1) ((gi dgs (u : Int)).toNat : Int)).1 (65 - (j : Int) - 1) 65 = numL 16 n := by
      rw [this, he, numL_lt c]; rfl
    show Q (cut (setB a (65 - (j : Int) - 1) ((gi dgs (u : Int)).toNat : Int)).1 (65 - (j : Int) - 1) 65)
    rw [e2]; exact h
/-! ### Numbers read -/
def dval (c : UInt8) : Nat := (dgs.idxOf c)
def val (b : Nat) (l : Str) : Nat := l.foldl (fun a c => a * b + dval c) 0
theorem dval_dig : ∀ k < 36, dval (dig k) = k := by decide
theorem val_snoc (b : Nat) (l : Str) (c : UInt8) : val b (l ++ [c]) = val b l * b + dval c := by unfold val; rw [List.foldl_append]; rfl
theorem fold_ge {b : Nat} (hb : 1 ≤ b) : ∀ (l : Str) (a : Nat), a ≤ l.foldl (fun a c => a * b + dval c) a
  | [], _ => Nat.le_refl _
  | c :: l, a => by
    refine Nat.le_trans ?_ (fold_ge hb l (a * b + dval c))
    exact Nat.le_trans (Nat.le_mul_of_pos_right a hb) (Nat.le_add_right _ _)
theorem val_take {b : Nat} (hb : 1 ≤ b) (l : Str) (i : Nat) : val b (l.take i) ≤ val b l := by
  conv => rhs; rw [← List.take_append_drop i l]
  unfold val
  rw [List.foldl_append]
  exact fold_ge hb _ _
theorem val_numL {b : Nat} (hb : 2 ≤ b ∧ b ≤ 36) : ∀ n, val b (numL b n) = n := by
  intro n
  induction n using Nat.strongRecOn with
  | _ n ih =>
    by_cases h : n < b
    · rw [numL_lt h]
      show 0 * b + dval (dig n) = n
      rw [dval_dig n (by omega)]; omega
    · have hm : n % b < b := Nat.mod_lt _ (by omega)
      rw [numL_ge hb.1 (by omega), val_snoc, ih _ (Nat.div_lt_self (by omega) (by omega)), dval_dig _ (by omega)]
      exact Nat.div_add_mod' n b
theorem numL_mem {b : Nat} (hb : 2 ≤ b) : ∀ n, ∀ c ∈ numL b n, ∃ k < b, c = dig k := by
  intro n
  induction n using Nat.strongRecOn with
  | _ n ih =>
    intro c hc
    by_cases h : n < b
    · rw [numL_lt h] at hc
      exact ⟨n, h, List.mem_singleton.1 hc⟩
    · rw [numL_ge hb (by omega)] at hc
      rcases List.mem_append.1 hc with q | q
      · exact ih _ (Nat.div_lt_self (by omega) (by omega)) c q
      · exact ⟨n % b, Nat.mod_lt _ (by omega), List.mem_singleton.1 q⟩
theorem or32 {c : Nat} (hc : c < 256) : (0 : Int) ≤ bits .or .u8 (c : Int) 32 ∧ bits .or .u8 (c : Int) 32 < 256 := by
  have e := Go.u8_or_nat c 32 hc (by decide)
  rw [show ((32 : Nat) : Int) = 32 from rfl] at e
  rw [e]
  have : c ||| 32 < 2 ^ 8 := Nat.or_lt_two_pow (by omega) (by decide)
  omega
theorem lower_ok {c : Nat} (hc : c < 256) {Q : Int → Prop} (h : ∀ r : Nat, r < 256 → (∀ k < 16, 10 ≤ k → c = 87 + k → r = c) → Q (r : Int)) : internal_strconv_lower_W (c : Int) Q := by
  have h1 := or32 hc
  refine ⟨h1, ?_⟩
  refine h _ (by have := (u8w (bits .or .u8 (c : Int) 32)).toNat_lt; omega) fun k hk hk2 e => ?_
  have h2 := u8w_toNat (bits .or .u8 (c : Int) 32)
  rw [Int.emod_eq_of_lt h1.1 h1.2] at h2
  have hf : ∀ k < 16, 10 ≤ k → bits .or .u8 ((87 + k : Nat) : Int) 32 = ((87 + k : Nat) : Int) := by decide +kernel
  have := hf k hk hk2
  rw [← e] at this
  omega
structure PuC (b w : Nat) (bI wI cutoff : Int) : Prop where
  hb : 2 ≤ b ∧ b ≤ 16
  hw : 2 ^ w ≤ 65536
  h0 : 1 ≤ 2 ^ w
  eM : IntKind.u64.wrap ((IntKind.u64.wrap ((1 : Int) * 2 ^ (min (IntKind.u64.wrap wI).toNat IntKind.u64.bits))) - 1) = ((2 ^ w - 1 : Nat) : Int)
  hc : ((2 ^ w : Nat) : Int) ≤ cutoff
  e8 : ((u8w bI).toNat : Int) = b
  e64 : IntKind.u64.wrap bI = b
  nz : ¬ bI = 0
theorem w64 {n : Nat} (h : n < 18446744073709551616) : IntKind.u64.wrap (n : Int) = n := by rw [IntKind.wrap_u64]; omega
theorem j8_ok {b w : Nat} {bI wI cutoff : Int} (C : PuC b w bI wI cutoff) {Q : Int → Int → Prop} {K : Bool → Int → Int → Prop} {i : Int} {n d : Nat} (hn : n < 2 ^ w) (hd : d < 256) (hi : I64 (i + 1))
    (e2 : b ≤ d → Q 0 2) (e1 : d < b → 2 ^ w ≤ n * b + d → Q ((2 ^ w - 1 : Nat) : Int) 1) (ok : d < b → n * b + d < 2 ^ w → K false ((n * b + d : Nat) : Int) (i + 1)) :
    internal_strconv_ParseUint_j8 Q bI wI cutoff false (n : Int) i K (d : Int) := by
  have hw := C.hw
  have hb := C.hb
  have hnb : n * b ≤ 65536 * 16 := Nat.mul_le_mul (by omega) hb.2
  have eB : IntKind.u64.wrap ((n : Int) * IntKind.u64.wrap bI) = ((n * b : Nat) : Int) := by
    rw [C.e64, show (n : Int) * (b : Int) = ((n * b : Nat) : Int) by rw [Int.natCast_mul]]
    exact w64 (by omega)
  have eA : IntKind.u64.wrap (IntKind.u64.wrap ((n : Int) * IntKind.u64.wrap bI) + IntKind.u64.wrap (d : Int)) = ((n * b + d : Nat) : Int) := by
    rw [eB, w64 (n := d) (by omega), show ((n * b : Nat) : Int) + (d : Int) = ((n * b + d : Nat) : Int) by omega]
    exact w64 (by omega)
  unfold internal_strconv_ParseUint_j8
  rw [C.e8, eA, eB, C.eM]
  refine ⟨fun c => e2 (by omega), fun c => ⟨fun c2 => ?_, fun _ => ⟨fun c3 => by omega, fun _ => ?_⟩⟩⟩
  · have := C.hc; omega
  · unfold internal_strconv_ParseUint_j12
    rw [C.eM, eA]
    have h0 := C.h0
    refine ⟨fun c3 => e1 (by omega) (by have := of_decide_eq_true c3; omega), fun c3 => ⟨hi, ok (by omega) (by have := of_decide_eq_false c3; omega)⟩⟩
theorem digN : ∀ k < 16, (dig k).toNat = if k < 10 then 48 + k else 87 + k := by decide
theorem chr_ok {bI wI cutoff : Int} {Q : Int → Int → Prop} {K : Bool → Int → Int → Prop} {s : Str} {n i : Int} {c : Nat} (hc : c < 256) (hg : ((gi s i).toNat : Int) = (c : Int))
    (hd : ∀ d : Nat, d < 256 → (∀ k < 16, c = (dig k).toNat → d = k) → internal_strconv_ParseUint_j8 Q bI wI cutoff false n i K (d : Int)) (he : (∀ k < 16, c ≠ (dig k).toNat) → Q 0 2) :
    internal_strconv_ParseUint_j9 Q s bI wI cutoff false n i K false := by
  refine ⟨fun q => (by cases q), fun _ => ?_⟩
  have hdig : ∀ k < 16, c = (dig k).toNat → c = if k < 10 then 48 + k else 87 + k := fun k hk e => by rw [e, digN k hk]
  have j10 : ∀ q : Bool, q = decide (48 ≤ c ∧ c ≤ 57) → internal_strconv_ParseUint_j10 Q s bI wI cutoff false n i K q := by
    intro q hq
    unfold internal_strconv_ParseUint_j10
    rw [hg]
    refine ⟨fun h => ?_, fun h => ?_⟩
    · rw [h] at hq
      have hr := of_decide_eq_true hq.symm
      have e := u8w_toNat ((c : Int) - 48)
      rw [Int.emod_eq_of_lt (by omega) (by omega)] at e
      have ed : ((u8w ((c : Int) - 48)).toNat : Int) = ((c - 48 : Nat) : Int) := by omega
      rw [ed]
      refine hd _ (by omega) fun k hk e => ?_
      have := hdig k hk e
      split at this <;> omega
    · rw [h] at hq
      have hr := of_decide_eq_false hq.symm
      have hk10 : ∀ k < 16, c = (dig k).toNat → 10 ≤ k ∧ c = 87 + k := by
        intro k hk e
        have := hdig k hk e
        split at this <;> omega
      refine lower_ok hc fun r4 h4 f4 => ⟨fun a => lower_ok hc fun r5 h5 f5 => ⟨fun b => ?_, fun b => he fun k hk e => ?_⟩, fun a => ⟨fun b => (by cases b), fun _ => he fun k hk e => ?_⟩⟩
      · rw [hg]
        refine lower_ok hc fun r6 h6 f6 => ?_
        have e1 := u8w_toNat ((r6 : Int) - 97)
        have e2 := u8w_toNat (((u8w ((r6 : Int) - 97)).toNat : Int) + 10)
        have hlt := (u8w (((u8w ((r6 : Int) - 97)).toNat : Int) + 10)).toNat_lt
        refine hd _ (by omega) fun k hk e => ?_
        obtain ⟨k1, k2⟩ := hk10 k hk e
        have := f6 k hk k1 k2
        omega
      · obtain ⟨k1, k2⟩ := hk10 k hk e
        have := f5 k hk k1 k2
        have := of_decide_eq_false b
        omega
      · obtain ⟨k1, k2⟩ := hk10 k hk e
        have := f4 k hk k1 k2
        omega
  unfold internal_strconv_ParseUint_j9 at *
  rw [hg]
  refine ⟨fun a => j10 _ ?_, fun a => j10 _ ?_⟩
  · rw [Bool.eq_iff_iff, decide_eq_true_eq, decide_eq_true_eq]; omega
  · exact (decide_eq_false (by omega)).symm
theorem pu_loop {b w : Nat} {bI wI cutoff : Int} (C : PuC b w bI wI cutoff) {s s1 : Str} {Q : Int → Int → Prop} (hl : s.length ≤ 1000)
    (h : ∀ (v e : Int), (e = 0 ∨ e = 1 ∨ e = 2) → (∀ n : Nat, n < 2 ^ w → s = numL b n → v = n ∧ e = 0) → Q v e) :
    loopW (fun (K_1 : (Bool × Int × Int) → Prop) (q : Bool × Int × Int) => internal_strconv_ParseUint_l1 s1 bI Q s bI wI cutoff (fun underscores_1 n_1 n_2 => K_1 (underscores_1, n_1, n_2)) q.1 q.2.1 q.2.2) (false, 0, 0) := by
  have hb := C.hb
  refine loop_by (fun q => q.2.2) s.length (fun i q => q.1 = false ∧ ∃ n : Nat, q.2.1 = n ∧ n < 2 ^ w ∧ ∀ m, m < 2 ^ w → s = numL b m → n = val b (s.take i)) rfl ⟨rfl, 0, rfl, by have := C.h0; omega, fun _ _ _ => rfl⟩ ?_
  rintro K i ⟨_, _, _⟩ rfl hi ⟨rfl, n, rfl, hn, hv⟩ hK
  simp only at hv ⊢
  unfold internal_strconv_ParseUint_l1
  refine ⟨fun c => ⟨by omega, ?_⟩, fun c => ⟨fun q => (by cases q), fun _ => ⟨fun q => (by cases q), fun _ => h _ _ (.inl rfl) fun m hm e => ⟨?_, rfl⟩⟩⟩⟩
  · have i1 : i < s.length := by omega
    have hg : ((gi s (i : Int)).toNat : Int) = ((s[i].toNat : Nat) : Int) := by rw [gi_nat i1]
    have h9 : internal_strconv_ParseUint_j9 Q s bI wI cutoff false (n : Int) (i : Int) (fun underscores_1 n_1 n_2 => K (underscores_1, n_1, n_2)) false := by
      have hmem : ∀ m, m < 2 ^ w → s = numL b m → ∃ k < b, s[i] = dig k ∧ n * b + k = val b (s.take (i + 1)) ∧ n * b + k ≤ m := by
        intro m hm e
        obtain ⟨k, hk, ek⟩ := numL_mem hb.1 m s[i] (by rw [← e]; exact List.getElem_mem i1)
        have e1 : val b (s.take (i + 1)) = n * b + k := by
          rw [List.take_succ_eq_append_getElem i1, val_snoc, ← hv m hm e, ek, dval_dig k (by omega)]
        have e2 := val_take (b := b) (by omega) s (i + 1)
        have e3 : val b s = m := by rw [e]; exact val_numL ⟨hb.1, by omega⟩ m
        exact ⟨k, hk, ek, e1.symm, by omega⟩
      refine chr_ok s[i].toNat_lt hg (fun d hd hdk => j8_ok C hn hd (by (first | omega | (unfold I64; omega) | (simp only [List.length_append, List.length_cons, List.length_nil, List.length_take, List.length_drop] at *; omega) | (unfold I64; simp only [List.length_append, List.length_cons, List.length_nil, List.length_take, List.length_drop] at *; omega))) (fun hbd => h _ _ (.inr (.inr rfl)) fun m hm e => ?_) (fun hdb hov => h _ _ (.inr (.inl rfl)) fun m hm e => ?_) (fun hdb hok => hK (i + 1) _ (by simp) (by omega) (by omega) ⟨rfl, n * b + d, rfl, hok, fun m hm e => ?_⟩)) (fun hno => h _ _ (.inr (.inr rfl)) fun m hm e => ?_)
      · obtain ⟨k, hk, ek, _, _⟩ := hmem m hm e
        have := hdk k (by omega) (by rw [ek]); omega
      · obtain ⟨k, hk, ek, _, _⟩ := hmem m hm e
        have := hdk k (by omega) (by rw [ek]); subst this; omega
      · obtain ⟨k, hk, ek, ev, _⟩ := hmem m hm e
        have := hdk k (by omega) (by rw [ek]); subst this; exact ev
      · obtain ⟨k, hk, ek, _, _⟩ := hmem m hm e
        exact absurd (by rw [ek]) (hno k (by omega))
    refine ⟨fun _ => ?_, fun _ => h9⟩
    rw [decide_eq_false C.nz]; exact h9
  · have i1 : i = s.length := by omega
    rw [hv m hm e, i1, List.take_length, e, val_numL ⟨hb.1, by omega⟩]
/-- The ways in which numbers are read here. -/
def PuW (bI wI : Int) (b w : Nat) : Prop := (bI = 10 ∧ wI = 8 ∧ b = 10 ∧ w = 8) ∨ (bI = 16 ∧ wI = 16 ∧ b = 16 ∧ w = 16)
theorem pu_ok {bI wI : Int} {b w : Nat} (hb : PuW bI wI b w) {s : Str} (hl : s.length ≤ 1000) {Q : Int → Bool → Prop}
    (h : ∀ (v : Int) (e : Bool), (∀ n : Nat, n < 2 ^ w → s = numL b n → v = n ∧ e = false) → Q v e) : strconv_ParseUint_W s bI wI Q := by
  have h' : ∀ (v e : Int), (e = 0 ∨ e = 1 ∨ e = 2) → (∀ n : Nat, n < 2 ^ w → s = numL b n → v = n ∧ e = 0) →
      (¬ e = 0 → ((s.length : Int) ≤ 281474976710656 ∧ (e = 2 ∨ e = 1)) ∧ Q v true) ∧ (e = 0 → Q v false) := by
    intro v e he hn
    refine ⟨fun c => ⟨by omega, h _ _ fun n hn1 es => ?_⟩, fun c => h _ _ fun n hn1 es => ⟨(hn n hn1 es).1, rfl⟩⟩
    exact absurd (hn n hn1 es).2 c
  unfold strconv_ParseUint_W internal_strconv_ParseUint_W
  refine ⟨fun c => h' _ _ (.inr (.inr rfl)) fun n _ es => absurd (es.symm.trans c) (numL_ne _ _), fun c => ?_⟩
  rcases hb with ⟨rfl, rfl, rfl, rfl⟩ | ⟨rfl, rfl, rfl, rfl⟩
  · have C : PuC 10 8 10 8 1844674407370955162 := ⟨by decide, by decide, by decide, by decide +kernel, by decide, by decide +kernel, by decide +kernel, by decide⟩
    refine ⟨fun _ => ⟨fun _ => ⟨fun q => absurd q (by decide), fun _ => ⟨fun q => absurd q (by decide), fun _ => ⟨fun q => absurd q (by decide), fun _ => ⟨fun _ => ⟨by decide +kernel, by omega, pu_loop C hl h'⟩, fun q => absurd rfl q⟩⟩⟩⟩, fun q => absurd q (by decide)⟩, fun q => absurd (by decide) q⟩
  · have C : PuC 16 16 16 16 1152921504606846976 := ⟨by decide, by decide, by decide, by decide +kernel, by decide, by decide +kernel, by decide +kernel, by decide⟩
    refine ⟨fun _ => ⟨fun _ => ⟨fun q => absurd q (by decide), fun _ => ⟨fun q => absurd q (by decide), fun _ => ⟨fun q => absurd q (by decide), fun _ => ⟨fun q => absurd q (by decide), fun _ => ⟨fun _ => ⟨by decide +kernel, by omega, pu_loop C hl h'⟩, fun q => absurd rfl q⟩⟩⟩⟩⟩, fun q => absurd q (by decide)⟩, fun q => absurd (by decide) q⟩
/-! ### Bytes of a number -/
theorem put1_ok {v : Int} {Q : Str → Prop} (h : Q [u8w v]) : octet_Put_W v 1 Q := by
  refine ⟨by decide, by decide, ?_⟩
  refine ⟨fun s => s = (v, [default], 0) ∨ s.2 = ([u8w v], -1), fun s => (s.2.2 + 1).toNat, .inl rfl, ?_⟩
  rintro ⟨n, out, i⟩ hI
  unfold octet_put_l1
  rcases hI with hI | hI
  · injection hI with e1 e2; injection e2 with e2 e3; subst e1 e2 e3
    dsimp only
    exact ⟨fun _ => ⟨by decide, by decide, .inr rfl, by decide⟩, fun c => absurd c (by decide)⟩
  · injection hI with e2 e3; subst e2 e3
    dsimp only
    exact ⟨fun c => absurd c (by decide), fun _ => h⟩
theorem put2_ok {v : Int} {Q : Str → Prop} (h : Q [u8w (v.fdiv 256), u8w v]) : octet_Put_W v 2 Q := by
  have e : (2 : Int) ^ (min (8 : Int).toNat IntKind.u64.bits) = 256 := by decide +kernel
  refine ⟨by decide, by decide, ?_⟩
  refine ⟨fun s => s = (v, [default, default], 1) ∨ s = (v.fdiv 256, [default, u8w v], 0) ∨ s.2 = ([u8w (v.fdiv 256), u8w v], -1), fun s => (s.2.2 + 1).toNat, .inl rfl, ?_⟩
  rintro ⟨n, out, i⟩ hI
  unfold octet_put_l1
  rw [e]
  rcases hI with hI | hI | hI
  · injection hI with e1 e2; injection e2 with e2 e3; subst e1 e2 e3
    dsimp only
    exact ⟨fun _ => ⟨by decide, by decide, .inr (.inl rfl), by decide⟩, fun c => absurd c (by decide)⟩
  · injection hI with e1 e2; injection e2 with e2 e3; subst e1 e2 e3
    dsimp only
    exact ⟨fun _ => ⟨by simp, by decide, .inr (.inr rfl), by decide⟩, fun c => absurd c (by decide)⟩
  · injection hI with e2 e3; subst e2 e3
    dsimp only
    exact ⟨fun c => absurd c (by decide), fun _ => h⟩
theorem numbers_ok {s : Str} {c : UInt8} {base wide : Int} {b w : Nat} (hP : PuW base (8 * wide) b w) (hw : I64 (8 * wide)) (putB : Int → Str) (hput : ∀ (v : Int) (Q : Str → Prop), Q (putB v) → octet_Put_W v wide Q) (hlen : ∀ v, (putB v).length ≤ 2) (hs : s.length ≤ 900) {Q : Str → Bool → Prop}
    (h : ∀ (r : Str) (ok : Bool), r.length ≤ 2 * (s.length + 1) → (s = [] → r = [] ∧ ok = true) → (∀ ns : List Nat, (∀ n ∈ ns, n < 2 ^ w) → s ≠ [] → splitS s [c] = ns.map (numL b) → r = ns.flatMap (fun (n : Nat) => putB (n : Int)) ∧ ok = true) → Q r ok) : addr_numbers_W s [c] base wide Q := by
  refine ⟨fun e => h _ _ (by simp) (fun _ => ⟨rfl, rfl⟩) fun _ _ q => absurd e q, fun e => ⟨⟨by omega, by simp⟩, ?_⟩⟩
  have hl := split_len s c
  have hm := split_mem s c
  generalize hS : splitS s [c] = l at *
  refine loop_up l.length (fun i o => o.length ≤ 2 * i ∧ ∀ ns : List Nat, (∀ n ∈ ns, n < 2 ^ w) → l = ns.map (numL b) → o = (ns.take i).flatMap (fun (n : Nat) => putB (n : Int))) ⟨by simp, fun _ _ _ => by simp⟩ fun K i o hi hI hK => ?_
  obtain ⟨lo, ho⟩ := hI
  show addr_numbers_l1 s [c] base wide Q _ o (i : Int)
  unfold addr_numbers_l1
  rw [hS]
  refine ⟨fun d => ⟨by omega, hw, ?_⟩, fun d => h _ _ (by omega) (fun q => absurd q e) fun ns h1 _ h2 => ⟨?_, rfl⟩⟩
  · have i1 : i < l.length := by omega
    rw [gi_nat i1]
    have hx := (hm l[i] (List.getElem_mem i1)).1
    have elem : ∀ ns : List Nat, l = ns.map (numL b) → ∃ hi' : i < ns.length, l[i] = numL b ns[i] := by
      intro ns e
      have hi' : i < ns.length := by rw [e, List.length_map] at i1; exact i1
      exact ⟨hi', by subst e; simp⟩
    refine pu_ok hP (by omega) fun v er hv => ⟨fun ce => ?_, fun ce => ?_⟩
    · subst ce
      refine h _ _ (by simp) (fun q => absurd q e) fun ns h1 _ h2 => ?_
      obtain ⟨hi', e1⟩ := elem ns h2
      have := (hv ns[i] (h1 _ (List.getElem_mem hi')) e1).2
      cases this
    · subst ce
      have := hlen v
      refine hput _ _ ⟨by omega, by (first | omega | (unfold I64; omega) | (simp only [List.length_append, List.length_cons, List.length_nil, List.length_take, List.length_drop] at *; omega) | (unfold I64; simp only [List.length_append, List.length_cons, List.length_nil, List.length_take, List.length_drop] at *; omega)), hK (i + 1) _ (by omega) (by omega) ⟨?_, fun ns h1 h2 => ?_⟩⟩
      · rw [List.length_append]; omega
      · obtain ⟨hi', e1⟩ := elem ns h2
        rw [List.take_succ_eq_append_getElem hi', List.flatMap_append, ← ho ns h1 h2, (hv ns[i] (h1 _ (List.getElem_mem hi')) e1).1]
        simp
  · have i1 : i = l.length := by omega
    have := ho ns h1 h2
    rw [this, List.take_of_length_le (by rw [i1, h2, List.length_map]; exact Nat.le_refl _)]
/-! ### Words -/
abbrev Ad := T_api_Addr
def by8 (a : Ad) (i : Nat) : Nat := (a.2.1.getD i 0).toNat
theorem b8_by (a : Ad) {i : Nat} (h : i < 16) : b8 a.2 (i : Int) = ((by8 a i : Nat) : Int) := by
  have hl : i < a.2.1.length := by rw [a.2.2]; exact h
  unfold b8 by8
  rw [gi_nat hl, List.getD_eq_getElem?_getD, List.getElem?_eq_getElem hl]; rfl
theorem by8_lt (a : Ad) (i : Nat) : by8 a i < 256 := UInt8.toNat_lt _
def wd (a : Ad) (i : Nat) : Nat := 256 * by8 a (2 * i) + by8 a (2 * i + 1)
theorem wd_lt (a : Ad) (i : Nat) : wd a i < 65536 := by have := by8_lt a (2 * i); have := by8_lt a (2 * i + 1); unfold wd; omega
theorem word_ok {a : Ad} {i : Nat} (hi : i < 8) {Q : Int → Prop} (h : Q (wd a i : Int)) : addr_word_W a (i : Int) Q := by
  have e1 : (2 * (i : Int)) = ((2 * i : Nat) : Int) := by omega
  have e2 : (2 * (i : Int)) + 1 = ((2 * i + 1 : Nat) : Int) := by omega
  refine ⟨by unfold I64; omega, by omega, by unfold I64; omega, by omega, ?_⟩
  rw [e2, e1, b8_by a (by omega), b8_by a (by omega)]
  have h1 := by8_lt a (2 * i)
  have h2 := by8_lt a (2 * i + 1)
  have e8 : (2 : Int) ^ (min (8 : Int).toNat IntKind.u64.bits) = 256 := by decide +kernel
  rw [e8, w64 (by omega), w64 (n := by8 a (2 * i + 1)) (by omega)]
  have e3 : ((by8 a (2 * i) : Nat) : Int) * 256 = ((256 * by8 a (2 * i) : Nat) : Int) := by omega
  rw [e3, w64 (by omega), Go.u64_or_nat _ _ (by omega) (by omega), Go.nat_join 8 _ _ (by omega) (by omega)]
  exact h
def zs (a : Ad) : List Bool := (List.range 8).map fun i => decide (wd a i = 0)
def runL (Z : List Bool) (i : Nat) : Nat := ((Z.drop i).takeWhile id).length
theorem runL_step {Z : List Bool} {i : Nat} (h : i < Z.length) : runL Z i = if Z[i] = true then runL Z (i + 1) + 1 else 0 := by
  unfold runL
  rw [List.drop_eq_getElem_cons h, List.takeWhile_cons]
  cases Z[i] <;> simp
theorem runL_end {Z : List Bool} {i : Nat} (h : Z.length ≤ i) : runL Z i = 0 := by unfold runL; rw [List.drop_eq_nil_of_le h]; rfl
theorem zs_len (a : Ad) : (zs a).length = 8 := by simp [zs]
theorem zs_get (a : Ad) {i : Nat} (h : i < (zs a).length) : (zs a)[i] = decide (wd a i = 0) := by simp [zs]
theorem runL_le (Z : List Bool) (i : Nat) : i + runL Z i ≤ max i Z.length := by
  unfold runL
  have := (List.takeWhile_sublist id (l := Z.drop i)).length_le
  rw [List.length_drop] at this
  omega
/-- The longest row, as the program goes through the words; as the document does. -/
def rowF (Z : List Bool) : Nat → Int × Int → Nat → Int × Int
  | 0, r, _ => r
  | f + 1, r, i => if 8 ≤ i then r else rowF Z f (if r.2 < (runL Z i : Int) then ((i : Int), (runL Z i : Int)) else r) (i + (runL Z i + 1))
def refF (Z : List Bool) : Nat → Int × Int → Nat → Int × Int
  | 0, r, _ => r
  | f + 1, r, i => if 8 ≤ i then r else refF Z f (if r.2 < (runL Z i : Int) then ((i : Int), (runL Z i : Int)) else r) (i + 1)
theorem row_end (Z : List Bool) {i : Nat} (h : 8 ≤ i) : ∀ f r, rowF Z f r i = r
  | 0, _ => rfl
  | f + 1, r => if_pos h
theorem ref_end (Z : List Bool) {i : Nat} (h : 8 ≤ i) : ∀ f r, refF Z f r i = r
  | 0, _ => rfl
  | f + 1, r => if_pos h
def rowOf (a : Ad) : Int × Int := rowF (zs a) 8 (0, 1) 0
def refOf (a : Ad) : Int × Int := refF (zs a) 8 (-1, 1) 0
theorem row_ok {a : Ad} {Q : Int → Int → Prop} (h : Q (rowOf a).1 (rowOf a).2) : addr_row_W a Q := by
  refine ⟨fun s => ∃ f i : Nat, s.2.2 = i ∧ 8 ≤ i + f ∧ i ≤ 9 ∧ rowF (zs a) f (s.1, s.2.1) i = rowOf a, fun s => (9 - s.2.2).toNat, ⟨8, 0, rfl, by omega, by omega, rfl⟩, ?_⟩
  rintro ⟨at_, most, _⟩ ⟨f, i, rfl, hf, hi9, he⟩
  simp only at he ⊢
  unfold addr_row_l1
  refine ⟨fun c => ?_, fun c => ?_⟩
  · have i8 : i < 8 := by omega
    have hr := runL_le (zs a) i
    rw [zs_len] at hr
    refine ⟨fun k => ∃ j : Nat, k = j ∧ i + j ≤ 8 ∧ runL (zs a) i = j + runL (zs a) (i + j), fun k => (9 - k).toNat, ⟨0, rfl, by omega, by simp⟩, ?_⟩
    rintro _ ⟨j, rfl, hj, hjr⟩
    have fin : j = runL (zs a) i → addr_row_j1 at_ most (i : Int) (fun n_1 most_1 i_1 => (∃ f i : Nat, i_1 = i ∧ 8 ≤ i + f ∧ i ≤ 9 ∧ rowF (zs a) f (n_1, most_1) i = rowOf a) ∧ (9 - i_1).toNat < (9 - (i : Int)).toNat) (j : Int) := by
      intro ej
      have ef : ∃ f', f = f' + 1 := ⟨f - 1, by omega⟩
      obtain ⟨f', rfl⟩ := ef
      rw [rowF, if_neg (by omega), ← ej] at he
      refine ⟨fun cm => ⟨by unfold I64; omega, by unfold I64; omega, ⟨f', i + (j + 1), by omega, by omega, by omega, ?_⟩, by omega⟩, fun cm => ⟨by unfold I64; omega, by unfold I64; omega, ⟨f', i + (j + 1), by omega, by omega, by omega, ?_⟩, by omega⟩⟩
      · rw [if_pos cm] at he; exact he
      · rw [if_neg cm] at he; exact he
    unfold addr_row_l2
    refine ⟨by unfold I64; omega, fun c2 => ?_, fun c2 => fin ?_⟩
    · have i2 : i + j < (zs a).length := by rw [zs_len]; omega
      rw [show (i : Int) + (j : Int) = ((i + j : Nat) : Int) by omega]
      refine word_ok (by omega) ⟨fun c3 => ⟨by unfold I64; omega, ⟨j + 1, by omega, by omega, ?_⟩, (by show (9 - ((j : Int) + 1)).toNat < (9 - (j : Int)).toNat; omega)⟩, fun c3 => fin ?_⟩
      · rw [hjr, runL_step i2, zs_get, if_pos (decide_eq_true (by omega)), Nat.add_assoc i j 1]; omega
      · rw [hjr, runL_step i2, zs_get, if_neg (by simpa using (by omega : ¬ wd a (i + j) = 0))]; omega
    · rw [hjr, runL_end (by rw [zs_len]; omega)]; omega
  · rw [row_end _ (by omega)] at he
    rw [← he] at h; exact h
theorem rows_all : ∀ a b c d e f g h : Bool, let Z := [a, b, c, d, e, f, g, h]; let p := rowF Z 8 (0, 1) 0; let q := refF Z 8 (-1, 1) 0;
    (p.2 < 2 → q = (-1, 1)) ∧ (¬ p.2 < 2 → q = p) ∧ 0 ≤ p.1 ∧ 1 ≤ p.2 ∧ p.1 + p.2 ≤ 8 := by decide +kernel
theorem rows_of (a : Ad) : ((rowOf a).2 < 2 → refOf a = (-1, 1)) ∧ (¬ (rowOf a).2 < 2 → refOf a = rowOf a) ∧ 0 ≤ (rowOf a).1 ∧ 1 ≤ (rowOf a).2 ∧ (rowOf a).1 + (rowOf a).2 ≤ 8 := rows_all _ _ _ _ _ _ _ _
theorem numL_pow {b : Nat} (hb : 2 ≤ b) : ∀ (k n : Nat), 1 ≤ k → n < b ^ k → (numL b n).length ≤ k
  | 0, _, h, _ => by omega
  | 1, n, _, h => by rw [numL_lt (by simpa using h)]; simp
  | k + 2, n, _, h => by
    by_cases hn : n < b
    · rw [numL_lt hn]; simp
    · have h1 : n / b < b ^ (k + 1) := by
        rw [Nat.pow_succ] at h
        exact Nat.div_lt_of_lt_mul (by rw [Nat.mul_comm]; exact h)
      have := numL_pow hb (k + 1) (n / b) (by omega) h1
      rw [numL_ge hb (by omega), List.length_append]
      simp only [List.length_cons, List.length_nil]; omega
theorem dig_ne : ∀ k < 16, dig k ≠ 58 ∧ dig k ≠ 46 := by decide
theorem numL_no {b : Nat} (hb : 2 ≤ b ∧ b ≤ 16) (n : Nat) : 58 ∉ numL b n ∧ 46 ∉ numL b n := by
  constructor <;> intro h <;> obtain ⟨k, hk, e⟩ := numL_mem hb.1 n _ h
  · exact (dig_ne k (by omega)).1 e.symm
  · exact (dig_ne k (by omega)).2 e.symm
/-- Words from one place to another. -/
def wL (a : Ad) (i j : Nat) : List Str := (List.range' i (j - i)).map fun k => numL 16 (wd a k)
theorem wL_succ (a : Ad) {i k : Nat} (h : i ≤ k) : wL a i (k + 1) = wL a i k ++ [numL 16 (wd a k)] := by
  unfold wL
  rw [show k + 1 - i = (k - i) + 1 by omega, List.range'_1_concat, List.map_append, show i + (k - i) = k by omega]; rfl
theorem wL_nil (a : Ad) {i j : Nat} (h : j ≤ i) : wL a i j = [] := by unfold wL; rw [show j - i = 0 by omega]; rfl
theorem wL_len (a : Ad) (i j : Nat) : (wL a i j).length = j - i := by simp [wL]
theorem wL_good (a : Ad) (i j : Nat) : ∀ x ∈ wL a i j, x ≠ [] ∧ (58 : UInt8) ∉ x ∧ x.length ≤ 4 := by
  intro x hx
  obtain ⟨k, _, rfl⟩ := List.mem_map.1 hx
  exact ⟨numL_ne _ _, (numL_no (by decide) _).1, numL_pow (by decide) 4 _ (by decide) (wd_lt a k)⟩
theorem wJ_len (a : Ad) (i j : Nat) : (joinS (wL a i j) [58]).length ≤ (j - i) * 5 := by
  have := joinS_len (c := 58) (m := 4) fun x hx => (wL_good a i j x hx).2.2
  rw [wL_len] at this; exact this
def oL (a : Ad) (i : Nat) : List Str := (List.range i).map fun k => numL 10 (by8 a k)
theorem oL_succ (a : Ad) (i : Nat) : oL a (i + 1) = oL a i ++ [numL 10 (by8 a i)] := by unfold oL; rw [List.range_succ, List.map_append]; rfl
theorem oL_len (a : Ad) (i : Nat) : (oL a i).length = i := by simp [oL]
theorem oL_good (a : Ad) (i : Nat) : ∀ x ∈ oL a i, x ≠ [] ∧ (46 : UInt8) ∉ x ∧ (58 : UInt8) ∉ x ∧ x.length ≤ 3 := by
  intro x hx
  obtain ⟨k, _, rfl⟩ := List.mem_map.1 hx
  have := by8_lt a k
  exact ⟨numL_ne _ _, (numL_no (by decide) _).2, (numL_no (by decide) _).1, numL_pow (by decide) 3 _ (by decide) (by omega)⟩
theorem oJ_len (a : Ad) (i : Nat) : (joinS (oL a i) [46]).length ≤ i * 4 := by
  have := joinS_len (c := 46) (m := 3) fun x hx => (oL_good a i x hx).2.2.2
  rw [oL_len] at this; exact this
def txt (a : Ad) : Str :=
  if a.1 = true then (if (rowOf a).2 < 2 then joinS (wL a 0 8) [58] else joinS (wL a 0 (rowOf a).1.toNat) [58] ++ [58, 58] ++ joinS (wL a ((rowOf a).1 + (rowOf a).2).toNat 8) [58])
  else joinS (oL a 4) [46]
theorem txt_len (a : Ad) : (txt a).length ≤ 100 := by
  unfold txt
  have h1 := wJ_len a 0 8
  have h2 := wJ_len a 0 (rowOf a).1.toNat
  have h3 := wJ_len a ((rowOf a).1 + (rowOf a).2).toNat 8
  have h4 := oJ_len a 4
  obtain ⟨_, _, r1, r2, r3⟩ := rows_of a
  split
  · split
    · omega
    · simp only [List.length_append, List.length_cons, List.length_nil]; omega
  · omega
/-! ### The program's -/
theorem list_ok {a : Ad} {i j : Nat} (hj : j ≤ 8) (hi : i ≤ 8) {Q : Str → Prop} (h : Q (joinS (wL a i j) [58])) : addr_list_W a (i : Int) (j : Int) Q := by
  refine loop_from (fun s => s.2) i (max i j) (fun k s => i ≤ k ∧ s.1 = wL a i k) rfl (by omega) ⟨Nat.le_refl _, (wL_nil a (Nat.le_refl _)).symm⟩ ?_
  rintro K k ⟨l, _⟩ rfl hk ⟨hik, hl'⟩ hK
  dsimp only at hl' ⊢
  subst hl'
  have hl := wL_len a i k
  unfold addr_list_l2
  refine ⟨fun c => word_ok (by omega) (fmt16_ok (wd_lt a k) ⟨by simp only [List.length_cons, List.length_nil]; omega, by unfold I64; omega, hK (k + 1) _ (by dsimp only; omega) (by omega) (by omega) ⟨by omega, (wL_succ a hik).symm⟩⟩), fun c => ?_⟩
  have e : wL a i k = wL a i j := by
    by_cases hij : i ≤ j
    · rw [show k = j by omega]
    · rw [wL_nil a (by omega), wL_nil a (by omega)]
  have := wJ_len a i k
  refine ⟨⟨by omega, by omega⟩, ?_⟩
  rw [e]; exact h
theorem text_ok {a : Ad} {Q : Str → Prop} (h : Q (txt a)) : addr_text_W a Q := by
  refine ⟨fun c => ?_, fun c => ?_⟩
  · have hv : a.1 = false := by simpa using c
    have hc : (cut a.2.1 0 4).length = 4 := by unfold cut; have := a.2.2; simp; omega
    refine loop_up 4 (fun i l => l = oL a i) rfl fun K i l hi hl hK => ?_
    have hlen := oL_len a i
    rw [← hl] at hlen
    show addr_text_l2 a Q _ l (i : Int)
    unfold addr_text_l2
    rw [hc]
    refine ⟨fun d => ?_, fun d => ?_⟩
    · have i4 : i < (cut a.2.1 0 4).length := by omega
      have hg : (((gi (cut a.2.1 0 4) (i : Int)).toNat : Nat) : Int) = ((by8 a i : Nat) : Int) := by
        rw [gi_nat i4]
        unfold by8 cut
        have hl : i < a.2.1.length := by have := a.2.2; omega
        simp [List.getD_eq_getElem?_getD, hl]
      have h8 := by8_lt a i
      rw [hg, itoa_numL]
      exact ⟨by omega, by unfold I64; omega, by simp only [List.length_cons, List.length_nil]; omega, by unfold I64; omega, hK (i + 1) _ (by omega) (by omega) (by rw [oL_succ, hl])⟩
    · have i4 : i = 4 := by omega
      subst i4
      have := oJ_len a 4
      rw [hl]
      refine ⟨⟨by rw [oL_len]; decide, by omega⟩, ?_⟩
      unfold txt at h
      rw [if_neg (by rw [hv]; decide)] at h; exact h
  · have hv : a.1 = true := by simpa using c
    obtain ⟨_, _, r1, r2, r3⟩ := rows_of a
    unfold txt at h
    rw [if_pos hv] at h
    refine row_ok ⟨fun d => list_ok (i := 0) (j := 8) (by omega) (by omega) ?_, fun d => ⟨by unfold I64; omega, ?_⟩⟩
    · rw [if_pos d] at h; exact h
    · rw [if_neg d] at h
      have e1 : (rowOf a).1 = ((rowOf a).1.toNat : Int) := by omega
      have e2 : (rowOf a).1 + (rowOf a).2 = (((rowOf a).1 + (rowOf a).2).toNat : Int) := by omega
      have l1 := wJ_len a 0 (rowOf a).1.toNat
      have l2 := wJ_len a ((rowOf a).1 + (rowOf a).2).toNat 8
      generalize ((rowOf a).1 + (rowOf a).2).toNat = q at *
      generalize (rowOf a).1.toNat = p at *
      rw [e2, e1]
      exact list_ok (i := 0) (by omega) (by omega) ⟨by simp only [List.length_cons, List.length_nil]; omega, list_ok (j := 8) (by omega) (by omega) ⟨by simp only [List.length_append, List.length_cons, List.length_nil]; omega, h⟩⟩
/-! ### The document's -/
theorem last_gi {s : Str} {c : UInt8} (h : s.getLast? = some c) : s ≠ [] ∧ gi s ((s.length : Int) - 1) = c := by
  have hne : s ≠ [] := by rintro rfl; cases h
  have hp := List.length_pos_iff.2 hne
  refine ⟨hne, ?_⟩
  rw [show (s.length : Int) - 1 = ((s.length - 1 : Nat) : Int) by omega, gi_nat (by omega)]
  rw [List.getLast?_eq_getElem?, List.getElem?_eq_getElem (by omega)] at h
  exact Option.some.inj h
theorem j3_ok {a : Ad} {i : Nat} (hi : i < 8) {K : Str → Int → Prop} {s : Str} (hs : s.length ≤ 1000) (h : K (s ++ numL 16 (wd a i)) ((i : Int) + 1)) : ref03_Print_j3 a (i : Int) K s := by
  have e1 : (2 * (i : Int)) = ((2 * i : Nat) : Int) := by omega
  have e2 : (2 * (i : Int)) + 1 = ((2 * i + 1 : Nat) : Int) := by omega
  have h1 := by8_lt a (2 * i)
  have h2 := by8_lt a (2 * i + 1)
  have hw : 256 * ((by8 a (2 * i) : Nat) : Int) + ((by8 a (2 * i + 1) : Nat) : Int) = ((wd a i : Nat) : Int) := by unfold wd; omega
  unfold ref03_Print_j3
  rw [e2, e1, b8_by a (by omega), b8_by a (by omega), hw]
  have hwl := wd_lt a i
  have hnl := numL_pow (b := 16) (by decide) 4 _ (by decide) hwl
  exact ⟨by unfold I64; omega, by omega, by unfold I64; omega, by unfold I64; omega, by unfold I64; omega, by omega, by unfold I64; omega, by unfold I64; omega, num_ok (b := 16) (by decide) (by omega) ⟨by omega, by unfold I64; omega, h⟩⟩
theorem add_ok {a : Ad} {i : Nat} (hi : i < 8) {K : Str → Int → Prop} {P : Str} {l : List Str} (hP : P = [] ∨ P.getLast? = some 58) (hl : ∀ x ∈ l, x ≠ [] ∧ (58 : UInt8) ∉ x) (hlen : (P ++ joinS l [58]).length ≤ 900)
    (h : K (P ++ joinS (l ++ [numL 16 (wd a i)]) [58]) ((i : Int) + 1)) :
    (¬ ((P ++ joinS l [58] : Str) = []) → (I64 (((P ++ joinS l [58]).length : Int) - 1)) ∧ (((0 : Int) ≤ ((P ++ joinS l [58]).length : Int) - 1 ∧ ((P ++ joinS l [58]).length : Int) - 1 < ((P ++ joinS l [58]).length : Int)) ∧ ((¬ (((gi (P ++ joinS l [58]) (((P ++ joinS l [58]).length : Int) - 1)).toNat : Int) = 58) → (((P ++ joinS l [58]).length : Int) + ((([58] : Str)).length : Int) ≤ 9223372036854775807) ∧ (ref03_Print_j3 a (i : Int) K ((P ++ joinS l [58]) ++ ([58] : Str)))) ∧ (((gi (P ++ joinS l [58]) (((P ++ joinS l [58]).length : Int) - 1)).toNat : Int) = 58 → ref03_Print_j3 a (i : Int) K (P ++ joinS l [58]))))) ∧ ((P ++ joinS l [58] : Str) = [] → ref03_Print_j3 a (i : Int) K (P ++ joinS l [58])) := by
  by_cases hn : l = []
  · subst hn
    rw [joinS_nil, List.append_nil] at *
    rw [List.nil_append, joinS_one] at h
    have hj : ref03_Print_j3 a (i : Int) K P := j3_ok hi (by omega) h
    refine ⟨fun c => ?_, fun c => hj⟩
    have hp := List.length_pos_iff.2 c
    refine ⟨by unfold I64; omega, by omega, fun d => ?_, fun d => hj⟩
    rcases hP with rfl | hP
    · exact absurd rfl c
    · exact absurd (by rw [(last_gi hP).2]; rfl) d
  · obtain ⟨x, hx, c, hc, hlast⟩ := joinS_last (s := [58]) hn fun x hx => (hl x hx).1
    have hc58 : c ≠ 58 := fun e => (hl x hx).2 (e ▸ hc)
    have hlast' : (P ++ joinS l [58]).getLast? = some c := by rw [List.getLast?_append, hlast]; rfl
    obtain ⟨hne, hg⟩ := last_gi hlast'
    have hp := List.length_pos_iff.2 hne
    have hj : ref03_Print_j3 a (i : Int) K ((P ++ joinS l [58]) ++ [58]) := by
      refine j3_ok hi (by rw [List.length_append]; simp only [List.length_cons, List.length_nil]; omega) ?_
      rw [joinS_snoc hn] at h
      simpa [List.append_assoc] using h
    refine ⟨fun _ => ⟨by unfold I64; omega, by omega, fun _ => ⟨by simp only [List.length_cons, List.length_nil]; omega, hj⟩, fun d => ?_⟩, fun q => absurd q hne⟩
    rw [hg] at d
    exact absurd (UInt8.toNat_inj.1 (by show c.toNat = 58; omega)) hc58
theorem print6_ok {a : Ad} {Q : Str → Prop} (hv : a.1 = true) (h : Q (txt a)) : loopW (fun (K_4 : (Str × Int) → Prop) (s : Str × Int) => ref03_Print_l4 a Q (refOf a).1 (refOf a).2 (fun s_3 i_3 => K_4 (s_3, i_3)) s.1 s.2) ([], 0) := by
  obtain ⟨r0, rn, r1, r2, r3⟩ := rows_of a
  unfold txt at h
  rw [if_pos hv] at h
  by_cases hc : (rowOf a).2 < 2
  · rw [r0 hc]
    rw [if_pos hc] at h
    refine loop_up 8 (fun i s => s = joinS (wL a 0 i) [58]) rfl fun K i s hi hs hK => ?_
    show ref03_Print_l4 a Q (-1) 1 _ s (i : Int)
    unfold ref03_Print_l4
    have hl := wJ_len a 0 i
    refine ⟨fun d => ⟨fun q => by omega, fun _ => ?_⟩, fun d => ?_⟩
    · have := add_ok (a := a) (i := i) (by omega) (K := fun s_3 i_3 => K (s_3, i_3)) (P := []) (l := wL a 0 i) (.inl rfl) (fun x hx => ⟨(wL_good a 0 i x hx).1, (wL_good a 0 i x hx).2.1⟩) (by rw [List.nil_append]; omega)
        (hK (i + 1) _ (by omega) (by omega) (by rw [List.nil_append, ← wL_succ a (Nat.zero_le _)]))
      rw [List.nil_append, ← hs] at this
      exact this
    · have : i = 8 := by omega
      subst this; rw [hs]; exact h
  · rw [rn hc]
    rw [if_neg hc] at h
    obtain ⟨p, hp⟩ : ∃ p : Nat, (rowOf a).1 = p := ⟨_, (Int.toNat_of_nonneg r1).symm⟩
    obtain ⟨n, hn⟩ : ∃ n : Nat, (rowOf a).2 = n := ⟨_, (Int.toNat_of_nonneg (by omega)).symm⟩
    rw [hp, hn] at h r3 ⊢
    rw [show ((p : Int) + (n : Int)).toNat = p + n by omega, Int.toNat_natCast] at h
    have lH := wJ_len a 0 p
    refine ⟨fun s => ∃ i : Nat, s.2 = i ∧ ((i ≤ p ∧ s.1 = joinS (wL a 0 i) [58]) ∨ (p + n ≤ i ∧ i ≤ 8 ∧ s.1 = joinS (wL a 0 p) [58] ++ [58, 58] ++ joinS (wL a (p + n) i) [58])), fun s => (9 - s.2).toNat, ⟨0, rfl, .inl ⟨Nat.zero_le _, rfl⟩⟩, ?_⟩
    rintro ⟨s, _⟩ ⟨i, rfl, hI⟩
    dsimp only at hI ⊢
    unfold ref03_Print_l4
    rcases hI with ⟨hi, rfl⟩ | ⟨hi, hi8, rfl⟩
    · have hl := wJ_len a 0 i
      refine ⟨fun d => ⟨fun q => ?_, fun q => ?_⟩, fun d => by omega⟩
      · have : i = p := by omega
        subst this
        refine ⟨by simp only [List.length_cons, List.length_nil]; omega, by unfold I64; omega, by unfold I64; omega, by unfold I64; omega, ⟨i + n, by omega, .inr ⟨Nat.le_refl _, by omega, ?_⟩⟩, by omega⟩
        rw [wL_nil a (Nat.le_refl _), joinS_nil, List.append_nil]
      · have := add_ok (a := a) (i := i) (by omega) (K := fun s_3 i_3 => (∃ i_4 : Nat, i_3 = i_4 ∧ ((i_4 ≤ p ∧ s_3 = joinS (wL a 0 i_4) [58]) ∨ (p + n ≤ i_4 ∧ i_4 ≤ 8 ∧ s_3 = joinS (wL a 0 p) [58] ++ [58, 58] ++ joinS (wL a (p + n) i_4) [58]))) ∧ (9 - i_3).toNat < (9 - (i : Int)).toNat) (P := []) (l := wL a 0 i) (.inl rfl) (fun x hx => ⟨(wL_good a 0 i x hx).1, (wL_good a 0 i x hx).2.1⟩) (by rw [List.nil_append]; omega)
          ⟨⟨i + 1, by omega, .inl ⟨by omega, by rw [List.nil_append, ← wL_succ a (Nat.zero_le _)]⟩⟩, by omega⟩
        rw [List.nil_append] at this
        exact this
    · have hl := wJ_len a (p + n) i
      refine ⟨fun d => ⟨fun q => by omega, fun q => ?_⟩, fun d => ?_⟩
      · exact add_ok (a := a) (i := i) (by omega) (K := fun s_3 i_3 => (∃ i_4 : Nat, i_3 = i_4 ∧ ((i_4 ≤ p ∧ s_3 = joinS (wL a 0 i_4) [58]) ∨ (p + n ≤ i_4 ∧ i_4 ≤ 8 ∧ s_3 = joinS (wL a 0 p) [58] ++ [58, 58] ++ joinS (wL a (p + n) i_4) [58]))) ∧ (9 - i_3).toNat < (9 - (i : Int)).toNat) (P := joinS (wL a 0 p) [58] ++ [58, 58]) (l := wL a (p + n) i) (.inr (by simp)) (fun x hx => ⟨(wL_good a _ i x hx).1, (wL_good a _ i x hx).2.1⟩) (by simp only [List.length_append, List.length_cons, List.length_nil]; omega)
          ⟨⟨i + 1, by omega, .inr ⟨by omega, by omega, by rw [← wL_succ a hi]⟩⟩, by omega⟩
      · have : i = 8 := by omega
        subst this; exact h
theorem printR_ok {a : Ad} {Q : Str → Prop} (h : Q (txt a)) : ref03_Print_W a Q := by
  refine ⟨fun c => ?_, fun c => ?_⟩
  · have hv : a.1 = false := by simpa using c
    refine loop_up 4 (fun i s => s = joinS (oL a i) [46]) rfl fun K i s hi hs hK => ?_
    have hl := oJ_len a i
    rw [← hs] at hl
    have h8 := by8_lt a i
    have j1 : ∀ t : Str, t.length ≤ 100 → t ++ numL 10 (by8 a i) = joinS (oL a (i + 1)) [46] → i < 4 → ref03_Print_j1 a (i : Int) (fun s_1 i_1 => K (s_1, i_1)) t := by
      intro t ht he i4
      have hnl := numL_pow (b := 10) (by decide) 3 (by8 a i) (by decide) (by omega)
      unfold ref03_Print_j1
      rw [b8_by a (by omega)]
      exact ⟨by omega, by unfold I64; omega, num_ok (b := 10) (by decide) (by omega) ⟨by omega, by unfold I64; omega, hK (i + 1) _ (by omega) (by omega) he⟩⟩
    show ref03_Print_l1 a Q _ s (i : Int)
    unfold ref03_Print_l1
    refine ⟨fun d => ⟨fun q => ⟨by simp only [List.length_cons, List.length_nil]; omega, j1 _ (by simp only [List.length_append, List.length_cons, List.length_nil]; omega) ?_ (by omega)⟩, fun q => j1 _ (by omega) ?_ (by omega)⟩, fun d => ?_⟩
    · have hne : oL a i ≠ [] := by intro e; have := congrArg List.length e; rw [oL_len] at this; simp at this; omega
      rw [oL_succ, joinS_snoc hne, hs]
    · have : i = 0 := by omega
      subst this
      rw [hs, oL_succ]
      show _ = joinS [numL 10 (by8 a 0)] [46]
      rw [joinS_one]; rfl
    · have : i = 4 := by omega
      subst this
      unfold txt at h
      rw [if_neg (by rw [hv]; decide)] at h
      rw [hs]; exact h
  · have hv : a.1 = true := by simpa using c
    have hp := print6_ok (Q := Q) hv h
    refine ⟨fun s => ∃ f i : Nat, s.2.2 = i ∧ 8 ≤ i + f ∧ i ≤ 9 ∧ refF (zs a) f (s.1, s.2.1) i = refOf a, fun s => (9 - s.2.2).toNat, ⟨8, 0, rfl, by omega, by omega, rfl⟩, ?_⟩
    rintro ⟨at_, most, _⟩ ⟨f, i, rfl, hf, hi9, he⟩
    dsimp only at he ⊢
    unfold ref03_Print_l2
    refine ⟨fun c => ?_, fun c => ?_⟩
    · have i8 : i < 8 := by omega
      have hr := runL_le (zs a) i
      rw [zs_len] at hr
      refine ⟨fun k => ∃ j : Nat, k = j ∧ i + j ≤ 8 ∧ runL (zs a) i = j + runL (zs a) (i + j), fun k => (9 - k).toNat, ⟨0, rfl, by omega, by simp⟩, ?_⟩
      rintro _ ⟨j, rfl, hj, hjr⟩
      have fin : j = runL (zs a) i → ref03_Print_j2 at_ most (i : Int) (fun n_1 most_1 i_1 => (∃ f i : Nat, i_1 = i ∧ 8 ≤ i + f ∧ i ≤ 9 ∧ refF (zs a) f (n_1, most_1) i = refOf a) ∧ (9 - i_1).toNat < (9 - (i : Int)).toNat) (j : Int) := by
        intro ej
        have ef : ∃ f', f = f' + 1 := ⟨f - 1, by omega⟩
        obtain ⟨f', rfl⟩ := ef
        rw [refF, if_neg (by omega), ← ej] at he
        refine ⟨fun cm => ⟨by unfold I64; omega, ⟨f', i + 1, by omega, by omega, by omega, ?_⟩, by omega⟩, fun cm => ⟨by unfold I64; omega, ⟨f', i + 1, by omega, by omega, by omega, ?_⟩, by omega⟩⟩
        · rw [if_pos cm] at he; exact he
        · rw [if_neg cm] at he; exact he
      unfold ref03_Print_l3
      refine ⟨by unfold I64; omega, fun c2 => ?_, fun c2 => fin ?_⟩
      · have i2 : i + j < (zs a).length := by rw [zs_len]; omega
        have e1 : 2 * ((i : Int) + (j : Int)) = ((2 * (i + j) : Nat) : Int) := by omega
        have e2 : 2 * ((i : Int) + (j : Int)) + 1 = ((2 * (i + j) + 1 : Nat) : Int) := by omega
        rw [e2, e1, b8_by a (by omega), b8_by a (by omega)]
        have hz : wd a (i + j) = 0 ↔ by8 a (2 * (i + j)) = 0 ∧ by8 a (2 * (i + j) + 1) = 0 := by unfold wd; omega
        have no : ¬ wd a (i + j) = 0 → j = runL (zs a) i := by
          intro q
          rw [hjr, runL_step i2, zs_get, if_neg (by simpa using q)]; omega
        refine ⟨by unfold I64; omega, by omega, fun c3 => ⟨by unfold I64; omega, by omega, fun c4 => ⟨by unfold I64; omega, ⟨j + 1, by omega, by omega, ?_⟩, (by show (9 - ((j : Int) + 1)).toNat < (9 - (j : Int)).toNat; omega)⟩, fun c4 => fin (no fun q => ?_)⟩, fun c3 => fin (no fun q => ?_)⟩
        · rw [hjr, runL_step i2, zs_get, if_pos (decide_eq_true (hz.2 ⟨by omega, by omega⟩)), Nat.add_assoc i j 1]; omega
        · have := (hz.1 q).2; omega
        · have := (hz.1 q).1; omega
      · rw [hjr, runL_end (by rw [zs_len]; omega)]; omega
    · rw [ref_end _ (by omega)] at he
      rw [← he] at hp; exact hp
theorem list16 {l : Str} (h : l.length = 16) : l = [l.getD 0 0, l.getD 1 0, l.getD 2 0, l.getD 3 0, l.getD 4 0, l.getD 5 0, l.getD 6 0, l.getD 7 0, l.getD 8 0, l.getD 9 0, l.getD 10 0, l.getD 11 0, l.getD 12 0, l.getD 13 0, l.getD 14 0, l.getD 15 0] := by
  match l, h with
  | [_, _, _, _, _, _, _, _, _, _, _, _, _, _, _, _], _ => rfl
theorem u8w_self (x : UInt8) : u8w (x.toNat : Int) = x := by
  have h := u8w_toNat (x.toNat : Int)
  have := x.toNat_lt
  exact UInt8.toNat_inj.1 (by omega)
theorem u8w_by (a : Ad) (i : Nat) : u8w ((by8 a i : Nat) : Int) = a.2.1.getD i 0 := u8w_self _
theorem put_wd (a : Ad) (k : Nat) : [u8w (((wd a k : Nat) : Int).fdiv 256), u8w ((wd a k : Nat) : Int)] = [a.2.1.getD (2 * k) 0, a.2.1.getD (2 * k + 1) 0] := by
  have h1 := by8_lt a (2 * k)
  have h2 := by8_lt a (2 * k + 1)
  have e1 : ((wd a k : Nat) : Int).fdiv 256 = ((by8 a (2 * k) : Nat) : Int) := by
    rw [Int.fdiv_eq_ediv_of_nonneg _ (by decide)]; unfold wd; omega
  have e2 : u8w ((wd a k : Nat) : Int) = u8w ((by8 a (2 * k + 1) : Nat) : Int) := by
    have q1 := u8w_toNat ((wd a k : Nat) : Int)
    have q2 := u8w_toNat ((by8 a (2 * k + 1) : Nat) : Int)
    refine UInt8.toNat_inj.1 ?_
    unfold wd at *; omega
  rw [e1, e2, u8w_by, u8w_by]
/-- An address's bytes. -/
def bOf (a : Ad) : Str := if a.1 = true then a.2.1 else a.2.1.take 4
def seg (a : Ad) (i j : Nat) : Str := (List.range' i (j - i)).flatMap fun k => [a.2.1.getD (2 * k) 0, a.2.1.getD (2 * k + 1) 0]
theorem seg_all (a : Ad) : seg a 0 8 = a.2.1 := (list16 a.2.2).symm
theorem seg_app (a : Ad) {i j k : Nat} (h : i ≤ j) (h2 : j ≤ k) : seg a i j ++ seg a j k = seg a i k := by
  unfold seg
  rw [← List.flatMap_append]
  congr 1
  have : List.range' i (j - i) ++ List.range' (i + 1 * (j - i)) (k - j) = List.range' i ((j - i) + (k - j)) := List.range'_append
  rw [show i + 1 * (j - i) = j by omega, show (j - i) + (k - j) = k - i by omega] at this
  exact this
theorem seg_len (a : Ad) (i j : Nat) : (seg a i j).length = 2 * (j - i) := by
  unfold seg
  generalize j - i = m
  induction m generalizing i with
  | zero => rfl
  | succ m ih => rw [List.range'_succ, List.flatMap_cons, List.length_append, ih]; simp only [List.length_cons, List.length_nil]; omega
theorem repS_zero (n : Nat) : repS [0] (n : Int) = List.replicate n 0 := by
  unfold repS
  rw [Int.toNat_natCast]
  induction n with
  | zero => rfl
  | succ n ih => rw [Lib.repeatL, ih]; rfl
theorem seg_zero (a : Ad) {i j : Nat} (h : ∀ k, i ≤ k → k < j → wd a k = 0) : seg a i j = List.replicate (2 * (j - i)) 0 := by
  rw [List.eq_replicate_iff]
  refine ⟨seg_len a i j, fun x hx => ?_⟩
  unfold seg at hx
  obtain ⟨k, hk, hx⟩ := List.mem_flatMap.1 hx
  rw [List.mem_range'_1] at hk
  have hw := h k hk.1 (by omega)
  unfold wd by8 at hw
  simp only [List.mem_cons, List.not_mem_nil, or_false] at hx
  rcases hx with rfl | rfl
  · exact UInt8.toNat_inj.1 (by show _ = 0; omega)
  · exact UInt8.toNat_inj.1 (by show _ = 0; omega)
theorem rows_zero : ∀ a b c d e f g h : Bool, let Z := [a, b, c, d, e, f, g, h]; let p := rowF Z 8 (0, 1) 0;
    ¬ p.2 < 2 → ∀ k < 8, p.1 ≤ ((k : Nat) : Int) → ((k : Nat) : Int) < p.1 + p.2 → Z.getD k false = true := by decide +kernel
theorem rows_zero_of (a : Ad) (h : ¬ (rowOf a).2 < 2) {k : Nat} (h1 : (rowOf a).1 ≤ (k : Int)) (h2 : (k : Int) < (rowOf a).1 + (rowOf a).2) : wd a k = 0 := by
  obtain ⟨_, _, r1, r2, r3⟩ := rows_of a
  have hk : k < 8 := by omega
  have := rows_zero _ _ _ _ _ _ _ _ h k hk h1 h2
  have hl : k < (zs a).length := by rw [zs_len]; exact hk
  have e : (zs a).getD k false = decide (wd a k = 0) := by rw [List.getD_eq_getElem?_getD, List.getElem?_eq_getElem hl]; exact zs_get a hl
  have : (zs a).getD k false = true := this
  rw [e] at this
  exact of_decide_eq_true this
/-! ### What numbers are read of a text -/
theorem num6 {s : Str} (hl : s.length ≤ 800) {Q : Str → Bool → Prop} (h : ∀ (r : Str) (ok : Bool), r.length ≤ 2 * (s.length + 1) → (∀ (a : Ad) (i j : Nat), s = joinS (wL a i j) [58] → r = seg a i j ∧ ok = true) → Q r ok) : addr_numbers_W s [58] 16 2 Q := by
  refine numbers_ok (b := 16) (w := 16) (.inr ⟨rfl, by decide, rfl, rfl⟩) (by decide) (fun v => [u8w (v.fdiv 256), u8w v]) (fun v Q h => put2_ok h) (fun v => by simp) (by omega) fun r ok hr h0 hns => h r ok hr fun a i j hs => ?_
  by_cases hij : i < j
  · have hne : wL a i j ≠ [] := by intro e; have := congrArg List.length e; rw [wL_len] at this; simp at this; omega
    have hg := wL_good a i j
    have e3 : ((List.range' i (j - i)).map (wd a)).flatMap (fun (n : Nat) => [u8w ((n : Int).fdiv 256), u8w (n : Int)]) = seg a i j := by
      rw [List.flatMap_map]
      unfold seg
      exact congrArg (fun f => List.flatMap f (List.range' i (j - i))) (funext fun k => put_wd a k)
    rw [← e3]
    exact hns ((List.range' i (j - i)).map (wd a)) (by intro n hn; obtain ⟨k, _, rfl⟩ := List.mem_map.1 hn; exact wd_lt a k) (by rw [hs]; exact joinS_ne hne fun x hx => (hg x hx).1) (by rw [hs, split_join hne fun x hx => (hg x hx).2.1]; unfold wL; rw [List.map_map]; rfl)
  · have e0 : wL a i j = [] := wL_nil a (by omega)
    have e3 : seg a i j = [] := by unfold seg; rw [show j - i = 0 by omega]; rfl
    rw [e3]
    exact h0 (by rw [hs, e0]; rfl)
theorem cutS_len (s sep : Str) : (cutS s sep).1.length ≤ s.length ∧ (cutS s sep).2.1.length ≤ s.length := by
  unfold cutS Lib.cut
  split
  · simp only [List.length_take, List.length_drop]; omega
  · simp
theorem idx_cc_none {c : UInt8} : ∀ {h : Str}, okH c h → Lib.index h [c, c] = -1
  | [], _ => rfl
  | [a], k => by rw [index_cons]; simp [List.isPrefixOf, Lib.index]
  | a :: b :: r, k => by
    rw [index_cons, idx_cc_none k.2]
    have : ([c, c].isPrefixOf (a :: b :: r)) = false := by
      simp [List.isPrefixOf]
      intro e1 e2
      exact k.1 ⟨e1.symm, e2.symm⟩
    rw [this]; rfl
theorem cut_cc_none {c : UInt8} {h : Str} (k : okH c h) : cutS h [c, c] = (h, [], false) := by
  unfold cutS Lib.cut
  rw [idx_cc_none k, if_neg (by omega)]
theorem txt6_has (a : Ad) (h : a.1 = true) : (58 : UInt8) ∈ txt a := by
  unfold txt
  rw [if_pos h]
  split
  · have hne : wL a 0 7 ≠ [] := by intro e; have := congrArg List.length e; rw [wL_len] at this; simp at this
    rw [wL_succ a (k := 7) (Nat.zero_le _), joinS_snoc hne]; simp
  · simp
theorem txt4_no (a : Ad) (h : a.1 = false) : (58 : UInt8) ∉ txt a := by
  unfold txt
  rw [if_neg (by rw [h]; decide)]
  intro q
  rcases joinS_mem q with q | ⟨x, hx, q⟩
  · simp at q
  · exact (oL_good a 4 x hx).2.2.1 q
theorem parse_main {s : Str} (hl : s.length ≤ 800) {Q : Ad → Int → Prop} (h : ∀ b ok, (∀ a, s = txt a → b = bOf a ∧ ok = true) → addr_Parse_j1 s Q b ok) : addr_Parse_W s Q := by
  refine numbers_ok (b := 10) (w := 8) (.inl ⟨rfl, by decide, rfl, rfl⟩) (by decide) (fun v => [u8w v]) (fun v Q h => put1_ok h) (fun v => by simp) (by omega) fun r ok hr _ hns => ⟨by omega, fun c => ?_, fun c => h _ _ fun a e => ?_⟩
  · rw [has1] at c
    have c := of_decide_eq_true c
    obtain ⟨cl1, cl2⟩ := cutS_len s [58, 58]
    refine ⟨by omega, num6 (by omega) fun r1 ok1 l1 p1 => num6 (by omega) fun r2 ok2 l2 p2 => ?_⟩
    have fin : ∀ (b : Str) (ok : Bool), (ok1 = true → ok = ok2) → ((cutS s [58, 58]).2.2 = false → b = r1 ++ r2) → ((cutS s [58, 58]).2.2 = true → 0 < 16 - (r1.length : Int) - (r2.length : Int) → b = (r1 ++ repS [0] (16 - (r1.length : Int) - (r2.length : Int))) ++ r2) → addr_Parse_j1 s Q b ok := by
      intro b ok hok hb0 hb1
      refine h _ _ fun a e => ?_
      have hv : a.1 = true := by
        cases hv : a.1
        · exact absurd (e ▸ c) (txt4_no a hv)
        · rfl
      have ht : txt a = (if (rowOf a).2 < 2 then joinS (wL a 0 8) [58] else joinS (wL a 0 (rowOf a).1.toNat) [58] ++ [58, 58] ++ joinS (wL a ((rowOf a).1 + (rowOf a).2).toNat 8) [58]) := by unfold txt; rw [if_pos hv]
      rw [← e] at ht
      unfold bOf
      rw [if_pos hv]
      obtain ⟨_, _, q1, q2, q3⟩ := rows_of a
      by_cases hr2 : (rowOf a).2 < 2
      · rw [if_pos hr2] at ht
        have hc := cut_cc_none (okH_join fun x hx => ⟨(wL_good a 0 8 x hx).1, (wL_good a 0 8 x hx).2.1⟩)
        rw [← ht] at hc
        obtain ⟨e1, o1⟩ := p1 a 0 8 (by rw [hc]; exact ht)
        obtain ⟨e2, o2⟩ := p2 a 8 8 (by rw [hc]; rfl)
        have e8 : seg a 8 8 = [] := rfl
        rw [hb0 (by rw [hc]), hok o1, o2, e1, e2, e8, List.append_nil, seg_all]
        exact ⟨rfl, rfl⟩
      · rw [if_neg hr2] at ht
        obtain ⟨p, hp⟩ : ∃ p : Nat, (rowOf a).1 = p := ⟨_, (Int.toNat_of_nonneg q1).symm⟩
        obtain ⟨n, hn⟩ : ∃ n : Nat, (rowOf a).2 = n := ⟨_, (Int.toNat_of_nonneg (by omega)).symm⟩
        have hz : ∀ k, p ≤ k → k < p + n → wd a k = 0 := fun k h1 h2 => rows_zero_of a hr2 (by omega) (by omega)
        rw [hp, hn] at ht q3
        rw [show ((p : Int) + (n : Int)).toNat = p + n by omega, Int.toNat_natCast] at ht
        have hc := cut_cc (t := joinS (wL a (p + n) 8) [58]) (okH_join fun x hx => ⟨(wL_good a 0 p x hx).1, (wL_good a 0 p x hx).2.1⟩)
        rw [show joinS (wL a 0 p) [58] ++ 58 :: 58 :: joinS (wL a (p + n) 8) [58] = s by rw [ht]; simp] at hc
        obtain ⟨e1, o1⟩ := p1 a 0 p (by rw [hc])
        obtain ⟨e2, o2⟩ := p2 a (p + n) 8 (by rw [hc])
        have f1 := seg_len a 0 p
        have f2 := seg_len a (p + n) 8
        have hb := hb1 (by rw [hc]) (by rw [e1, e2, f1, f2]; omega)
        rw [hok o1, o2]
        refine ⟨?_, rfl⟩
        rw [hb, e1, e2, f1, f2]
        have ez : (16 - ((2 * (p - 0) : Nat) : Int) - ((2 * (8 - (p + n)) : Nat) : Int)) = ((2 * ((p + n) - p) : Nat) : Int) := by omega
        rw [ez, repS_zero, ← seg_zero a (i := p) (j := p + n) hz, seg_app a (Nat.zero_le _) (by omega), seg_app a (Nat.zero_le _) (by omega), seg_all]
    have j1 : ∀ x : Str, x.length ≤ 10000 → ((cutS s [58, 58]).2.2 = false → x = r1) → ((cutS s [58, 58]).2.2 = true → 0 < 16 - (r1.length : Int) - (r2.length : Int) → x = r1 ++ repS [0] (16 - (r1.length : Int) - (r2.length : Int))) → addr_parse6_j1 (fun r0_3 r1_3 => addr_Parse_j1 s Q r0_3 r1_3) ok1 r2 ok2 x := by
      intro x hx h0 h1
      refine ⟨by omega, fun o => fin _ _ (fun _ => rfl) (fun q => by rw [h0 q]) (fun q q2 => by rw [h1 q q2]), fun o => fin _ _ (fun q => by rw [o] at q; cases q) (fun q => by rw [h0 q]) (fun q q2 => by rw [h1 q q2])⟩
    refine ⟨by unfold I64; omega, by unfold I64; omega, fun cf => ⟨fun d => ⟨by have := of_decide_eq_true d; simp only [List.length_cons, List.length_nil]; omega, ?_, ?_⟩, fun d => j1 _ (by omega) (fun q => absurd (cf.symm.trans q) (by decide)) (fun _ q => by have := of_decide_eq_false d; omega)⟩, fun cf => ⟨fun d => (by cases d), fun _ => j1 _ (by omega) (fun _ => rfl) (fun q => absurd (cf.symm.trans q) (by decide))⟩⟩
    · have d := of_decide_eq_true d
      obtain ⟨k, hk⟩ : ∃ k : Nat, 16 - (r1.length : Int) - (r2.length : Int) = k := ⟨_, (Int.toNat_of_nonneg (by omega)).symm⟩
      rw [hk, repS_zero, List.length_replicate]; omega
    · have d := of_decide_eq_true d
      refine j1 _ ?_ (fun q => absurd (cf.symm.trans q) (by decide)) (fun _ _ => rfl)
      obtain ⟨k, hk⟩ : ∃ k : Nat, 16 - (r1.length : Int) - (r2.length : Int) = k := ⟨_, (Int.toNat_of_nonneg (by omega)).symm⟩
      rw [hk, repS_zero, List.length_append, List.length_replicate]; omega
  · rw [has1] at c
    have c := of_decide_eq_false c
    have hv : a.1 = false := by
      cases hv : a.1
      · rfl
      · exact absurd (e ▸ txt6_has a hv) c
    have ht : txt a = joinS (oL a 4) [46] := by unfold txt; rw [if_neg (by rw [hv]; decide)]
    have hg := oL_good a 4
    have hne : oL a 4 ≠ [] := by intro e; have := congrArg List.length e; rw [oL_len] at this; simp at this
    unfold bOf
    rw [if_neg (by rw [hv]; decide)]
    have e3 : ((List.range 4).map (by8 a)).flatMap (fun (n : Nat) => [u8w (n : Int)]) = a.2.1.take 4 := by
      rw [list16 a.2.2, List.flatMap_map]
      show [u8w _, u8w _, u8w _, u8w _] = _
      rw [u8w_by, u8w_by, u8w_by, u8w_by]; rfl
    rw [← e3]
    exact hns ((List.range 4).map (by8 a)) (by intro n hn; obtain ⟨k, _, rfl⟩ := List.mem_map.1 hn; exact by8_lt a k) (by rw [e, ht]; exact joinS_ne hne fun x hx => (hg x hx).1) (by rw [e, ht, split_join hne fun x hx => (hg x hx).2.1]; unfold oL; rw [List.map_map]; rfl)
def goodA (a : Ad) : Prop := a.1 = true ∨ a.2.1.drop 4 = List.replicate 12 0
def rdA (b : Str) : Ad := (decide ((b.length : Int) = 16), cpyB (default : Ba 16) b)
theorem def16 : (default : Ba 16).1 = List.replicate 16 0 := rfl
theorem rdA_good {b : Str} (h : b.length = 4 ∨ b.length = 16) : goodA (rdA b) := by
  unfold goodA rdA
  rcases h with h | h
  · right
    show (b.take 16 ++ (default : Ba 16).1.drop (b.take 16).length).drop 4 = _
    rw [def16, List.take_of_length_le (by omega), h, List.drop_left' h]; rfl
  · left
    exact decide_eq_true (by omega)
theorem rdA_of {a : Ad} (h : goodA a) : rdA (bOf a) = a ∧ ((bOf a).length = 4 ∨ (bOf a).length = 16) := by
  obtain ⟨v, X⟩ := a
  have hX := X.2
  cases v
  · have hd : X.1.drop 4 = List.replicate 12 0 := by rcases h with h | h; cases h; exact h
    have hl : (X.1.take 4).length = 4 := by rw [List.length_take]; omega
    refine ⟨?_, .inl hl⟩
    show (decide (((X.1.take 4).length : Int) = 16), cpyB (default : Ba 16) (X.1.take 4)) = _
    rw [hl]
    refine Prod.ext rfl (Subtype.ext ?_)
    show (X.1.take 4).take 16 ++ (default : Ba 16).1.drop ((X.1.take 4).take 16).length = X.1
    rw [List.take_of_length_le (by omega), hl, def16]
    conv => rhs; rw [← List.take_append_drop 4 X.1, hd]
    rfl
  · refine ⟨?_, .inr hX⟩
    show (decide ((X.1.length : Int) = 16), cpyB (default : Ba 16) X.1) = _
    refine Prod.ext (decide_eq_true (by omega)) (Subtype.ext ?_)
    show X.1.take 16 ++ (default : Ba 16).1.drop (X.1.take 16).length = X.1
    rw [List.take_of_length_le (by omega), List.drop_eq_nil_of_le (by rw [def16, List.length_replicate]; omega), List.append_nil]
theorem read_ok {b : Str} {Q : Ad → Int → Prop} (h1 : b.length = 4 ∨ b.length = 16 → Q (rdA b) 0) (h2 : ¬ (b.length = 4 ∨ b.length = 16) → Q (false, (default : Ba 16)) 2) : addr_Read_W b Q := by
  refine ⟨fun c => ⟨fun d => h2 (by omega), fun d => h1 (by omega)⟩, fun c => h1 (by omega)⟩
theorem parse_any {s : Str} (hl : s.length ≤ 800) {Q : Ad → Int → Prop} (h1 : ∀ a, goodA a → txt a = s → Q a 0) (h2 : (∀ a, goodA a → txt a ≠ s) → Q (false, (default : Ba 16)) 2) : addr_Parse_W s Q := by
  refine parse_main hl fun b ok hb => read_ok (fun h4 => ⟨fun c => ⟨fun _ => h2 fun a ha e => ?_, fun q => (by cases q)⟩, fun c => ⟨fun q => absurd rfl q, fun _ => text_ok ?_⟩⟩) (fun h4 => ⟨fun c => ⟨fun _ => h2 fun a ha e => ?_, fun q => (by cases q)⟩, fun c => ⟨fun _ => ⟨fun _ => h2 fun a ha e => ?_, fun q => (by cases q)⟩, fun q => absurd q (by decide)⟩⟩)
  · rw [(hb a e.symm).2] at c; cases c
  · refine ⟨fun d => h2 fun a ha e => ?_, fun d => h1 _ (rdA_good h4) (by simpa using d)⟩
    have d : txt (rdA b) ≠ s := by simpa using d
    rw [(hb a e.symm).1, (rdA_of ha).1] at d
    exact d e
  · rw [(hb a e.symm).2] at c; cases c
  · rw [(hb a e.symm).1] at h4; exact h4 (rdA_of ha).2
/-! ### Read -/
theorem cutT_any {s : Str} {n : Nat} {Q : Str → Prop} (h : ∀ r : Str, r.length ≤ n → Q r) : law01_Cut_W s (n : Int) Q := by
  refine ⟨fun c => ⟨by omega, h _ ?_⟩, fun c => h _ (by omega)⟩
  show (cut s 0 (n : Int)).length ≤ n
  unfold cut; simp; omega
/-! ### A small living call -/
/-! ### The laws -/
end Go.Wk
