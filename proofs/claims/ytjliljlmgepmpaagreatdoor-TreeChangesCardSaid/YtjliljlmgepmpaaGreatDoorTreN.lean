/- Numbers written and read: the digits, Atoi. -/
import Derived.Test.YtjliljlmgepmpaaGreatDoorTreD
import Derived.Test.YtjliljlmgepmpaaGreatDoorStrP
import Derived.Lib.ItoaMem
import Derived.Lib.ItoaLen
import Derived.Laws.BitsAllLaws
set_option linter.unusedSimpArgs false
set_option linter.unusedVariables false
set_option linter.unusedSectionVars false
namespace Go.Wk
open Go.HL
variable [DM]
theorem dig10 : ∀ k < 10, dig k = UInt8.ofNat (48 + k) := by decide
theorem digV : ∀ k < 10, (dig k).toNat = 48 + k := by decide
theorem dec_numL : ∀ n, Lib.decDigits n = numL 10 n := by
  intro n
  induction n using Nat.strongRecOn with
  | _ n ih =>
    by_cases h : n < 10
    · rw [numL_lt h, Lib.decDigits, dif_pos h, dig10 n h]
    · rw [numL_ge (by decide) (by omega), Lib.decDigits, dif_neg h, ih _ (Nat.div_lt_self (by omega) (by decide)), dig10 _ (Nat.mod_lt _ (by decide))]
theorem itoa_pos (n : Nat) : itoaS (n : Int) = numL 10 n := by unfold itoaS; rw [Lib.itoa_nonneg, dec_numL]
theorem itoa_min (n : Nat) (h : 1 ≤ n) : itoaS (-(n : Int)) = 45 :: numL 10 n := by unfold itoaS; rw [Lib.itoa_neg n h, dec_numL]
theorem itoa_cases (n : Int) : (∃ m : Nat, n = m ∧ itoaS n = numL 10 m) ∨ ∃ m : Nat, 1 ≤ m ∧ n = -(m : Int) ∧ itoaS n = 45 :: numL 10 m := by
  by_cases h : 0 ≤ n
  · obtain ⟨m, rfl⟩ := Int.eq_ofNat_of_zero_le h
    exact .inl ⟨m, rfl, itoa_pos m⟩
  · obtain ⟨m, hm⟩ : ∃ m : Nat, n = -(m : Int) := ⟨n.natAbs, by omega⟩
    have h1 : 1 ≤ m := by omega
    subst hm
    exact .inr ⟨m, h1, rfl, itoa_min m h1⟩
theorem itoa_len {n : Int} (h : I64 n) : (itoaS n).length ≤ 21 := Lib.itoa_length_le n h.1 h.2
theorem itoa_mem {n : Int} {c : UInt8} (hc : c ∈ itoaS n) : c = 45 ∨ ∃ k < 10, c = dig k := by
  rcases itoa_cases n with ⟨m, _, e⟩ | ⟨m, _, _, e⟩
  · rw [e] at hc; exact .inr (numL_mem (by decide) m c hc)
  · rw [e] at hc
    rcases List.mem_cons.1 hc with hc | hc
    · exact .inl hc
    · exact .inr (numL_mem (by decide) m c hc)
theorem dig_no : ∀ k < 10, dig k ≠ 32 ∧ dig k ≠ 62 ∧ dig k ≠ 45 ∧ dig k ≠ 43 := by decide
theorem itoa_no {n : Int} : (32 : UInt8) ∉ itoaS n ∧ (62 : UInt8) ∉ itoaS n := by
  constructor <;> intro h <;> rcases itoa_mem h with h | ⟨k, hk, h⟩
  · exact absurd h (by decide)
  · exact (dig_no k hk).1 h.symm
  · exact absurd h (by decide)
  · exact (dig_no k hk).2.1 h.symm
theorem numL_ne (b n : Nat) : numL b n ≠ [] := by
  rw [numL]; split <;> simp
theorem numL_short : ∀ (k n : Nat), 1 ≤ k → n < 10 ^ k → (numL 10 n).length ≤ k
  | 0, n, h, _ => by omega
  | 1, n, _, h => by rw [numL_lt (by omega)]; simp
  | k + 2, n, _, h => by
    by_cases c : n < 10
    · rw [numL_lt c]; simp
    · rw [numL_ge (by decide) (by omega), List.length_append]
      have := numL_short (k + 1) (n / 10) (by omega) (by rw [Nat.div_lt_iff_lt_mul (by decide), ← Nat.pow_succ]; exact h)
      simp only [List.length_cons, List.length_nil]; omega
theorem u8w_nat {k : Nat} (h : k < 256) : ((u8w (k : Int)).toNat : Int) = k := by rw [u8w_toNat]; omega
/-! ### Atoi -/
theorem i64w (x : Int) : I64 (IntKind.i64.wrap x) := by
  unfold I64 IntKind.wrap
  simp only [IntKind.signed, IntKind.bits]
  have h1 := Int.emod_nonneg x (b := 18446744073709551616) (by decide)
  have h2 := Int.emod_lt_of_pos x (b := 18446744073709551616) (by decide)
  simp
  split <;> omega
/-- What is read of a number's digits, to the base 10. -/
theorem digs_ok {s s0 : Str} (hl : s.length ≤ 18) (h0 : s0 ≠ []) {Q : Int → Int → Prop} (hbad : ∀ e : Int, e = 2 → (∀ m, s ≠ numL 10 m) → Q 0 e)
    (hgood : ∀ n : Nat, n < 10 ^ 18 → (∀ m, s = numL 10 m → n = m) → (s0.head? = some 45 → Q (-(n : Int)) 0) ∧ (s0.head? ≠ some 45 → Q (n : Int) 0)) : internal_strconv_Atoi_j2 s0 Q s := by
  refine ⟨by omega, ?_⟩
  refine loop_up s.length (fun i v => ∃ n : Nat, v = n ∧ n < 10 ^ i ∧ ∀ m, s = numL 10 m → n = val 10 (s.take i)) ⟨0, rfl, by decide, fun _ _ => rfl⟩ fun K i v hi ⟨n, hv, hn, hm⟩ hK => ?_
  subst hv
  show internal_strconv_Atoi_l1 _ _ _ _ ((n : Nat) : Int) (i : Int)
  unfold internal_strconv_Atoi_l1
  have h10 : (10 : Nat) ^ i ≤ 10 ^ 18 := Nat.pow_le_pow_right (by decide) (by omega)
  refine ⟨fun c => ⟨by omega, ?_⟩, fun c => ?_⟩
  · have i1 : i < s.length := by omega
    have hlt := s[i].toNat_lt
    have h17 : (10 : Nat) ^ i * 10 ≤ 10 ^ 18 := by rw [← Nat.pow_succ]; exact Nat.pow_le_pow_right (by decide) (by omega)
    rw [gi_nat i1]
    have ew := u8w_toNat (((s[i].toNat : Nat) : Int) - 48)
    have hmem : ∀ m, s = numL 10 m → ∃ k < 10, s[i] = dig k ∧ n * 10 + k = val 10 (s.take (i + 1)) := by
      intro m e
      obtain ⟨k, hk, ek⟩ := numL_mem (b := 10) (by decide) m s[i] (by rw [← e]; exact List.getElem_mem i1)
      refine ⟨k, hk, ek, ?_⟩
      rw [List.take_succ_eq_append_getElem i1, val_snoc, ← hm m e, ek, dval_dig k (by omega)]
    refine ⟨fun b => hbad 2 rfl fun m e => ?_, fun b => ?_⟩
    · obtain ⟨k, hk, ek, _⟩ := hmem m e
      have := digV k hk
      rw [ek, this] at ew b
      omega
    · obtain ⟨d, hd, hdk⟩ : ∃ d : Nat, ((u8w (((s[i].toNat : Nat) : Int) - 48)).toNat : Int) = (d : Int) ∧ d ≤ 9 := ⟨_, rfl, by omega⟩
      rw [hd]
      refine ⟨by unfold I64; omega, by unfold I64; omega, by unfold I64; omega, by unfold I64; omega, hK (i + 1) _ (by omega) i1 ⟨n * 10 + d, by omega, ?_, fun m e => ?_⟩⟩
      · rw [Nat.pow_succ]; omega
      · obtain ⟨k, hk, ek, ev⟩ := hmem m e
        have hq := digV k hk
        rw [ek, hq] at ew hd
        have : d = k := by omega
        subst this; exact ev
  · have i1 : i = s.length := by omega
    subst i1
    have hfin : ∀ m, s = numL 10 m → n = m := by
      intro m e
      have := hm m e
      rw [List.take_length, e, val_numL ⟨by decide, by decide⟩] at this; exact this
    obtain ⟨g1, g2⟩ := hgood n (by omega) hfin
    obtain ⟨a, r, rfl⟩ : ∃ a r, s0 = a :: r := by cases s0 with
      | nil => exact absurd rfl h0
      | cons a r => exact ⟨a, r, rfl⟩
    have hg : gi (a :: r) (0 : Int) = a := by
      have := gi_nat (l := a :: r) (i := 0) (by simp)
      simpa using this
    refine ⟨by simp only [List.length_cons]; omega, fun b => ⟨by unfold I64; omega, ?_⟩, fun b => ?_⟩
    · rw [hg] at b
      have ha : a = 45 := UInt8.toNat_inj.1 (by have : (45 : UInt8).toNat = 45 := rfl; omega)
      have := g1 (by rw [ha]; rfl)
      unfold internal_strconv_Atoi_j4
      rwa [show (0 : Int) - (n : Int) = -(n : Int) by omega]
    · rw [hg] at b
      exact g2 (fun e => b (by injection e with e; rw [e]; rfl))
theorem max64 : IntKind.u64.wrap ((IntKind.u64.wrap ((1 : Int) * 2 ^ (min (IntKind.u64.wrap (64 : Int)).toNat IntKind.u64.bits))) - 1) = 18446744073709551615 := by decide +kernel
theorem u64ten : IntKind.u64.wrap 10 = 10 := by decide +kernel
theorem u8ten : ((u8w 10).toNat : Int) = 10 := by decide +kernel
theorem j64_ok {Q : Int → Int → Prop} {K : Bool → Int → Int → Prop} {i : Int} {n d : Nat} (hn : n < 18446744073709551616) (hd : d < 256) (hi : I64 (i + 1))
    (e2 : 10 ≤ d → Q 0 2) (e1 : d < 10 → 18446744073709551616 ≤ n * 10 + d → Q 18446744073709551615 1) (ok : d < 10 → n * 10 + d < 18446744073709551616 → K false ((n * 10 + d : Nat) : Int) (i + 1)) :
    internal_strconv_ParseUint_j8 Q 10 64 1844674407370955162 false (n : Int) i K (d : Int) := by
  unfold internal_strconv_ParseUint_j8 internal_strconv_ParseUint_j12
  rw [u8ten, max64, u64ten]
  refine ⟨fun c => e2 (by omega), fun c => ⟨fun c2 => e1 (by omega) (by omega), fun c2 => ?_⟩⟩
  have eB : IntKind.u64.wrap ((n : Int) * 10) = ((n * 10 : Nat) : Int) := by
    rw [show (n : Int) * 10 = ((n * 10 : Nat) : Int) by omega]
    exact w64 (by omega)
  rw [eB, w64 (n := d) (by omega), show ((n * 10 : Nat) : Int) + (d : Int) = ((n * 10 + d : Nat) : Int) by omega]
  by_cases hov : n * 10 + d < 18446744073709551616
  · rw [w64 hov]
    exact ⟨fun c3 => by omega, fun _ => ⟨fun c3 => by have := of_decide_eq_true c3; omega, fun _ => ⟨hi, ok (by omega) hov⟩⟩⟩
  · have e : IntKind.u64.wrap ((n * 10 + d : Nat) : Int) = ((n * 10 + d - 18446744073709551616 : Nat) : Int) := by
      rw [IntKind.wrap_u64]; omega
    rw [e]
    exact ⟨fun c3 => ⟨fun _ => e1 (by omega) (by omega), fun q => (by cases q)⟩, fun c3 => by omega⟩
theorem pu64_loop {s s1 : Str} {Q : Int → Int → Prop} (hl : s.length ≤ 1000)
    (h : ∀ (v e : Int), (e = 0 ∨ e = 1 ∨ e = 2) → (∀ n : Nat, n < 18446744073709551616 → s = numL 10 n → v = n ∧ e = 0) → Q v e) :
    loopW (fun (K_1 : (Bool × Int × Int) → Prop) (q : Bool × Int × Int) => internal_strconv_ParseUint_l1 s1 10 Q s 10 64 1844674407370955162 (fun underscores_1 n_1 n_2 => K_1 (underscores_1, n_1, n_2)) q.1 q.2.1 q.2.2) (false, 0, 0) := by
  refine loop_by (fun q => q.2.2) s.length (fun i q => q.1 = false ∧ ∃ n : Nat, q.2.1 = n ∧ n < 18446744073709551616 ∧ ∀ m, m < 18446744073709551616 → s = numL 10 m → n = val 10 (s.take i)) rfl ⟨rfl, 0, rfl, by decide, fun _ _ _ => rfl⟩ ?_
  rintro K i ⟨_, _, _⟩ rfl hi ⟨rfl, n, rfl, hn, hv⟩ hK
  simp only at hv ⊢
  unfold internal_strconv_ParseUint_l1
  refine ⟨fun c => ⟨by omega, ?_⟩, fun c => ⟨fun q => (by cases q), fun _ => ⟨fun q => (by cases q), fun _ => h _ _ (.inl rfl) fun m hm e => ⟨?_, rfl⟩⟩⟩⟩
  · have i1 : i < s.length := by omega
    have hg : ((gi s (i : Int)).toNat : Int) = ((s[i].toNat : Nat) : Int) := by rw [gi_nat i1]
    have h9 : internal_strconv_ParseUint_j9 Q s 10 64 1844674407370955162 false (n : Int) (i : Int) (fun underscores_1 n_1 n_2 => K (underscores_1, n_1, n_2)) false := by
      have hmem : ∀ m, m < 18446744073709551616 → s = numL 10 m → ∃ k < 10, s[i] = dig k ∧ n * 10 + k = val 10 (s.take (i + 1)) ∧ n * 10 + k ≤ m := by
        intro m hm e
        obtain ⟨k, hk, ek⟩ := numL_mem (b := 10) (by decide) m s[i] (by rw [← e]; exact List.getElem_mem i1)
        have e1 : val 10 (s.take (i + 1)) = n * 10 + k := by
          rw [List.take_succ_eq_append_getElem i1, val_snoc, ← hv m hm e, ek, dval_dig k (by omega)]
        have e2 := val_take (b := 10) (by omega) s (i + 1)
        have e3 : val 10 s = m := by rw [e]; exact val_numL ⟨by decide, by decide⟩ m
        exact ⟨k, hk, ek, e1.symm, by omega⟩
      refine chr_ok s[i].toNat_lt hg (fun d hd hdk => j64_ok hn hd (by unfold I64; omega) (fun hbd => h _ _ (.inr (.inr rfl)) fun m hm e => ?_) (fun hdb hov => h _ _ (.inr (.inl rfl)) fun m hm e => ?_) (fun hdb hok => hK (i + 1) _ (by simp) (by omega) (by omega) ⟨rfl, n * 10 + d, rfl, hok, fun m hm e => ?_⟩)) (fun hno => h _ _ (.inr (.inr rfl)) fun m hm e => ?_)
      · obtain ⟨k, hk, ek, _, _⟩ := hmem m hm e
        have := hdk k (by omega) (by rw [ek]); omega
      · obtain ⟨k, hk, ek, _, _⟩ := hmem m hm e
        have := hdk k (by omega) (by rw [ek]); subst this; omega
      · obtain ⟨k, hk, ek, ev, _⟩ := hmem m hm e
        have := hdk k (by omega) (by rw [ek]); subst this; exact ev
      · obtain ⟨k, hk, ek, _, _⟩ := hmem m hm e
        exact absurd (by rw [ek]) (hno k (by omega))
    refine ⟨fun _ => ?_, fun _ => h9⟩
    rw [decide_eq_false (by decide)]; exact h9
  · have i1 : i = s.length := by omega
    rw [hv m hm e, i1, List.take_length, e, val_numL ⟨by decide, by decide⟩]
theorem pu64_ok {s : Str} (hl : s.length ≤ 1000) {K : Int → Int → Prop} (h : ∀ (v e : Int), (e = 0 ∨ e = 1 ∨ e = 2) → (∀ n : Nat, n < 18446744073709551616 → s = numL 10 n → v = n ∧ e = 0) → K v e) : internal_strconv_ParseUint_W s 10 0 K := by
  unfold internal_strconv_ParseUint_W
  refine ⟨fun c => h _ _ (.inr (.inr rfl)) fun n _ es => absurd (es.symm.trans c) (numL_ne _ _), fun c => ?_⟩
  exact ⟨fun _ => ⟨fun _ => ⟨fun _ => ⟨fun _ => ⟨by decide +kernel, by omega, pu64_loop hl h⟩, fun q => absurd rfl q⟩, fun q => absurd rfl q⟩, fun q => absurd q (by decide)⟩, fun q => absurd (by decide) q⟩
theorem cutO : IntKind.u64.wrap ((1 : Int) * 2 ^ (min (IntKind.u64.wrap ((64 : Int) - 1)).toNat IntKind.u64.bits)) = 9223372036854775808 := by decide +kernel
theorem i64id {x : Int} (h : I64 x) : IntKind.i64.wrap x = x := wrap_i64 h.1 h.2
theorem pj5_ok {Q : Int → Int → Prop} {neg : Bool} {v : Int} (h : ∀ x : Int, I64 x → (∀ m : Nat, v = m → (neg = false → m < 9223372036854775808 → x = m) ∧ (neg = true → m ≤ 9223372036854775808 → x = -(m : Int))) → Q x 0) : internal_strconv_ParseInt_j5 Q neg v := by
  refine ⟨fun hn => h _ (i64w _) fun m hm => ⟨fun c => (by rw [hn] at c; cases c), fun _ hle => ?_⟩, fun hn => h _ (i64w _) fun m hm => ⟨fun _ hlt => ?_, fun c => (by rw [hn] at c; cases c)⟩⟩
  · subst hm
    by_cases hlt : m < 9223372036854775808
    · rw [i64id (x := (m : Int)) (by unfold I64; omega), show (0 : Int) - (m : Int) = -(m : Int) by omega]
      exact i64id (by unfold I64; omega)
    · have : m = 9223372036854775808 := by omega
      subst this; decide +kernel
  · subst hm; exact i64id (by unfold I64; omega)
theorem pj2_ok {Q : Int → Int → Prop} {neg : Bool} {v : Int} (h : ∀ x e : Int, I64 x → (e = 0 ∨ e = 1) → (∀ m : Nat, v = m → (neg = false → m < 9223372036854775808 → x = m ∧ e = 0) ∧ (neg = true → m ≤ 9223372036854775808 → x = -(m : Int) ∧ e = 0)) → Q x e) : internal_strconv_ParseInt_j2 0 Q neg v := by
  have h5 : internal_strconv_ParseInt_j5 Q neg v := pj5_ok fun x hx hm => h x 0 hx (.inl rfl) fun m e => ⟨fun a b => ⟨(hm m e).1 a b, rfl⟩, fun a b => ⟨(hm m e).2 a b, rfl⟩⟩
  refine ⟨fun _ => ?_, fun q => absurd rfl q⟩
  unfold internal_strconv_ParseInt_j3 internal_strconv_ParseInt_j4
  rw [cutO]
  refine ⟨by unfold I64; omega, by decide +kernel, fun hn => ⟨fun c => h _ _ (i64w _) (.inr rfl) fun m hm => ⟨fun _ b => ?_, fun a => ?_⟩, fun c => ⟨fun a => ?_, fun _ => h5⟩⟩, fun hn => ⟨fun a => ⟨fun c => h _ _ (i64w _) (.inr rfl) fun m hm => ⟨fun a' => ?_, fun _ b => ?_⟩, fun _ => h5⟩, fun _ => h5⟩⟩
  · omega
  · rw [a] at hn; cases hn
  · rw [a] at hn; cases hn
  · rw [a'] at hn; cases hn
  · omega
theorem cut1 (a : UInt8) (r : Str) : cut (a :: r) 1 (((a :: r).length : Nat) : Int) = r := by
  unfold cut; simp
theorem gi0 (a : UInt8) (r : Str) : gi (a :: r) (0 : Int) = a := by
  have := gi_nat (l := a :: r) (i := 0) (by simp)
  simpa using this
theorem head_nat {a : UInt8} {c : UInt8} : ((a.toNat : Int) = (c.toNat : Int)) ↔ a = c := by
  constructor
  · intro h; exact UInt8.toNat_inj.1 (by omega)
  · rintro rfl; rfl
theorem itoa_head {n : Int} {a : UInt8} {r : Str} (h : a :: r = itoaS n) : (a = 45 ∧ ∃ m : Nat, 1 ≤ m ∧ n = -(m : Int) ∧ r = numL 10 m) ∨ (a ≠ 45 ∧ a ≠ 43 ∧ ∃ m : Nat, n = m ∧ a :: r = numL 10 m) := by
  rcases itoa_cases n with ⟨m, hn, e⟩ | ⟨m, h1, hn, e⟩
  · obtain ⟨k, hk, ek⟩ := numL_mem (b := 10) (by decide) m a (by rw [← e, ← h]; simp)
    have := dig_no k hk
    exact .inr ⟨by rw [ek]; exact this.2.2.1, by rw [ek]; exact this.2.2.2, m, hn, h.trans e⟩
  · rw [e] at h; injection h with h1' h2'
    exact .inl ⟨h1', m, h1, hn, h2'⟩
theorem pint_ok {s : Str} (hl : s.length ≤ 1000) {Q : Int → Int → Prop} (h : ∀ v e : Int, I64 v → (e = 0 ∨ e = 1 ∨ e = 2) → (∀ n, I64 n → s = itoaS n → v = n ∧ e = 0) → Q v e) : internal_strconv_ParseInt_W s 10 0 Q := by
  refine ⟨fun c => h 0 2 (by unfold I64; omega) (.inr (.inr rfl)) fun n _ e => ?_, fun c => ?_⟩
  · rcases itoa_cases n with ⟨m, _, e'⟩ | ⟨m, _, _, e'⟩
    · exact absurd (e'.symm.trans (e.symm.trans c)) (numL_ne _ _)
    · rw [c, e'] at e; cases e
  · obtain ⟨a, r, rfl⟩ : ∃ a r, s = a :: r := by cases s with
      | nil => exact absurd rfl c
      | cons a r => exact ⟨a, r, rfl⟩
    rw [gi0, cut1]
    have tail : ∀ (neg : Bool) (s1 : Str), s1.length ≤ 1000 → (∀ n, I64 n → a :: r = itoaS n → ∃ m : Nat, s1 = numL 10 m ∧ (neg = false ∧ n = m ∨ neg = true ∧ n = -(m : Int))) → internal_strconv_ParseInt_j1 10 0 Q s1 neg := by
      intro neg s1 h1 hs
      refine pu64_ok h1 fun v e he hv => ?_
      have go : (e = 0 ∨ e = 1) → internal_strconv_ParseInt_j2 0 Q neg v := fun he' => pj2_ok fun x e' hx hx' hm => h x e' hx (by omega) fun n hn es => ?_
      · refine ⟨fun c0 => ⟨fun c1 => h 0 e (by unfold I64; omega) he fun n hn es => ?_, fun c1 => go (.inr c1)⟩, fun c0 => go (.inl c0)⟩
        obtain ⟨m, e1, e2⟩ := hs n hn es
        unfold I64 at hn
        exact absurd (hv m (by omega) e1).2 c0
      · obtain ⟨m, e1, e2⟩ := hs n hn es
        unfold I64 at hn
        obtain ⟨v1, v2⟩ := hv m (by omega) e1
        rcases e2 with ⟨q, e2⟩ | ⟨q, e2⟩
        · rw [e2]; exact (hm m v1).1 q (by omega)
        · rw [e2]; exact (hm m v1).2 q (by omega)
    refine ⟨by simp only [List.length_cons]; omega, fun b => ⟨by simp only [List.length_cons]; omega, tail false r (by simp at hl; omega) fun n hn es => ?_⟩, fun b => ⟨fun b' => ⟨by simp only [List.length_cons]; omega, tail true r (by simp at hl; omega) fun n hn es => ?_⟩, fun b' => tail false _ hl fun n hn es => ?_⟩⟩
    · have ha : a = 43 := head_nat.1 b
      rcases itoa_head es with ⟨e1, _⟩ | ⟨_, e1, _⟩
      · rw [ha] at e1; exact absurd e1 (by decide)
      · exact absurd ha e1
    · have ha : a = 45 := head_nat.1 b'
      rcases itoa_head es with ⟨_, m, _, e1, e2⟩ | ⟨e1, _⟩
      · exact ⟨m, e2, .inr ⟨rfl, e1⟩⟩
      · exact absurd ha e1
    · rcases itoa_head es with ⟨e1, _⟩ | ⟨_, _, m, e1, e2⟩
      · exact absurd (head_nat.2 e1) b'
      · exact ⟨m, e2, .inl ⟨rfl, e1⟩⟩
theorem iatoi_ok {s : Str} (hl : s.length ≤ 1000) {Q : Int → Int → Prop} (h : ∀ v e : Int, I64 v → (e = 0 ∨ e = 1 ∨ e = 2) → (∀ n, I64 n → s = itoaS n → v = n ∧ e = 0) → Q v e) : internal_strconv_Atoi_W s Q := by
  have slow : internal_strconv_Atoi_j1 s Q false := ⟨fun q => (by cases q), fun _ => pint_ok hl h⟩
  refine ⟨fun c => ?_, fun _ => slow⟩
  by_cases hs : (s.length : Int) < 19
  · rw [decide_eq_true hs]
    obtain ⟨a, r, rfl⟩ : ∃ a r, s = a :: r := by cases s with
      | nil => simp at c
      | cons a r => exact ⟨a, r, rfl⟩
    have hlr : r.length ≤ 17 := by simp only [List.length_cons] at hs; omega
    have two : (∀ n, I64 n → a :: r ≠ itoaS n) → Q 0 2 := fun hno => h 0 2 (by unfold I64; omega) (.inr (.inr rfl)) fun n hn es => absurd es (hno n hn)
    have sgn : (a = 45 ∨ a = 43) → internal_strconv_Atoi_j3 (a :: r) Q true := by
      intro ha
      refine ⟨fun _ => ?_, fun q => (by cases q)⟩
      rw [cut1]
      have hno : ∀ (n : Int), a :: r = itoaS n → a = 45 ∧ ∃ m : Nat, n = -(m : Int) ∧ r = numL 10 m := by
        intro n es
        rcases itoa_head es with ⟨e1, m, _, e2, e3⟩ | ⟨e1, e2, _⟩
        · exact ⟨e1, m, e2, e3⟩
        · exact absurd ha (by simp [e1, e2])
      refine ⟨by simp only [List.length_cons]; omega, fun b => two fun n hn es => ?_, fun b => digs_ok (by omega) (by simp) (fun e he hb => he ▸ two fun n hn es => ?_) fun n hn hm => ⟨fun e => ?_, fun e => ?_⟩⟩
      · obtain ⟨_, m, _, e3⟩ := hno n es
        have := List.length_pos_iff.2 (numL_ne 10 m)
        rw [← e3] at this; omega
      · obtain ⟨_, m, _, e3⟩ := hno n es
        exact hb m e3
      · refine h _ _ (by unfold I64; omega) (.inl rfl) fun n' hn' es => ?_
        obtain ⟨_, m, e2, e3⟩ := hno n' es
        have := hm m e3
        exact ⟨by rw [e2, this], rfl⟩
      · refine h _ _ (by unfold I64; omega) (.inl rfl) fun n' hn' es => ?_
        obtain ⟨e1, _⟩ := hno n' es
        exact absurd (by rw [e1]; rfl) e
    have pls : (a ≠ 45 ∧ a ≠ 43) → internal_strconv_Atoi_j3 (a :: r) Q false := by
      intro ha
      have hno : ∀ (n : Int), a :: r = itoaS n → ∃ m : Nat, n = (m : Int) ∧ a :: r = numL 10 m := by
        intro n es
        rcases itoa_head es with ⟨e1, _⟩ | ⟨_, _, m, e2, e3⟩
        · exact absurd e1 ha.1
        · exact ⟨m, e2, e3⟩
      refine ⟨fun q => (by cases q), fun _ => digs_ok (by simp only [List.length_cons]; omega) (by simp) (fun e he hb => he ▸ two fun n hn es => ?_) fun n hn hm => ⟨fun e => ?_, fun e => ?_⟩⟩
      · obtain ⟨m, _, e3⟩ := hno n es
        exact hb m e3
      · injection e with e
        exact absurd e ha.1
      · refine h _ _ (by unfold I64; omega) (.inl rfl) fun n' hn' es => ?_
        obtain ⟨m, e2, e3⟩ := hno n' es
        have := hm m e3
        exact ⟨by rw [e2, this], rfl⟩
    refine ⟨fun _ => ?_, fun q => (by cases q)⟩
    rw [gi0]
    refine ⟨by simp only [List.length_cons]; omega, fun b => sgn (.inl (head_nat.1 b)), fun b => ?_⟩
    by_cases h43 : a = 43
    · rw [decide_eq_true (p := ((a.toNat : Nat) : Int) = 43) (by rw [h43]; rfl)]; exact sgn (.inr h43)
    · rw [decide_eq_false (p := ((a.toNat : Nat) : Int) = 43) (fun q => h43 (head_nat.1 q))]; exact pls ⟨fun q => b (by rw [q]; rfl), h43⟩
  · rw [decide_eq_false hs]; exact slow
theorem atoi_ok {s : Str} (hl : s.length ≤ 1000) {Q : Int → Bool → Prop} (h : ∀ (v : Int) (e : Bool), I64 v → (∀ n, I64 n → s = itoaS n → v = n ∧ e = false) → Q v e) : strconv_Atoi_W s Q :=
  iatoi_ok hl fun v e hv he hn => ⟨fun c => ⟨⟨by omega, by omega⟩, h v true hv fun n hn' es => absurd (hn n hn' es).2 c⟩, fun c => h v false hv fun n hn' es => ⟨(hn n hn' es).1, rfl⟩⟩
end Go.Wk
