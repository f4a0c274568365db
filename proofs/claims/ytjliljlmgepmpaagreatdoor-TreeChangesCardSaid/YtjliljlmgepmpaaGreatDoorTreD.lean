/- Plain words for one law: what it needs. -/
import Derived.Test.YtjliljlmgepmpaaGreatDoorPl2
import Derived.Test.YtjliljlmgepmpaaGreatDoorSrt
import Derived.Test.YtjliljlmgepmpaaGreatDoorTreA2
set_option linter.unusedSimpArgs false
set_option linter.unusedVariables false
set_option linter.unusedSectionVars false
namespace Go.Wk
open Go.HL
variable [DM]
/-! ### Digits -/
def dgs : Str := [48, 49, 50, 51, 52, 53, 54, 55, 56, 57, 97, 98, 99, 100, 101, 102, 103, 104, 105, 106, 107, 108, 109, 110, 111, 112, 113, 114, 115, 116, 117, 118, 119, 120, 121, 122]
def dig (k : Nat) : UInt8 := dgs.getD k 0
def numL (b n : Nat) : Str := if h : n < b ∨ b < 2 then [dig n] else numL b (n / b) ++ [dig (n % b)]
termination_by n
decreasing_by exact Nat.div_lt_self (by omega) (by omega)
theorem numL_lt {b n : Nat} (h : n < b) : numL b n = [dig n] := by rw [numL, dif_pos (.inl h)]
theorem numL_ge {b n : Nat} (hb : 2 ≤ b) (h : b ≤ n) : numL b n = numL b (n / b) ++ [dig (n % b)] := by
  rw [numL, dif_neg (by omega)]
/-! ### Digits to the base 16, by bits -/
/-! ### Numbers read -/
def dval (c : UInt8) : Nat := (dgs.idxOf c)
def val (b : Nat) (l : Str) : Nat := l.foldl (fun a c => a * b + dval c) 0
theorem dval_dig : ∀ k < 36, dval (dig k) = k := by decide
theorem val_snoc (b : Nat) (l : Str) (c : UInt8) : val b (l ++ [c]) = val b l * b + dval c := by unfold val; rw [List.foldl_append]; rfl
theorem fold_ge {b : Nat} (hb : 1 ≤ b) : ∀ (l : Str) (a : Nat), a ≤ l.foldl (fun a c => a * b + dval c) a
  | [], _ => Nat.le_refl _
  | c :: l, a => by
    refine Nat.le_trans ?_ (fold_ge hb l (a * b + dval c))
    exact Nat.le_trans (Nat.le_mul_of_pos_right a hb) (Nat.le_add_right _ _)
theorem val_take {b : Nat} (hb : 1 ≤ b) (l : Str) (i : Nat) : val b (l.take i) ≤ val b l := by
  conv => rhs; rw [← List.take_append_drop i l]
  unfold val
  rw [List.foldl_append]
  exact fold_ge hb _ _
theorem val_numL {b : Nat} (hb : 2 ≤ b ∧ b ≤ 36) : ∀ n, val b (numL b n) = n := by
  intro n
  induction n using Nat.strongRecOn with
  | _ n ih =>
    by_cases h : n < b
    · rw [numL_lt h]
      show 0 * b + dval (dig n) = n
      rw [dval_dig n (by omega)]; omega
    · have hm : n % b < b := Nat.mod_lt _ (by omega)
      rw [numL_ge hb.1 (by omega), val_snoc, ih _ (Nat.div_lt_self (by omega) (by omega)), dval_dig _ (by omega)]
      exact Nat.div_add_mod' n b
theorem numL_mem {b : Nat} (hb : 2 ≤ b) : ∀ n, ∀ c ∈ numL b n, ∃ k < b, c = dig k := by
  intro n
  induction n using Nat.strongRecOn with
  | _ n ih =>
    intro c hc
    by_cases h : n < b
    · rw [numL_lt h] at hc
      exact ⟨n, h, List.mem_singleton.1 hc⟩
    · rw [numL_ge hb (by omega)] at hc
      rcases List.mem_append.1 hc with q | q
      · exact ih _ (Nat.div_lt_self (by omega) (by omega)) c q
      · exact ⟨n % b, Nat.mod_lt _ (by omega), List.mem_singleton.1 q⟩
theorem or32 {c : Nat} (hc : c < 256) : (0 : Int) ≤ bits .or .u8 (c : Int) 32 ∧ bits .or .u8 (c : Int) 32 < 256 := by
  have e := Go.u8_or_nat c 32 hc (by decide)
  rw [show ((32 : Nat) : Int) = 32 from rfl] at e
  rw [e]
  have : c ||| 32 < 2 ^ 8 := Nat.or_lt_two_pow (by omega) (by decide)
  omega
theorem lower_ok {c : Nat} (hc : c < 256) {Q : Int → Prop} (h : ∀ r : Nat, r < 256 → (∀ k < 16, 10 ≤ k → c = 87 + k → r = c) → Q (r : Int)) : internal_strconv_lower_W (c : Int) Q := by
  have h1 := or32 hc
  refine ⟨h1, ?_⟩
  refine h _ (by have := (u8w (bits .or .u8 (c : Int) 32)).toNat_lt; omega) fun k hk hk2 e => ?_
  have h2 := u8w_toNat (bits .or .u8 (c : Int) 32)
  rw [Int.emod_eq_of_lt h1.1 h1.2] at h2
  have hf : ∀ k < 16, 10 ≤ k → bits .or .u8 ((87 + k : Nat) : Int) 32 = ((87 + k : Nat) : Int) := by decide +kernel
  have := hf k hk hk2
  rw [← e] at this
  omega
structure PuC (b w : Nat) (bI wI cutoff : Int) : Prop where
  hb : 2 ≤ b ∧ b ≤ 16
  hw : 2 ^ w ≤ 65536
  h0 : 1 ≤ 2 ^ w
  eM : IntKind.u64.wrap ((IntKind.u64.wrap ((1 : Int) * 2 ^ (min (IntKind.u64.wrap wI).toNat IntKind.u64.bits))) - 1) = ((2 ^ w - 1 : Nat) : Int)
  hc : ((2 ^ w : Nat) : Int) ≤ cutoff
  e8 : ((u8w bI).toNat : Int) = b
  e64 : IntKind.u64.wrap bI = b
  nz : ¬ bI = 0
theorem w64 {n : Nat} (h : n < 18446744073709551616) : IntKind.u64.wrap (n : Int) = n := by rw [IntKind.wrap_u64]; omega
theorem j8_ok {b w : Nat} {bI wI cutoff : Int} (C : PuC b w bI wI cutoff) {Q : Int → Int → Prop} {K : Bool → Int → Int → Prop} {i : Int} {n d : Nat} (hn : n < 2 ^ w) (hd : d < 256) (hi : I64 (i + 1))
    (e2 : b ≤ d → Q 0 2) (e1 : d < b → 2 ^ w ≤ n * b + d → Q ((2 ^ w - 1 : Nat) : Int) 1) (ok : d < b → n * b + d < 2 ^ w → K false ((n * b + d : Nat) : Int) (i + 1)) :
    internal_strconv_ParseUint_j8 Q bI wI cutoff false (n : Int) i K (d : Int) := by
  have hw := C.hw
  have hb := C.hb
  have hnb : n * b ≤ 65536 * 16 := Nat.mul_le_mul (by omega) hb.2
  have eB : IntKind.u64.wrap ((n : Int) * IntKind.u64.wrap bI) = ((n * b : Nat) : Int) := by
    rw [C.e64, show (n : Int) * (b : Int) = ((n * b : Nat) : Int) by rw [Int.natCast_mul]]
    exact w64 (by omega)
  have eA : IntKind.u64.wrap (IntKind.u64.wrap ((n : Int) * IntKind.u64.wrap bI) + IntKind.u64.wrap (d : Int)) = ((n * b + d : Nat) : Int) := by
    rw [eB, w64 (n := d) (by omega), show ((n * b : Nat) : Int) + (d : Int) = ((n * b + d : Nat) : Int) by omega]
    exact w64 (by omega)
  unfold internal_strconv_ParseUint_j8
  rw [C.e8, eA, eB, C.eM]
  refine ⟨fun c => e2 (by omega), fun c => ⟨fun c2 => ?_, fun _ => ⟨fun c3 => by omega, fun _ => ?_⟩⟩⟩
  · have := C.hc; omega
  · unfold internal_strconv_ParseUint_j12
    rw [C.eM, eA]
    have h0 := C.h0
    refine ⟨fun c3 => e1 (by omega) (by have := of_decide_eq_true c3; omega), fun c3 => ⟨hi, ok (by omega) (by have := of_decide_eq_false c3; omega)⟩⟩
theorem digN : ∀ k < 16, (dig k).toNat = if k < 10 then 48 + k else 87 + k := by decide
theorem chr_ok {bI wI cutoff : Int} {Q : Int → Int → Prop} {K : Bool → Int → Int → Prop} {s : Str} {n i : Int} {c : Nat} (hc : c < 256) (hg : ((gi s i).toNat : Int) = (c : Int))
    (hd : ∀ d : Nat, d < 256 → (∀ k < 16, c = (dig k).toNat → d = k) → internal_strconv_ParseUint_j8 Q bI wI cutoff false n i K (d : Int)) (he : (∀ k < 16, c ≠ (dig k).toNat) → Q 0 2) :
    internal_strconv_ParseUint_j9 Q s bI wI cutoff false n i K false := by
  refine ⟨fun q => (by cases q), fun _ => ?_⟩
  have hdig : ∀ k < 16, c = (dig k).toNat → c = if k < 10 then 48 + k else 87 + k := fun k hk e => by rw [e, digN k hk]
  have j10 : ∀ q : Bool, q = decide (48 ≤ c ∧ c ≤ 57) → internal_strconv_ParseUint_j10 Q s bI wI cutoff false n i K q := by
    intro q hq
    unfold internal_strconv_ParseUint_j10
    rw [hg]
    refine ⟨fun h => ?_, fun h => ?_⟩
    · rw [h] at hq
      have hr := of_decide_eq_true hq.symm
      have e := u8w_toNat ((c : Int) - 48)
      rw [Int.emod_eq_of_lt (by omega) (by omega)] at e
      have ed : ((u8w ((c : Int) - 48)).toNat : Int) = ((c - 48 : Nat) : Int) := by omega
      rw [ed]
      refine hd _ (by omega) fun k hk e => ?_
      have := hdig k hk e
      split at this <;> omega
    · rw [h] at hq
      have hr := of_decide_eq_false hq.symm
      have hk10 : ∀ k < 16, c = (dig k).toNat → 10 ≤ k ∧ c = 87 + k := by
        intro k hk e
        have := hdig k hk e
        split at this <;> omega
      refine lower_ok hc fun r4 h4 f4 => ⟨fun a => lower_ok hc fun r5 h5 f5 => ⟨fun b => ?_, fun b => he fun k hk e => ?_⟩, fun a => ⟨fun b => (by cases b), fun _ => he fun k hk e => ?_⟩⟩
      · rw [hg]
        refine lower_ok hc fun r6 h6 f6 => ?_
        have e1 := u8w_toNat ((r6 : Int) - 97)
        have e2 := u8w_toNat (((u8w ((r6 : Int) - 97)).toNat : Int) + 10)
        have hlt := (u8w (((u8w ((r6 : Int) - 97)).toNat : Int) + 10)).toNat_lt
        refine hd _ (by omega) fun k hk e => ?_
        obtain ⟨k1, k2⟩ := hk10 k hk e
        have := f6 k hk k1 k2
        omega
      · obtain ⟨k1, k2⟩ := hk10 k hk e
        have := f5 k hk k1 k2
        have := of_decide_eq_false b
        omega
      · obtain ⟨k1, k2⟩ := hk10 k hk e
        have := f4 k hk k1 k2
        omega
  unfold internal_strconv_ParseUint_j9 at *
  rw [hg]
  refine ⟨fun a => j10 _ ?_, fun a => j10 _ ?_⟩
  · rw [Bool.eq_iff_iff, decide_eq_true_eq, decide_eq_true_eq]; omega
  · exact (decide_eq_false (by omega)).symm
theorem pu_loop {b w : Nat} {bI wI cutoff : Int} (C : PuC b w bI wI cutoff) {s s1 : Str} {Q : Int → Int → Prop} (hl : s.length ≤ 1000)
    (h : ∀ (v e : Int), (e = 0 ∨ e = 1 ∨ e = 2) → (∀ n : Nat, n < 2 ^ w → s = numL b n → v = n ∧ e = 0) → Q v e) :
    loopW (fun (K_1 : (Bool × Int × Int) → Prop) (q : Bool × Int × Int) => internal_strconv_ParseUint_l1 s1 bI Q s bI wI cutoff (fun underscores_1 n_1 n_2 => K_1 (underscores_1, n_1, n_2)) q.1 q.2.1 q.2.2) (false, 0, 0) := by
  have hb := C.hb
  refine loop_by (fun q => q.2.2) s.length (fun i q => q.1 = false ∧ ∃ n : Nat, q.2.1 = n ∧ n < 2 ^ w ∧ ∀ m, m < 2 ^ w → s = numL b m → n = val b (s.take i)) rfl ⟨rfl, 0, rfl, by have := C.h0; omega, fun _ _ _ => rfl⟩ ?_
  rintro K i ⟨_, _, _⟩ rfl hi ⟨rfl, n, rfl, hn, hv⟩ hK
  simp only at hv ⊢
  unfold internal_strconv_ParseUint_l1
  refine ⟨fun c => ⟨by omega, ?_⟩, fun c => ⟨fun q => (by cases q), fun _ => ⟨fun q => (by cases q), fun _ => h _ _ (.inl rfl) fun m hm e => ⟨?_, rfl⟩⟩⟩⟩
  · have i1 : i < s.length := by omega
    have hg : ((gi s (i : Int)).toNat : Int) = ((s[i].toNat : Nat) : Int) := by rw [gi_nat i1]
    have h9 : internal_strconv_ParseUint_j9 Q s bI wI cutoff false (n : Int) (i : Int) (fun underscores_1 n_1 n_2 => K (underscores_1, n_1, n_2)) false := by
      have hmem : ∀ m, m < 2 ^ w → s = numL b m → ∃ k < b, s[i] = dig k ∧ n * b + k = val b (s.take (i + 1)) ∧ n * b + k ≤ m := by
        intro m hm e
        obtain ⟨k, hk, ek⟩ := numL_mem hb.1 m s[i] (by rw [← e]; exact List.getElem_mem i1)
        have e1 : val b (s.take (i + 1)) = n * b + k := by
          rw [List.take_succ_eq_append_getElem i1, val_snoc, ← hv m hm e, ek, dval_dig k (by omega)]
        have e2 := val_take (b := b) (by omega) s (i + 1)
        have e3 : val b s = m := by rw [e]; exact val_numL ⟨hb.1, by omega⟩ m
        exact ⟨k, hk, ek, e1.symm, by omega⟩
      refine chr_ok s[i].toNat_lt hg (fun d hd hdk => j8_ok C hn hd (by (first | omega | (unfold I64; omega) | (simp only [List.length_append, List.length_cons, List.length_nil, List.length_take, List.length_drop] at *; omega) | (unfold I64; simp only [List.length_append, List.length_cons, List.length_nil, List.length_take, List.length_drop] at *; omega))) (fun hbd => h _ _ (.inr (.inr rfl)) fun m hm e => ?_) (fun hdb hov => h _ _ (.inr (.inl rfl)) fun m hm e => ?_) (fun hdb hok => hK (i + 1) _ (by simp) (by omega) (by omega) ⟨rfl, n * b + d, rfl, hok, fun m hm e => ?_⟩)) (fun hno => h _ _ (.inr (.inr rfl)) fun m hm e => ?_)
      · obtain ⟨k, hk, ek, _, _⟩ := hmem m hm e
        have := hdk k (by omega) (by rw [ek]); omega
      · obtain ⟨k, hk, ek, _, _⟩ := hmem m hm e
        have := hdk k (by omega) (by rw [ek]); subst this; omega
      · obtain ⟨k, hk, ek, ev, _⟩ := hmem m hm e
        have := hdk k (by omega) (by rw [ek]); subst this; exact ev
      · obtain ⟨k, hk, ek, _, _⟩ := hmem m hm e
        exact absurd (by rw [ek]) (hno k (by omega))
    refine ⟨fun _ => ?_, fun _ => h9⟩
    rw [decide_eq_false C.nz]; exact h9
  · have i1 : i = s.length := by omega
    rw [hv m hm e, i1, List.take_length, e, val_numL ⟨hb.1, by omega⟩]
/-! ### Bytes of a number -/
/-! ### Words -/
/-! ### The program's -/
/-! ### The document's -/
/-! ### What numbers are read of a text -/
/-! ### Read -/
/-! ### A small living call -/
/-! ### The laws -/
end Go.Wk
