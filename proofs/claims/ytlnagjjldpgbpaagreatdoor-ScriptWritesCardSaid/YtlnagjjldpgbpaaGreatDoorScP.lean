/- Plain words for one law: what it needs. -/
import Derived.Test.YtlnagjjldpgbpaaGreatDoorScrW8
import Derived.Test.YtlnagjjldpgbpaaGreatDoorPl2
import Derived.Test.YtlnagjjldpgbpaaGreatDoorStrP
import Derived.Laws.BitsAllLaws
import Derived.Lib.ItoaMem
import Derived.Lib.ItoaLen
set_option linter.unusedSimpArgs false
set_option linter.unusedVariables false
set_option linter.unusedSectionVars false
namespace Go.Wk
open Go.HL
variable [DM]
def dgs : Str := [48, 49, 50, 51, 52, 53, 54, 55, 56, 57, 97, 98, 99, 100, 101, 102, 103, 104, 105, 106, 107, 108, 109, 110, 111, 112, 113, 114, 115, 116, 117, 118, 119, 120, 121, 122]
def FI (k : Nat) : UInt8 := dgs.getD k 0
def oU (b n : Nat) : Str := if h : n < b ∨ b < 2 then [FI n] else oU b (n / b) ++ [FI (n % b)]
termination_by n
decreasing_by exact Nat.div_lt_self (by omega) (by omega)
theorem DW {b n : Nat} (h : n < b) : oU b n = [FI n] := by rw [oU, dif_pos (.inl h)]
theorem Fa {b n : Nat} (hb : 2 <= b) (h : b <= n) : oU b n = oU b (n / b) ++ [FI (n % b)] := by
  rw [oU, dif_neg (by omega)]
theorem Io (b n : Nat) : oU b n ≠ [] := by
  rw [oU]; split <;> simp
theorem YD {b : Nat} (hb : 2 <= b) : ∀ n, (oU b n).length <= n + 1 := by
  intro n
  induction n using Nat.strongRecOn with
  | _ n ih =>
    by_cases h : n < b
    · rw [DW h]; simp
    · have h1 : n / b < n := Nat.div_lt_self (by omega) (by omega)
      have := ih _ h1
      rw [Fa hb (by omega), List.length_append]
      simp only [List.length_cons, List.length_nil]; omega
theorem abr : ∀ k < 10, FI k = UInt8.ofNat (48 + k) := by decide
theorem PX : ∀ n, Lib.decDigits n = oU 10 n := by
  intro n
  induction n using Nat.strongRecOn with
  | _ n ih =>
    by_cases h : n < 10
    · rw [DW h, Lib.decDigits, dif_pos h, abr n h]
    · rw [Fa (by decide) (by omega), Lib.decDigits, dif_neg h, ih _ (Nat.div_lt_self (by omega) (by decide)), abr _ (Nat.mod_lt _ (by decide))]
theorem Xq (n : Nat) : jM (n : Int) = oU 10 n := by unfold jM; rw [Lib.itoa_nonneg, PX]
theorem WU : ∀ k < 16, ((0 : Int) <= ((k : Nat) : Int) /\ ((k : Nat) : Int) <= ((kZ (((k : Nat) : Int) + 1)).toNat : Int) /\ ((kZ (((k : Nat) : Int) + 1)).toNat : Int) <= 16) /\ cut ([48, 49, 50, 51, 52, 53, 54, 55, 56, 57, 97, 98, 99, 100, 101, 102] : Str) ((k : Nat) : Int) ((kZ (((k : Nat) : Int) + 1)).toNat : Int) = [FI k] := by decide +kernel
theorem RQ {k : Nat} (hk : k < 16) {Q : Str -> Prop} (h : Q [FI k]) : zL (k : Int) Q := by
  obtain ⟨h1, h2⟩ := WU k hk
  refine ⟨h1, ?_⟩
  rw [h2]; exact h
theorem ZN {k : Nat} (h : k < 256) : ((kZ (k : Int)).toNat : Int) = k := by rw [lQ]; omega
theorem UY {b n : Nat} (hb : 2 <= b /\ b <= 16) (hn : n <= 10000000) {Q : Str -> Prop} (h : Q (oU b n)) : BB (n : Int) (b : Int) Q := by
  refine ⟨fun s => (s = ((n : Int), [])) ∨ ∃ m : Nat, s.1 = m /\ s.2 ≠ [] /\ s.2.length <= n + 1 /\ ((m = 0 /\ s.2 = oU b n) ∨ (0 < m /\ m <= n /\ oU b n = oU b m ++ s.2)), fun s => if s.2 = [] then n + 1 else s.1.toNat, .inl rfl, ?_⟩
  have hlen := YD hb.1 n
  have step : ∀ (m : Nat) (s : Str) (K : Int -> Str -> Prop), m <= n -> s.length <= n + 1 -> oU b n = oU b m ++ s ->
      (∀ m' s', m' < m + 1 -> (m' < m ∨ m = 0) -> s' ≠ [] -> s'.length <= n + 1 -> ((m' = 0 /\ s' = oU b n) ∨ (0 < m' /\ m' <= n /\ oU b n = oU b m' ++ s')) -> K (m' : Int) s') -> Cb (b : Int) (m : Int) s K := by
    intro m s K hm hs he hK
    refine ⟨by omega, ?_⟩
    have e1 : ((m : Int).tmod (b : Int)) = ((m % b : Nat) : Int) := by rw [Int.tmod_eq_emod_of_nonneg (by omega)]; rfl
    have e2 : ((m : Int).tdiv (b : Int)) = ((m / b : Nat) : Int) := by rw [Int.tdiv_eq_ediv_of_nonneg (by omega)]; rfl
    have hlt : m % b < 16 := Nat.lt_of_lt_of_le (Nat.mod_lt _ (by omega)) hb.2
    rw [e1, e2, ZN (by omega)]
    have hd : m / b <= m := Nat.div_le_self _ _
    refine RQ hlt ⟨by simp only [List.length_cons, List.length_nil]; omega, (by unfold I64; have h0 : (0 : Int) <= ((m / b : Nat) : Int) := Int.natCast_nonneg _; have h1 : ((m / b : Nat) : Int) <= (m : Int) := Int.ofNat_le.2 hd; constructor <;> omega), hK _ _ (by omega) ?_ (List.cons_ne_nil _ _) ?_ ?_⟩
    · by_cases h0 : m = 0
      · exact .inr h0
      · exact .inl (Nat.div_lt_self (by omega) (by omega))
    · by_cases hmb : m < b
      · rw [DW hmb] at he
        rw [Nat.mod_eq_of_lt hmb]
        have := congrArg List.length he
        simp only [List.length_append, List.length_cons, List.length_nil] at this ⊢; omega
      · rw [Fa (n := m) hb.1 (by omega)] at he
        have := congrArg List.length he
        have h2 := List.length_pos_iff.2 (Io b (m / b))
        simp only [List.length_append, List.length_cons, List.length_nil] at this ⊢; omega
    · by_cases hmb : m < b
      · refine .inl ⟨Nat.div_eq_of_lt hmb, ?_⟩
        rw [he, DW hmb, Nat.mod_eq_of_lt hmb]
      · refine .inr ⟨Nat.div_pos (by omega) (by omega), by omega, ?_⟩
        rw [he, Fa (n := m) hb.1 (by omega), List.append_assoc]
  rintro ⟨x, s⟩ hI
  simp only at hI ⊢
  unfold E5
  rcases hI with hI | ⟨m, rfl, hs, hsl, hm⟩
  · injection hI with e1 e2
    subst e1 e2
    refine ⟨fun _ => step n [] _ (Nat.le_refl _) (by simp) (by simp) fun m' s' h1 h2 h3 h4 h5 => ⟨.inr ⟨m', rfl, h3, h4, h5⟩, ?_⟩, fun c => absurd rfl c⟩
    rw [if_neg h3, if_pos rfl]; omega
  · refine ⟨fun c => absurd c hs, fun _ => ⟨fun c => ?_, fun c => ?_⟩⟩
    · rcases hm with ⟨rfl, _⟩ | ⟨h0, h1, h2⟩
      · omega
      · refine step m s _ h1 hsl h2 fun m' s' h1 h2 h3 h4 h5 => ⟨.inr ⟨m', rfl, h3, h4, h5⟩, ?_⟩
        rw [if_neg h3, if_neg hs]
        rcases h2 with h2 | h2 <;> omega
    · rcases hm with ⟨rfl, rfl⟩ | ⟨h0, _⟩
      · exact h
      · omega
theorem aeX {Q : Int -> Prop} (h : Q 4) : qm (IntKind.u64.wrap 16) Q := by
  have e : b8 gW ((IntKind.u64.wrap ((bits .and .u64 (IntKind.u64.wrap 16) (IntKind.u64.wrap (0 - (IntKind.u64.wrap 16)))) * 285870213051353865)).fdiv (2 ^ (min (58 : Int).toNat IntKind.u64.bits))) = 4 := by decide +kernel
  refine ⟨fun c => absurd c (by decide), fun _ => ⟨by decide +kernel, ?_⟩⟩
  rw [e]; exact ⟨by decide, h⟩
theorem Zn {n : Nat} (X : Ba n) {i : Nat} (h0 : i < n) (v : Int) : cut (setB X (i : Int) v).1 (i : Int) (n : Int) = UInt8.ofNat v.toNat :: cut X.1 ((i : Int) + 1) (n : Int) := by
  have hl : (setB X (i : Int) v).1 = X.1.set i (UInt8.ofNat v.toNat) := by unfold setB; simp
  have hn := X.2
  rw [hl]
  unfold cut
  rw [List.take_of_length_le (by rw [List.length_set]; omega), List.take_of_length_le (by omega)]
  have e1 : ((i : Int)).toNat = i := by omega
  have e2 : ((i : Int) + 1).toNat = i + 1 := by omega
  rw [e1, e2, List.drop_eq_getElem_cons (by rw [List.length_set]; omega), List.getElem_set_self, List.drop_set_of_lt (by omega)]
theorem acb {k : Nat} (hk : k < 36) : gi dgs (k : Int) = FI k := by
  have : k < dgs.length := hk
  rw [iZ this]; unfold FI; rw [List.getD_eq_getElem?_getD, List.getElem?_eq_getElem this]; rfl
theorem aaQ (a : Ba 65) {j k : Nat} (hj : j <= 63) (hk : k < 36) : cut (setB a (65 - (j : Int) - 1) ((gi dgs (k : Int)).toNat : Int)).1 (65 - (j : Int) - 1) 65 = FI k :: cut a.1 (65 - (j : Int)) 65 := by
  have e : (65 - (j : Int) - 1) = ((64 - j : Nat) : Int) := by omega
  have e2 : (65 - (j : Int)) = ((64 - j : Nat) : Int) + 1 := by omega
  rw [e, e2, acb hk]
  have := Zn a (i := 64 - j) (by omega) ((FI k).toNat : Int)
  rw [show ((65 : Nat) : Int) = 65 from rfl] at this
  rw [this]
  congr 1
  rw [Int.toNat_natCast, UInt8.ofNat_toNat]
theorem aeD (u : Nat) (hu : u < 18446744073709551616) : bits .and .u64 (u : Int) (IntKind.u64.wrap ((IntKind.u64.wrap 16) - 1)) = ((u % 16 : Nat) : Int) := by
  have e : IntKind.u64.wrap ((IntKind.u64.wrap 16) - 1) = ((15 : Nat) : Int) := by decide +kernel
  rw [e, Go.u64_and_nat u 15 hu (by decide)]
  congr 1
  exact Nat.and_two_pow_sub_one_eq_mod u 4
theorem Y2 {n : Nat} (hn : n < 65536) {Q : Str -> Prop} (h : Q (oU 16 n)) : rO (n : Int) 16 Q := by
  unfold rO oN oD jT nI
  refine ⟨fun c => absurd c (by decide), fun _ => ⟨fun c => absurd c (by decide), fun _ => ⟨fun c => absurd c (by decide), fun _ => ⟨fun c => absurd c (by decide), fun _ => ⟨by decide, fun _ => aeX ?_, fun c => absurd c (by decide +kernel)⟩⟩⟩⟩⟩
  have e16 : IntKind.u64.wrap 16 = 16 := by decide +kernel
  have e4 : (2 : Int) ^ (min (IntKind.u64.wrap 4).toNat IntKind.u64.bits) = 16 := by decide +kernel
  refine ⟨fun s => ∃ u j : Nat, s.1 = (u : Int) /\ s.2.2 = 65 - (j : Int) /\ u * 16 ^ j <= n /\ (j = 0 ∨ 1 <= u) /\ oU 16 n = oU 16 u ++ cut s.2.1.1 (65 - (j : Int)) 65, fun s => s.1.toNat, ⟨n, 0, rfl, rfl, by simp, .inl rfl, ?_⟩, ?_⟩
  · have : cut (default : Ba 65).1 (65 - ((0 : Nat) : Int)) 65 = [] := by
      unfold cut
      apply List.drop_eq_nil_of_le
      rw [List.length_take]
      exact Nat.le_trans (Nat.min_le_left _ _) (by decide)
    rw [this, List.append_nil]
  rintro ⟨x, a, i⟩ ⟨u, j, rfl, rfl, hle, hj, he⟩
  simp only at hle hj he ⊢
  have hj3 : j <= 3 := by
    rcases hj with rfl | hu
    · omega
    · have h1 : 1 * 16 ^ j <= u * 16 ^ j := Nat.mul_le_mul_right _ hu
      have h2 : 16 ^ j < 16 ^ 4 := by omega
      have := (Nat.pow_lt_pow_iff_right (a := 16) (by decide)).1 h2
      omega
  have hu : u <= n := Nat.le_trans (Nat.le_mul_of_pos_right u (Nat.pow_pos (by decide))) hle
  unfold nV
  rw [e16, e4]
  refine ⟨fun c => ?_, fun c => ?_⟩
  · have c : 16 <= u := by omega
    have hm : u % 16 < 16 := Nat.mod_lt _ (by decide)
    have ea := aeD u (by omega)
    rw [e16] at ea
    rw [ea]
    have ef : (u : Int).fdiv 16 = ((u / 16 : Nat) : Int) := by rw [Int.fdiv_eq_ediv_of_nonneg _ (by decide)]; rfl
    rw [ef]
    refine ⟨by (first | omega | (unfold I64; omega) | (simp only [List.length_append, List.length_cons, List.length_nil, List.length_take, List.length_drop] at *; omega) | (unfold I64; simp only [List.length_append, List.length_cons, List.length_nil, List.length_take, List.length_drop] at *; omega)), ⟨by omega, by show _ < (36 : Int); omega⟩, by omega, by decide +kernel, ⟨u / 16, j + 1, rfl, by omega, ?_, .inr (by omega), ?_⟩, by simp only [Int.toNat_natCast]; omega⟩
    · rw [Nat.pow_succ, Nat.mul_comm (16 ^ j) 16, ← Nat.mul_assoc]
      exact Nat.le_trans (Nat.mul_le_mul_right _ (Nat.div_mul_le_self u 16)) hle
    · rw [Fa (by decide) c] at he
      rw [he, List.append_assoc]
      congr 1
      have := aaQ a (j := j) (k := u % 16) (by omega) (by omega)
      rw [show (65 - ((j + 1 : Nat) : Int)) = 65 - (j : Int) - 1 by omega]
      exact this.symm
  · have c : u < 16 := by omega
    refine ⟨by (first | omega | (unfold I64; omega) | (simp only [List.length_append, List.length_cons, List.length_nil, List.length_take, List.length_drop] at *; omega) | (unfold I64; simp only [List.length_append, List.length_cons, List.length_nil, List.length_take, List.length_drop] at *; omega)), ⟨by omega, by show _ < (36 : Int); omega⟩, by omega, ⟨by omega, ?_⟩⟩
    have := aaQ a (j := j) (k := u) (by omega) (by omega)
    have e2 : cut (setB a (65 - (j : Int) - 1) ((gi dgs (u : Int)).toNat : Int)).1 (65 - (j : Int) - 1) 65 = oU 16 n := by
      rw [this, he, DW c]; rfl
    show Q (cut (setB a (65 - (j : Int) - 1) ((gi dgs (u : Int)).toNat : Int)).1 (65 - (j : Int) - 1) 65)
    rw [e2]; exact h
def XA (c : UInt8) : Nat := (dgs.idxOf c)
def val (b : Nat) (l : Str) : Nat := l.foldl (fun a c => a * b + XA c) 0
theorem JF : ∀ k < 36, XA (FI k) = k := by decide
theorem La (b : Nat) (l : Str) (c : UInt8) : val b (l ++ [c]) = val b l * b + XA c := by unfold val; rw [List.foldl_append]; rfl
theorem We {b : Nat} (hb : 1 <= b) : ∀ (l : Str) (a : Nat), a <= l.foldl (fun a c => a * b + XA c) a
  | [], _ => Nat.le_refl _
  | c :: l, a => by
    refine Nat.le_trans ?_ (We hb l (a * b + XA c))
    exact Nat.le_trans (Nat.le_mul_of_pos_right a hb) (Nat.le_add_right _ _)
theorem S9 {b : Nat} (hb : 1 <= b) (l : Str) (i : Nat) : val b (l.take i) <= val b l := by
  conv => rhs; rw [← List.take_append_drop i l]
  unfold val
  rw [List.foldl_append]
  exact We hb _ _
theorem Jh {b : Nat} (hb : 2 <= b /\ b <= 36) : ∀ n, val b (oU b n) = n := by
  intro n
  induction n using Nat.strongRecOn with
  | _ n ih =>
    by_cases h : n < b
    · rw [DW h]
      show 0 * b + XA (FI n) = n
      rw [JF n (by omega)]; omega
    · have hm : n % b < b := Nat.mod_lt _ (by omega)
      rw [Fa hb.1 (by omega), La, ih _ (Nat.div_lt_self (by omega) (by omega)), JF _ (by omega)]
      exact Nat.div_add_mod' n b
theorem Ef {b : Nat} (hb : 2 <= b) : ∀ n, ∀ c ∈ oU b n, ∃ k < b, c = FI k := by
  intro n
  induction n using Nat.strongRecOn with
  | _ n ih =>
    intro c hc
    by_cases h : n < b
    · rw [DW h] at hc
      exact ⟨n, h, List.mem_singleton.1 hc⟩
    · rw [Fa hb (by omega)] at hc
      rcases List.mem_append.1 hc with q | q
      · exact ih _ (Nat.div_lt_self (by omega) (by omega)) c q
      · exact ⟨n % b, Nat.mod_lt _ (by omega), List.mem_singleton.1 q⟩
theorem ae5 {c : Nat} (hc : c < 256) : (0 : Int) <= bits .or .u8 (c : Int) 32 /\ bits .or .u8 (c : Int) 32 < 256 := by
  have e := Go.u8_or_nat c 32 hc (by decide)
  rw [show ((32 : Nat) : Int) = 32 from rfl] at e
  rw [e]
  have : c ||| 32 < 2 ^ 8 := Nat.or_lt_two_pow (by omega) (by decide)
  omega
theorem Pz {c : Nat} (hc : c < 256) {Q : Int -> Prop} (h : ∀ r : Nat, r < 256 -> (∀ k < 16, 10 <= k -> c = 87 + k -> r = c) -> Q (r : Int)) : eH (c : Int) Q := by
  have h1 := ae5 hc
  refine ⟨h1, ?_⟩
  refine h _ (by have := (kZ (bits .or .u8 (c : Int) 32)).toNat_lt; omega) fun k hk hk2 e => ?_
  have h2 := lQ (bits .or .u8 (c : Int) 32)
  rw [Int.emod_eq_of_lt h1.1 h1.2] at h2
  have hf : ∀ k < 16, 10 <= k -> bits .or .u8 ((87 + k : Nat) : Int) 32 = ((87 + k : Nat) : Int) := by decide +kernel
  have := hf k hk hk2
  rw [← e] at this
  omega
structure PuC (b w : Nat) (bI wI cutoff : Int) : Prop where
  hb : 2 <= b /\ b <= 16
  hw : 2 ^ w <= 65536
  h0 : 1 <= 2 ^ w
  eM : IntKind.u64.wrap ((IntKind.u64.wrap ((1 : Int) * 2 ^ (min (IntKind.u64.wrap wI).toNat IntKind.u64.bits))) - 1) = ((2 ^ w - 1 : Nat) : Int)
  hc : ((2 ^ w : Nat) : Int) <= cutoff
  e8 : ((kZ bI).toNat : Int) = b
  e64 : IntKind.u64.wrap bI = b
  nz : ¬ bI = 0
theorem ZL {n : Nat} (h : n < 18446744073709551616) : IntKind.u64.wrap (n : Int) = n := by rw [IntKind.wrap_u64]; omega
theorem adq {b w : Nat} {bI wI cutoff : Int} (C : PuC b w bI wI cutoff) {Q : Int -> Int -> Prop} {K : Bool -> Int -> Int -> Prop} {i : Int} {n d : Nat} (hn : n < 2 ^ w) (hd : d < 256) (hi : I64 (i + 1))
    (e2 : b <= d -> Q 0 2) (e1 : d < b -> 2 ^ w <= n * b + d -> Q ((2 ^ w - 1 : Nat) : Int) 1) (ok : d < b -> n * b + d < 2 ^ w -> K false ((n * b + d : Nat) : Int) (i + 1)) :
    iy Q bI wI cutoff false (n : Int) i K (d : Int) := by
  have hw := C.hw
  have hb := C.hb
  have hnb : n * b <= 65536 * 16 := Nat.mul_le_mul (by omega) hb.2
  have eB : IntKind.u64.wrap ((n : Int) * IntKind.u64.wrap bI) = ((n * b : Nat) : Int) := by
    rw [C.e64, show (n : Int) * (b : Int) = ((n * b : Nat) : Int) by rw [Int.natCast_mul]]
    exact ZL (by omega)
  have eA : IntKind.u64.wrap (IntKind.u64.wrap ((n : Int) * IntKind.u64.wrap bI) + IntKind.u64.wrap (d : Int)) = ((n * b + d : Nat) : Int) := by
    rw [eB, ZL (n := d) (by omega), show ((n * b : Nat) : Int) + (d : Int) = ((n * b + d : Nat) : Int) by omega]
    exact ZL (by omega)
  unfold iy
  rw [C.e8, eA, eB, C.eM]
  refine ⟨fun c => e2 (by omega), fun c => ⟨fun c2 => ?_, fun _ => ⟨fun c3 => by omega, fun _ => ?_⟩⟩⟩
  · have := C.hc; omega
  · unfold jU
    rw [C.eM, eA]
    have h0 := C.h0
    refine ⟨fun c3 => e1 (by omega) (by have := of_decide_eq_true c3; omega), fun c3 => ⟨hi, ok (by omega) (by have := of_decide_eq_false c3; omega)⟩⟩
theorem afM : ∀ k < 16, (FI k).toNat = if k < 10 then 48 + k else 87 + k := by decide
theorem Zq {bI wI cutoff : Int} {Q : Int -> Int -> Prop} {K : Bool -> Int -> Int -> Prop} {s : Str} {n i : Int} {c : Nat} (hc : c < 256) (hg : ((gi s i).toNat : Int) = (c : Int))
    (hd : ∀ d : Nat, d < 256 -> (∀ k < 16, c = (FI k).toNat -> d = k) -> iy Q bI wI cutoff false n i K (d : Int)) (he : (∀ k < 16, c ≠ (FI k).toNat) -> Q 0 2) :
    jc Q s bI wI cutoff false n i K false := by
  refine ⟨fun q => (by cases q), fun _ => ?_⟩
  have hdig : ∀ k < 16, c = (FI k).toNat -> c = if k < 10 then 48 + k else 87 + k := fun k hk e => by rw [e, afM k hk]
  have j10 : ∀ q : Bool, q = decide (48 <= c /\ c <= 57) -> jV Q s bI wI cutoff false n i K q := by
    intro q hq
    unfold jV
    rw [hg]
    refine ⟨fun h => ?_, fun h => ?_⟩
    · rw [h] at hq
      have hr := of_decide_eq_true hq.symm
      have e := lQ ((c : Int) - 48)
      rw [Int.emod_eq_of_lt (by omega) (by omega)] at e
      have ed : ((kZ ((c : Int) - 48)).toNat : Int) = ((c - 48 : Nat) : Int) := by omega
      rw [ed]
      refine hd _ (by omega) fun k hk e => ?_
      have := hdig k hk e
      split at this <;> omega
    · rw [h] at hq
      have hr := of_decide_eq_false hq.symm
      have hk10 : ∀ k < 16, c = (FI k).toNat -> 10 <= k /\ c = 87 + k := by
        intro k hk e
        have := hdig k hk e
        split at this <;> omega
      refine Pz hc fun r4 h4 f4 => ⟨fun a => Pz hc fun r5 h5 f5 => ⟨fun b => ?_, fun b => he fun k hk e => ?_⟩, fun a => ⟨fun b => (by cases b), fun _ => he fun k hk e => ?_⟩⟩
      · rw [hg]
        refine Pz hc fun r6 h6 f6 => ?_
        have e1 := lQ ((r6 : Int) - 97)
        have e2 := lQ (((kZ ((r6 : Int) - 97)).toNat : Int) + 10)
        have hlt := (kZ (((kZ ((r6 : Int) - 97)).toNat : Int) + 10)).toNat_lt
        refine hd _ (by omega) fun k hk e => ?_
        obtain ⟨k1, k2⟩ := hk10 k hk e
        have := f6 k hk k1 k2
        omega
      · obtain ⟨k1, k2⟩ := hk10 k hk e
        have := f5 k hk k1 k2
        have := of_decide_eq_false b
        omega
      · obtain ⟨k1, k2⟩ := hk10 k hk e
        have := f4 k hk k1 k2
        omega
  unfold jc at *
  rw [hg]
  refine ⟨fun a => j10 _ ?_, fun a => j10 _ ?_⟩
  · rw [Bool.eq_iff_iff, decide_eq_true_eq, decide_eq_true_eq]; omega
  · exact (decide_eq_false (by omega)).symm
theorem VL {b w : Nat} {bI wI cutoff : Int} (C : PuC b w bI wI cutoff) {s s1 : Str} {Q : Int -> Int -> Prop} (hl : s.length <= 1000)
    (h : ∀ (v e : Int), (e = 0 ∨ e = 1 ∨ e = 2) -> (∀ n : Nat, n < 2 ^ w -> s = oU b n -> v = n /\ e = 0) -> Q v e) :
    lu (fun (fM : (Bool × Int × Int) -> Prop) (q : Bool × Int × Int) => jy s1 bI Q s bI wI cutoff (fun dC bG iQ => fM (dC, bG, iQ)) q.1 q.2.1 q.2.2) (false, 0, 0) := by
  have hb := C.hb
  refine Gv (fun q => q.2.2) s.length (fun i q => q.1 = false /\ ∃ n : Nat, q.2.1 = n /\ n < 2 ^ w /\ ∀ m, m < 2 ^ w -> s = oU b m -> n = val b (s.take i)) rfl ⟨rfl, 0, rfl, by have := C.h0; omega, fun _ _ _ => rfl⟩ ?_
  rintro K i ⟨_, _, _⟩ rfl hi ⟨rfl, n, rfl, hn, hv⟩ hK
  simp only at hv ⊢
  unfold jy
  refine ⟨fun c => ⟨by omega, ?_⟩, fun c => ⟨fun q => (by cases q), fun _ => ⟨fun q => (by cases q), fun _ => h _ _ (.inl rfl) fun m hm e => ⟨?_, rfl⟩⟩⟩⟩
  · have i1 : i < s.length := by omega
    have hg : ((gi s (i : Int)).toNat : Int) = ((s[i].toNat : Nat) : Int) := by rw [iZ i1]
    have h9 : jc Q s bI wI cutoff false (n : Int) (i : Int) (fun dC bG iQ => K (dC, bG, iQ)) false := by
      have hmem : ∀ m, m < 2 ^ w -> s = oU b m -> ∃ k < b, s[i] = FI k /\ n * b + k = val b (s.take (i + 1)) /\ n * b + k <= m := by
        intro m hm e
        obtain ⟨k, hk, ek⟩ := Ef hb.1 m s[i] (by rw [← e]; exact List.getElem_mem i1)
        have e1 : val b (s.take (i + 1)) = n * b + k := by
          rw [List.take_succ_eq_append_getElem i1, La, ← hv m hm e, ek, JF k (by omega)]
        have e2 := S9 (b := b) (by omega) s (i + 1)
        have e3 : val b s = m := by rw [e]; exact Jh ⟨hb.1, by omega⟩ m
        exact ⟨k, hk, ek, e1.symm, by omega⟩
      refine Zq s[i].toNat_lt hg (fun d hd hdk => adq C hn hd (by (first | omega | (unfold I64; omega) | (simp only [List.length_append, List.length_cons, List.length_nil, List.length_take, List.length_drop] at *; omega) | (unfold I64; simp only [List.length_append, List.length_cons, List.length_nil, List.length_take, List.length_drop] at *; omega))) (fun hbd => h _ _ (.inr (.inr rfl)) fun m hm e => ?_) (fun hdb hov => h _ _ (.inr (.inl rfl)) fun m hm e => ?_) (fun hdb hok => hK (i + 1) _ (by simp) (by omega) (by omega) ⟨rfl, n * b + d, rfl, hok, fun m hm e => ?_⟩)) (fun hno => h _ _ (.inr (.inr rfl)) fun m hm e => ?_)
      · obtain ⟨k, hk, ek, _, _⟩ := hmem m hm e
        have := hdk k (by omega) (by rw [ek]); omega
      · obtain ⟨k, hk, ek, _, _⟩ := hmem m hm e
        have := hdk k (by omega) (by rw [ek]); subst this; omega
      · obtain ⟨k, hk, ek, ev, _⟩ := hmem m hm e
        have := hdk k (by omega) (by rw [ek]); subst this; exact ev
      · obtain ⟨k, hk, ek, _, _⟩ := hmem m hm e
        exact absurd (by rw [ek]) (hno k (by omega))
    refine ⟨fun _ => ?_, fun _ => h9⟩
    rw [decide_eq_false C.nz]; exact h9
  · have i1 : i = s.length := by omega
    rw [hv m hm e, i1, List.take_length, e, Jh ⟨hb.1, by omega⟩]
def PuW (bI wI : Int) (b w : Nat) : Prop := (bI = 10 /\ wI = 8 /\ b = 10 /\ w = 8) ∨ (bI = 16 /\ wI = 16 /\ b = 16 /\ w = 16)
theorem adf {bI wI : Int} {b w : Nat} (hb : PuW bI wI b w) {s : Str} (hl : s.length <= 1000) {Q : Int -> Bool -> Prop}
    (h : ∀ (v : Int) (e : Bool), (∀ n : Nat, n < 2 ^ w -> s = oU b n -> v = n /\ e = false) -> Q v e) : rZ s bI wI Q := by
  have h' : ∀ (v e : Int), (e = 0 ∨ e = 1 ∨ e = 2) -> (∀ n : Nat, n < 2 ^ w -> s = oU b n -> v = n /\ e = 0) ->
      (¬ e = 0 -> ((s.length : Int) <= 281474976710656 /\ (e = 2 ∨ e = 1)) /\ Q v true) /\ (e = 0 -> Q v false) := by
    intro v e he hn
    refine ⟨fun c => ⟨by omega, h _ _ fun n hn1 es => ?_⟩, fun c => h _ _ fun n hn1 es => ⟨(hn n hn1 es).1, rfl⟩⟩
    exact absurd (hn n hn1 es).2 c
  unfold rZ jH
  refine ⟨fun c => h' _ _ (.inr (.inr rfl)) fun n _ es => absurd (es.symm.trans c) (Io _ _), fun c => ?_⟩
  rcases hb with ⟨rfl, rfl, rfl, rfl⟩ | ⟨rfl, rfl, rfl, rfl⟩
  · have C : PuC 10 8 10 8 1844674407370955162 := ⟨by decide, by decide, by decide, by decide +kernel, by decide, by decide +kernel, by decide +kernel, by decide⟩
    refine ⟨fun _ => ⟨fun _ => ⟨fun q => absurd q (by decide), fun _ => ⟨fun q => absurd q (by decide), fun _ => ⟨fun q => absurd q (by decide), fun _ => ⟨fun _ => ⟨by decide +kernel, by omega, VL C hl h'⟩, fun q => absurd rfl q⟩⟩⟩⟩, fun q => absurd q (by decide)⟩, fun q => absurd (by decide) q⟩
  · have C : PuC 16 16 16 16 1152921504606846976 := ⟨by decide, by decide, by decide, by decide +kernel, by decide, by decide +kernel, by decide +kernel, by decide⟩
    refine ⟨fun _ => ⟨fun _ => ⟨fun q => absurd q (by decide), fun _ => ⟨fun q => absurd q (by decide), fun _ => ⟨fun q => absurd q (by decide), fun _ => ⟨fun q => absurd q (by decide), fun _ => ⟨fun _ => ⟨by decide +kernel, by omega, VL C hl h'⟩, fun q => absurd rfl q⟩⟩⟩⟩⟩, fun q => absurd q (by decide)⟩, fun q => absurd (by decide) q⟩
theorem Z7 {v : Int} {Q : Str -> Prop} (h : Q [kZ v]) : BC v 1 Q := by
  refine ⟨by decide, by decide, ?_⟩
  refine ⟨fun s => s = (v, [default], 0) ∨ s.2 = ([kZ v], -1), fun s => (s.2.2 + 1).toNat, .inl rfl, ?_⟩
  rintro ⟨n, out, i⟩ hI
  unfold Ci
  rcases hI with hI | hI
  · injection hI with e1 e2; injection e2 with e2 e3; subst e1 e2 e3
    dsimp only
    exact ⟨fun _ => ⟨by decide, by decide, .inr rfl, by decide⟩, fun c => absurd c (by decide)⟩
  · injection hI with e2 e3; subst e2 e3
    dsimp only
    exact ⟨fun c => absurd c (by decide), fun _ => h⟩
theorem Z5 {v : Int} {Q : Str -> Prop} (h : Q [kZ (v.fdiv 256), kZ v]) : BC v 2 Q := by
  have e : (2 : Int) ^ (min (8 : Int).toNat IntKind.u64.bits) = 256 := by decide +kernel
  refine ⟨by decide, by decide, ?_⟩
  refine ⟨fun s => s = (v, [default, default], 1) ∨ s = (v.fdiv 256, [default, kZ v], 0) ∨ s.2 = ([kZ (v.fdiv 256), kZ v], -1), fun s => (s.2.2 + 1).toNat, .inl rfl, ?_⟩
  rintro ⟨n, out, i⟩ hI
  unfold Ci
  rw [e]
  rcases hI with hI | hI | hI
  · injection hI with e1 e2; injection e2 with e2 e3; subst e1 e2 e3
    dsimp only
    exact ⟨fun _ => ⟨by decide, by decide, .inr (.inl rfl), by decide⟩, fun c => absurd c (by decide)⟩
  · injection hI with e1 e2; injection e2 with e2 e3; subst e1 e2 e3
    dsimp only
    exact ⟨fun _ => ⟨by simp, by decide, .inr (.inr rfl), by decide⟩, fun c => absurd c (by decide)⟩
  · injection hI with e2 e3; subst e2 e3
    dsimp only
    exact ⟨fun c => absurd c (by decide), fun _ => h⟩
theorem Pv {s : Str} {c : UInt8} {base wide : Int} {b w : Nat} (hP : PuW base (8 * wide) b w) (hw : I64 (8 * wide)) (Z4 : Int -> Str) (hput : ∀ (v : Int) (Q : Str -> Prop), Q (Z4 v) -> BC v wide Q) (hlen : ∀ v, (Z4 v).length <= 2) (hs : s.length <= 900) {Q : Str -> Bool -> Prop}
    (h : ∀ (r : Str) (ok : Bool), r.length <= 2 * (s.length + 1) -> (s = [] -> r = [] /\ ok = true) -> (∀ ns : List Nat, (∀ n ∈ ns, n < 2 ^ w) -> s ≠ [] -> dE s [c] = ns.map (oU b) -> r = ns.flatMap (fun (n : Nat) => Z4 (n : Int)) /\ ok = true) -> Q r ok) : uh s [c] base wide Q := by
  refine ⟨fun e => h _ _ (by simp) (fun _ => ⟨rfl, rfl⟩) fun _ _ q => absurd e q, fun e => ⟨⟨by omega, by simp⟩, ?_⟩⟩
  have hl := LX s c
  have hm := QQ s c
  generalize hS : dE s [c] = l at *
  refine wK l.length (fun i o => o.length <= 2 * i /\ ∀ ns : List Nat, (∀ n ∈ ns, n < 2 ^ w) -> l = ns.map (oU b) -> o = (ns.take i).flatMap (fun (n : Nat) => Z4 (n : Int))) ⟨by simp, fun _ _ _ => by simp⟩ fun K i o hi hI hK => ?_
  obtain ⟨lo, ho⟩ := hI
  show xG s [c] base wide Q _ o (i : Int)
  unfold xG
  rw [hS]
  refine ⟨fun d => ⟨by omega, hw, ?_⟩, fun d => h _ _ (by omega) (fun q => absurd q e) fun ns h1 _ h2 => ⟨?_, rfl⟩⟩
  · have i1 : i < l.length := by omega
    rw [iZ i1]
    have hx := (hm l[i] (List.getElem_mem i1)).1
    have elem : ∀ ns : List Nat, l = ns.map (oU b) -> ∃ hi' : i < ns.length, l[i] = oU b ns[i] := by
      intro ns e
      have hi' : i < ns.length := by rw [e, List.length_map] at i1; exact i1
      exact ⟨hi', by subst e; simp⟩
    refine adf hP (by omega) fun v er hv => ⟨fun ce => ?_, fun ce => ?_⟩
    · subst ce
      refine h _ _ (by simp) (fun q => absurd q e) fun ns h1 _ h2 => ?_
      obtain ⟨hi', e1⟩ := elem ns h2
      have := (hv ns[i] (h1 _ (List.getElem_mem hi')) e1).2
      cases this
    · subst ce
      have := hlen v
      refine hput _ _ ⟨by omega, by (first | omega | (unfold I64; omega) | (simp only [List.length_append, List.length_cons, List.length_nil, List.length_take, List.length_drop] at *; omega) | (unfold I64; simp only [List.length_append, List.length_cons, List.length_nil, List.length_take, List.length_drop] at *; omega)), hK (i + 1) _ (by omega) (by omega) ⟨?_, fun ns h1 h2 => ?_⟩⟩
      · rw [List.length_append]; omega
      · obtain ⟨hi', e1⟩ := elem ns h2
        rw [List.take_succ_eq_append_getElem hi', List.flatMap_append, ← ho ns h1 h2, (hv ns[i] (h1 _ (List.getElem_mem hi')) e1).1]
        simp
  · have i1 : i = l.length := by omega
    have := ho ns h1 h2
    rw [this, List.take_of_length_le (by rw [i1, h2, List.length_map]; exact Nat.le_refl _)]
abbrev Ad := au
def by8 (a : Ad) (i : Nat) : Nat := (a.2.1.getD i 0).toNat
theorem Qi (a : Ad) {i : Nat} (h : i < 16) : b8 a.2 (i : Int) = ((by8 a i : Nat) : Int) := by
  have hl : i < a.2.1.length := by rw [a.2.2]; exact h
  unfold b8 by8
  rw [iZ hl, List.getD_eq_getElem?_getD, List.getElem?_eq_getElem hl]; rfl
theorem EJ (a : Ad) (i : Nat) : by8 a i < 256 := UInt8.toNat_lt _
def wd (a : Ad) (i : Nat) : Nat := 256 * by8 a (2 * i) + by8 a (2 * i + 1)
theorem Vt (a : Ad) (i : Nat) : wd a i < 65536 := by have := EJ a (2 * i); have := EJ a (2 * i + 1); unfold wd; omega
theorem Vs {a : Ad} {i : Nat} (hi : i < 8) {Q : Int -> Prop} (h : Q (wd a i : Int)) : Ei a (i : Int) Q := by
  have e1 : (2 * (i : Int)) = ((2 * i : Nat) : Int) := by omega
  have e2 : (2 * (i : Int)) + 1 = ((2 * i + 1 : Nat) : Int) := by omega
  refine ⟨by unfold I64; omega, by omega, by unfold I64; omega, by omega, ?_⟩
  rw [e2, e1, Qi a (by omega), Qi a (by omega)]
  have h1 := EJ a (2 * i)
  have h2 := EJ a (2 * i + 1)
  have e8 : (2 : Int) ^ (min (8 : Int).toNat IntKind.u64.bits) = 256 := by decide +kernel
  rw [e8, ZL (by omega), ZL (n := by8 a (2 * i + 1)) (by omega)]
  have e3 : ((by8 a (2 * i) : Nat) : Int) * 256 = ((256 * by8 a (2 * i) : Nat) : Int) := by omega
  rw [e3, ZL (by omega), Go.u64_or_nat _ _ (by omega) (by omega), Go.nat_join 8 _ _ (by omega) (by omega)]
  exact h
def zs (a : Ad) : List Bool := (List.range 8).map fun i => decide (wd a i = 0)
def Ic (Z : List Bool) (i : Nat) : Nat := ((Z.drop i).takeWhile id).length
theorem JS {Z : List Bool} {i : Nat} (h : i < Z.length) : Ic Z i = if Z[i] = true then Ic Z (i + 1) + 1 else 0 := by
  unfold Ic
  rw [List.drop_eq_getElem_cons h, List.takeWhile_cons]
  cases Z[i] <;> simp
theorem Tn {Z : List Bool} {i : Nat} (h : Z.length <= i) : Ic Z i = 0 := by unfold Ic; rw [List.drop_eq_nil_of_le h]; rfl
theorem Kv (a : Ad) : (zs a).length = 8 := by simp [zs]
theorem Oz (a : Ad) {i : Nat} (h : i < (zs a).length) : (zs a)[i] = decide (wd a i = 0) := by simp [zs]
theorem VD (Z : List Bool) (i : Nat) : i + Ic Z i <= max i Z.length := by
  unfold Ic
  have := (List.takeWhile_sublist id (l := Z.drop i)).length_le
  rw [List.length_drop] at this
  omega
def Tq (Z : List Bool) : Nat -> Int × Int -> Nat -> Int × Int
  | 0, r, _ => r
  | f + 1, r, i => if 8 <= i then r else Tq Z f (if r.2 < (Ic Z i : Int) then ((i : Int), (Ic Z i : Int)) else r) (i + (Ic Z i + 1))
def UE (Z : List Bool) : Nat -> Int × Int -> Nat -> Int × Int
  | 0, r, _ => r
  | f + 1, r, i => if 8 <= i then r else UE Z f (if r.2 < (Ic Z i : Int) then ((i : Int), (Ic Z i : Int)) else r) (i + 1)
theorem ZV (Z : List Bool) {i : Nat} (h : 8 <= i) : ∀ f r, Tq Z f r i = r
  | 0, _ => rfl
  | f + 1, r => if_pos h
theorem ZW (Z : List Bool) {i : Nat} (h : 8 <= i) : ∀ f r, UE Z f r i = r
  | 0, _ => rfl
  | f + 1, r => if_pos h
def rowOf (a : Ad) : Int × Int := Tq (zs a) 8 (0, 1) 0
def QW (a : Ad) : Int × Int := UE (zs a) 8 (-1, 1) 0
theorem abG {a : Ad} {Q : Int -> Int -> Prop} (h : Q (rowOf a).1 (rowOf a).2) : IK a Q := by
  refine ⟨fun s => ∃ f i : Nat, s.2.2 = i /\ 8 <= i + f /\ i <= 9 /\ Tq (zs a) f (s.1, s.2.1) i = rowOf a, fun s => (9 - s.2.2).toNat, ⟨8, 0, rfl, by omega, by omega, rfl⟩, ?_⟩
  rintro ⟨at_, most, _⟩ ⟨f, i, rfl, hf, hi9, he⟩
  simp only at he ⊢
  unfold GG
  refine ⟨fun c => ?_, fun c => ?_⟩
  · have i8 : i < 8 := by omega
    have hr := VD (zs a) i
    rw [Kv] at hr
    refine ⟨fun k => ∃ j : Nat, k = j /\ i + j <= 8 /\ Ic (zs a) i = j + Ic (zs a) (i + j), fun k => (9 - k).toNat, ⟨0, rfl, by omega, by simp⟩, ?_⟩
    rintro _ ⟨j, rfl, hj, hjr⟩
    have fin : j = Ic (zs a) i -> Em at_ most (i : Int) (fun bG mP bu => (∃ f i : Nat, bu = i /\ 8 <= i + f /\ i <= 9 /\ Tq (zs a) f (bG, mP) i = rowOf a) /\ (9 - bu).toNat < (9 - (i : Int)).toNat) (j : Int) := by
      intro ej
      have ef : ∃ f', f = f' + 1 := ⟨f - 1, by omega⟩
      obtain ⟨f', rfl⟩ := ef
      rw [Tq, if_neg (by omega), ← ej] at he
      refine ⟨fun cm => ⟨by unfold I64; omega, by unfold I64; omega, ⟨f', i + (j + 1), by omega, by omega, by omega, ?_⟩, by omega⟩, fun cm => ⟨by unfold I64; omega, by unfold I64; omega, ⟨f', i + (j + 1), by omega, by omega, by omega, ?_⟩, by omega⟩⟩
      · rw [if_pos cm] at he; exact he
      · rw [if_neg cm] at he; exact he
    unfold Gz
    refine ⟨by unfold I64; omega, fun c2 => ?_, fun c2 => fin ?_⟩
    · have i2 : i + j < (zs a).length := by rw [Kv]; omega
      rw [show (i : Int) + (j : Int) = ((i + j : Nat) : Int) by omega]
      refine Vs (by omega) ⟨fun c3 => ⟨by unfold I64; omega, ⟨j + 1, by omega, by omega, ?_⟩, (by show (9 - ((j : Int) + 1)).toNat < (9 - (j : Int)).toNat; omega)⟩, fun c3 => fin ?_⟩
      · rw [hjr, JS i2, Oz, if_pos (decide_eq_true (by omega)), Nat.add_assoc i j 1]; omega
      · rw [hjr, JS i2, Oz, if_neg (by simpa using (by omega : ¬ wd a (i + j) = 0))]; omega
    · rw [hjr, Tn (by rw [Kv]; omega)]; omega
  · rw [ZV _ (by omega)] at he
    rw [← he] at h; exact h
theorem Ye : ∀ a b c d e f g h : Bool, let Z := [a, b, c, d, e, f, g, h]; let p := Tq Z 8 (0, 1) 0; let q := UE Z 8 (-1, 1) 0;
    (p.2 < 2 -> q = (-1, 1)) /\ (¬ p.2 < 2 -> q = p) /\ 0 <= p.1 /\ 1 <= p.2 /\ p.1 + p.2 <= 8 := by decide +kernel
theorem Lp (a : Ad) : ((rowOf a).2 < 2 -> QW a = (-1, 1)) /\ (¬ (rowOf a).2 < 2 -> QW a = rowOf a) /\ 0 <= (rowOf a).1 /\ 1 <= (rowOf a).2 /\ (rowOf a).1 + (rowOf a).2 <= 8 := Ye _ _ _ _ _ _ _ _
theorem Jv {b : Nat} (hb : 2 <= b) : ∀ (k n : Nat), 1 <= k -> n < b ^ k -> (oU b n).length <= k
  | 0, _, h, _ => by omega
  | 1, n, _, h => by rw [DW (by simpa using h)]; simp
  | k + 2, n, _, h => by
    by_cases hn : n < b
    · rw [DW hn]; simp
    · have h1 : n / b < b ^ (k + 1) := by
        rw [Nat.pow_succ] at h
        exact Nat.div_lt_of_lt_mul (by rw [Nat.mul_comm]; exact h)
      have := Jv hb (k + 1) (n / b) (by omega) h1
      rw [Fa hb (by omega), List.length_append]
      simp only [List.length_cons, List.length_nil]; omega
theorem Zl : ∀ k < 16, FI k ≠ 58 /\ FI k ≠ 46 := by decide
theorem Sz {b : Nat} (hb : 2 <= b /\ b <= 16) (n : Nat) : 58 ∉ oU b n /\ 46 ∉ oU b n := by
  constructor <;> intro h <;> obtain ⟨k, hk, e⟩ := Ef hb.1 n _ h
  · exact (Zl k (by omega)).1 e.symm
  · exact (Zl k (by omega)).2 e.symm
def wL (a : Ad) (i j : Nat) : List Str := (List.range' i (j - i)).map fun k => oU 16 (wd a k)
theorem KY (a : Ad) {i k : Nat} (h : i <= k) : wL a i (k + 1) = wL a i k ++ [oU 16 (wd a k)] := by
  unfold wL
  rw [show k + 1 - i = (k - i) + 1 by omega, List.range'_1_concat, List.map_append, show i + (k - i) = k by omega]; rfl
theorem OB (a : Ad) {i j : Nat} (h : j <= i) : wL a i j = [] := by unfold wL; rw [show j - i = 0 by omega]; rfl
theorem RF (a : Ad) (i j : Nat) : (wL a i j).length = j - i := by simp [wL]
theorem AY (a : Ad) (i j : Nat) : ∀ x ∈ wL a i j, x ≠ [] /\ (58 : UInt8) ∉ x /\ x.length <= 4 := by
  intro x hx
  obtain ⟨k, _, rfl⟩ := List.mem_map.1 hx
  exact ⟨Io _ _, (Sz (by decide) _).1, Jv (by decide) 4 _ (by decide) (Vt a k)⟩
theorem GK (a : Ad) (i j : Nat) : (gy (wL a i j) [58]).length <= (j - i) * 5 := by
  have := JW (c := 58) (m := 4) fun x hx => (AY a i j x hx).2.2
  rw [RF] at this; exact this
def oL (a : Ad) (i : Nat) : List Str := (List.range i).map fun k => oU 10 (by8 a k)
theorem Su (a : Ad) (i : Nat) : oL a (i + 1) = oL a i ++ [oU 10 (by8 a i)] := by unfold oL; rw [List.range_succ, List.map_append]; rfl
theorem Pq (a : Ad) (i : Nat) : (oL a i).length = i := by simp [oL]
theorem Sv (a : Ad) (i : Nat) : ∀ x ∈ oL a i, x ≠ [] /\ (46 : UInt8) ∉ x /\ (58 : UInt8) ∉ x /\ x.length <= 3 := by
  intro x hx
  obtain ⟨k, _, rfl⟩ := List.mem_map.1 hx
  have := EJ a k
  exact ⟨Io _ _, (Sz (by decide) _).2, (Sz (by decide) _).1, Jv (by decide) 3 _ (by decide) (by omega)⟩
theorem UX (a : Ad) (i : Nat) : (gy (oL a i) [46]).length <= i * 4 := by
  have := JW (c := 46) (m := 3) fun x hx => (Sv a i x hx).2.2.2
  rw [Pq] at this; exact this
def txt (a : Ad) : Str :=
  if a.1 = true then (if (rowOf a).2 < 2 then gy (wL a 0 8) [58] else gy (wL a 0 (rowOf a).1.toNat) [58] ++ [58, 58] ++ gy (wL a ((rowOf a).1 + (rowOf a).2).toNat 8) [58])
  else gy (oL a 4) [46]
theorem AZ (a : Ad) : (txt a).length <= 100 := by
  unfold txt
  have h1 := GK a 0 8
  have h2 := GK a 0 (rowOf a).1.toNat
  have h3 := GK a ((rowOf a).1 + (rowOf a).2).toNat 8
  have h4 := UX a 4
  obtain ⟨_, _, r1, r2, r3⟩ := Lp a
  split
  · split
    · omega
    · simp only [List.length_append, List.length_cons, List.length_nil]; omega
  · omega
theorem SA {a : Ad} {i j : Nat} (hj : j <= 8) (hi : i <= 8) {Q : Str -> Prop} (h : Q (gy (wL a i j) [58])) : BG a (i : Int) (j : Int) Q := by
  refine JV (fun s => s.2) i (max i j) (fun k s => i <= k /\ s.1 = wL a i k) rfl (by omega) ⟨Nat.le_refl _, (OB a (Nat.le_refl _)).symm⟩ ?_
  rintro K k ⟨l, _⟩ rfl hk ⟨hik, hl'⟩ hK
  dsimp only at hl' ⊢
  subst hl'
  have hl := RF a i k
  unfold Fq
  refine ⟨fun c => Vs (by omega) (Y2 (Vt a k) ⟨by simp only [List.length_cons, List.length_nil]; omega, by unfold I64; omega, hK (k + 1) _ (by dsimp only; omega) (by omega) (by omega) ⟨by omega, (KY a hik).symm⟩⟩), fun c => ?_⟩
  have e : wL a i k = wL a i j := by
    by_cases hij : i <= j
    · rw [show k = j by omega]
    · rw [OB a (by omega), OB a (by omega)]
  have := GK a i k
  refine ⟨⟨by omega, by omega⟩, ?_⟩
  rw [e]; exact h
theorem Om {a : Ad} {Q : Str -> Prop} (h : Q (txt a)) : Ej a Q := by
  refine ⟨fun c => ?_, fun c => ?_⟩
  · have hv : a.1 = false := by simpa using c
    have hc : (cut a.2.1 0 4).length = 4 := by unfold cut; have := a.2.2; simp; omega
    refine wK 4 (fun i l => l = oL a i) rfl fun K i l hi hl hK => ?_
    have hlen := Pq a i
    rw [← hl] at hlen
    show CX a Q _ l (i : Int)
    unfold CX
    rw [hc]
    refine ⟨fun d => ?_, fun d => ?_⟩
    · have i4 : i < (cut a.2.1 0 4).length := by omega
      have hg : (((gi (cut a.2.1 0 4) (i : Int)).toNat : Nat) : Int) = ((by8 a i : Nat) : Int) := by
        rw [iZ i4]
        unfold by8 cut
        have hl : i < a.2.1.length := by have := a.2.2; omega
        simp [List.getD_eq_getElem?_getD, hl]
      have h8 := EJ a i
      rw [hg, Xq]
      exact ⟨by omega, by unfold I64; omega, by simp only [List.length_cons, List.length_nil]; omega, by unfold I64; omega, hK (i + 1) _ (by omega) (by omega) (by rw [Su, hl])⟩
    · have i4 : i = 4 := by omega
      subst i4
      have := UX a 4
      rw [hl]
      refine ⟨⟨by rw [Pq]; decide, by omega⟩, ?_⟩
      unfold txt at h
      rw [if_neg (by rw [hv]; decide)] at h; exact h
  · have hv : a.1 = true := by simpa using c
    obtain ⟨_, _, r1, r2, r3⟩ := Lp a
    unfold txt at h
    rw [if_pos hv] at h
    refine abG ⟨fun d => SA (i := 0) (j := 8) (by omega) (by omega) ?_, fun d => ⟨by unfold I64; omega, ?_⟩⟩
    · rw [if_pos d] at h; exact h
    · rw [if_neg d] at h
      have e1 : (rowOf a).1 = ((rowOf a).1.toNat : Int) := by omega
      have e2 : (rowOf a).1 + (rowOf a).2 = (((rowOf a).1 + (rowOf a).2).toNat : Int) := by omega
      have l1 := GK a 0 (rowOf a).1.toNat
      have l2 := GK a ((rowOf a).1 + (rowOf a).2).toNat 8
      generalize ((rowOf a).1 + (rowOf a).2).toNat = q at *
      generalize (rowOf a).1.toNat = p at *
      rw [e2, e1]
      exact SA (i := 0) (by omega) (by omega) ⟨by simp only [List.length_cons, List.length_nil]; omega, SA (j := 8) (by omega) (by omega) ⟨by simp only [List.length_append, List.length_cons, List.length_nil]; omega, h⟩⟩
theorem VZ {s : Str} {c : UInt8} (h : s.getLast? = some c) : s ≠ [] /\ gi s ((s.length : Int) - 1) = c := by
  have hne : s ≠ [] := by rintro rfl; cases h
  have hp := List.length_pos_iff.2 hne
  refine ⟨hne, ?_⟩
  rw [show (s.length : Int) - 1 = ((s.length - 1 : Nat) : Int) by omega, iZ (by omega)]
  rw [List.getLast?_eq_getElem?, List.getElem?_eq_getElem (by omega)] at h
  exact Option.some.inj h
theorem aaT {a : Ad} {i : Nat} (hi : i < 8) {K : Str -> Int -> Prop} {s : Str} (hs : s.length <= 1000) (h : K (s ++ oU 16 (wd a i)) ((i : Int) + 1)) : lY a (i : Int) K s := by
  have e1 : (2 * (i : Int)) = ((2 * i : Nat) : Int) := by omega
  have e2 : (2 * (i : Int)) + 1 = ((2 * i + 1 : Nat) : Int) := by omega
  have h1 := EJ a (2 * i)
  have h2 := EJ a (2 * i + 1)
  have hw : 256 * ((by8 a (2 * i) : Nat) : Int) + ((by8 a (2 * i + 1) : Nat) : Int) = ((wd a i : Nat) : Int) := by unfold wd; omega
  unfold lY
  rw [e2, e1, Qi a (by omega), Qi a (by omega), hw]
  have hwl := Vt a i
  have hnl := Jv (b := 16) (by decide) 4 _ (by decide) hwl
  exact ⟨by unfold I64; omega, by omega, by unfold I64; omega, by unfold I64; omega, by unfold I64; omega, by omega, by unfold I64; omega, by unfold I64; omega, UY (b := 16) (by decide) (by omega) ⟨by omega, by unfold I64; omega, h⟩⟩
theorem Vm {a : Ad} {i : Nat} (hi : i < 8) {K : Str -> Int -> Prop} {P : Str} {l : List Str} (hP : P = [] ∨ P.getLast? = some 58) (hl : ∀ x ∈ l, x ≠ [] /\ (58 : UInt8) ∉ x) (hlen : (P ++ gy l [58]).length <= 900)
    (h : K (P ++ gy (l ++ [oU 16 (wd a i)]) [58]) ((i : Int) + 1)) :
    (¬ ((P ++ gy l [58] : Str) = []) -> (I64 (((P ++ gy l [58]).length : Int) - 1)) /\ (((0 : Int) <= ((P ++ gy l [58]).length : Int) - 1 /\ ((P ++ gy l [58]).length : Int) - 1 < ((P ++ gy l [58]).length : Int)) /\ ((¬ (((gi (P ++ gy l [58]) (((P ++ gy l [58]).length : Int) - 1)).toNat : Int) = 58) -> (((P ++ gy l [58]).length : Int) + ((([58] : Str)).length : Int) <= 9223372036854775807) /\ (lY a (i : Int) K ((P ++ gy l [58]) ++ ([58] : Str)))) /\ (((gi (P ++ gy l [58]) (((P ++ gy l [58]).length : Int) - 1)).toNat : Int) = 58 -> lY a (i : Int) K (P ++ gy l [58]))))) /\ ((P ++ gy l [58] : Str) = [] -> lY a (i : Int) K (P ++ gy l [58])) := by
  by_cases hn : l = []
  · subst hn
    rw [MQ, List.append_nil] at *
    rw [List.nil_append, qY] at h
    have hj : lY a (i : Int) K P := aaT hi (by omega) h
    refine ⟨fun c => ?_, fun c => hj⟩
    have hp := List.length_pos_iff.2 c
    refine ⟨by unfold I64; omega, by omega, fun d => ?_, fun d => hj⟩
    rcases hP with rfl | hP
    · exact absurd rfl c
    · exact absurd (by rw [(VZ hP).2]; rfl) d
  · obtain ⟨x, hx, c, hc, hlast⟩ := U3 (s := [58]) hn fun x hx => (hl x hx).1
    have afh : c ≠ 58 := fun e => (hl x hx).2 (e ▸ hc)
    have abY : (P ++ gy l [58]).getLast? = some c := by rw [List.getLast?_append, hlast]; rfl
    obtain ⟨hne, hg⟩ := VZ abY
    have hp := List.length_pos_iff.2 hne
    have hj : lY a (i : Int) K ((P ++ gy l [58]) ++ [58]) := by
      refine aaT hi (by rw [List.length_append]; simp only [List.length_cons, List.length_nil]; omega) ?_
      rw [Iu hn] at h
      simpa [List.append_assoc] using h
    refine ⟨fun _ => ⟨by unfold I64; omega, by omega, fun _ => ⟨by simp only [List.length_cons, List.length_nil]; omega, hj⟩, fun d => ?_⟩, fun q => absurd q hne⟩
    rw [hg] at d
    exact absurd (UInt8.toNat_inj.1 (by show c.toNat = 58; omega)) afh
theorem Xa {a : Ad} {Q : Str -> Prop} (hv : a.1 = true) (h : Q (txt a)) : lu (fun (XH : (Str × Int) -> Prop) (s : Str × Int) => tZ a Q (QW a).1 (QW a).2 (fun rq jI => XH (rq, jI)) s.1 s.2) ([], 0) := by
  obtain ⟨r0, rn, r1, r2, r3⟩ := Lp a
  unfold txt at h
  rw [if_pos hv] at h
  by_cases hc : (rowOf a).2 < 2
  · rw [r0 hc]
    rw [if_pos hc] at h
    refine wK 8 (fun i s => s = gy (wL a 0 i) [58]) rfl fun K i s hi hs hK => ?_
    show tZ a Q (-1) 1 _ s (i : Int)
    unfold tZ
    have hl := GK a 0 i
    refine ⟨fun d => ⟨fun q => by omega, fun _ => ?_⟩, fun d => ?_⟩
    · have := Vm (a := a) (i := i) (by omega) (K := fun rq jI => K (rq, jI)) (P := []) (l := wL a 0 i) (.inl rfl) (fun x hx => ⟨(AY a 0 i x hx).1, (AY a 0 i x hx).2.1⟩) (by rw [List.nil_append]; omega)
        (hK (i + 1) _ (by omega) (by omega) (by rw [List.nil_append, ← KY a (Nat.zero_le _)]))
      rw [List.nil_append, ← hs] at this
      exact this
    · have : i = 8 := by omega
      subst this; rw [hs]; exact h
  · rw [rn hc]
    rw [if_neg hc] at h
    obtain ⟨p, hp⟩ : ∃ p : Nat, (rowOf a).1 = p := ⟨_, (Int.toNat_of_nonneg r1).symm⟩
    obtain ⟨n, hn⟩ : ∃ n : Nat, (rowOf a).2 = n := ⟨_, (Int.toNat_of_nonneg (by omega)).symm⟩
    rw [hp, hn] at h r3 ⊢
    rw [show ((p : Int) + (n : Int)).toNat = p + n by omega, Int.toNat_natCast] at h
    have lH := GK a 0 p
    refine ⟨fun s => ∃ i : Nat, s.2 = i /\ ((i <= p /\ s.1 = gy (wL a 0 i) [58]) ∨ (p + n <= i /\ i <= 8 /\ s.1 = gy (wL a 0 p) [58] ++ [58, 58] ++ gy (wL a (p + n) i) [58])), fun s => (9 - s.2).toNat, ⟨0, rfl, .inl ⟨Nat.zero_le _, rfl⟩⟩, ?_⟩
    rintro ⟨s, _⟩ ⟨i, rfl, hI⟩
    dsimp only at hI ⊢
    unfold tZ
    rcases hI with ⟨hi, rfl⟩ | ⟨hi, hi8, rfl⟩
    · have hl := GK a 0 i
      refine ⟨fun d => ⟨fun q => ?_, fun q => ?_⟩, fun d => by omega⟩
      · have : i = p := by omega
        subst this
        refine ⟨by simp only [List.length_cons, List.length_nil]; omega, by unfold I64; omega, by unfold I64; omega, by unfold I64; omega, ⟨i + n, by omega, .inr ⟨Nat.le_refl _, by omega, ?_⟩⟩, by omega⟩
        rw [OB a (Nat.le_refl _), MQ, List.append_nil]
      · have := Vm (a := a) (i := i) (by omega) (K := fun rq jI => (∃ Xr : Nat, jI = Xr /\ ((Xr <= p /\ rq = gy (wL a 0 Xr) [58]) ∨ (p + n <= Xr /\ Xr <= 8 /\ rq = gy (wL a 0 p) [58] ++ [58, 58] ++ gy (wL a (p + n) Xr) [58]))) /\ (9 - jI).toNat < (9 - (i : Int)).toNat) (P := []) (l := wL a 0 i) (.inl rfl) (fun x hx => ⟨(AY a 0 i x hx).1, (AY a 0 i x hx).2.1⟩) (by rw [List.nil_append]; omega)
          ⟨⟨i + 1, by omega, .inl ⟨by omega, by rw [List.nil_append, ← KY a (Nat.zero_le _)]⟩⟩, by omega⟩
        rw [List.nil_append] at this
        exact this
    · have hl := GK a (p + n) i
      refine ⟨fun d => ⟨fun q => by omega, fun q => ?_⟩, fun d => ?_⟩
      · exact Vm (a := a) (i := i) (by omega) (K := fun rq jI => (∃ Xr : Nat, jI = Xr /\ ((Xr <= p /\ rq = gy (wL a 0 Xr) [58]) ∨ (p + n <= Xr /\ Xr <= 8 /\ rq = gy (wL a 0 p) [58] ++ [58, 58] ++ gy (wL a (p + n) Xr) [58]))) /\ (9 - jI).toNat < (9 - (i : Int)).toNat) (P := gy (wL a 0 p) [58] ++ [58, 58]) (l := wL a (p + n) i) (.inr (by simp)) (fun x hx => ⟨(AY a _ i x hx).1, (AY a _ i x hx).2.1⟩) (by simp only [List.length_append, List.length_cons, List.length_nil]; omega)
          ⟨⟨i + 1, by omega, .inr ⟨by omega, by omega, by rw [← KY a hi]⟩⟩, by omega⟩
      · have : i = 8 := by omega
        subst this; exact h
theorem Hm {a : Ad} {Q : Str -> Prop} (h : Q (txt a)) : uU a Q := by
  refine ⟨fun c => ?_, fun c => ?_⟩
  · have hv : a.1 = false := by simpa using c
    refine wK 4 (fun i s => s = gy (oL a i) [46]) rfl fun K i s hi hs hK => ?_
    have hl := UX a i
    rw [← hs] at hl
    have h8 := EJ a i
    have j1 : ∀ t : Str, t.length <= 100 -> t ++ oU 10 (by8 a i) = gy (oL a (i + 1)) [46] -> i < 4 -> vU a (i : Int) (fun dU bu => K (dU, bu)) t := by
      intro t ht he i4
      have hnl := Jv (b := 10) (by decide) 3 (by8 a i) (by decide) (by omega)
      unfold vU
      rw [Qi a (by omega)]
      exact ⟨by omega, by unfold I64; omega, UY (b := 10) (by decide) (by omega) ⟨by omega, by unfold I64; omega, hK (i + 1) _ (by omega) (by omega) he⟩⟩
    show yO a Q _ s (i : Int)
    unfold yO
    refine ⟨fun d => ⟨fun q => ⟨by simp only [List.length_cons, List.length_nil]; omega, j1 _ (by simp only [List.length_append, List.length_cons, List.length_nil]; omega) ?_ (by omega)⟩, fun q => j1 _ (by omega) ?_ (by omega)⟩, fun d => ?_⟩
    · have hne : oL a i ≠ [] := by intro e; have := congrArg List.length e; rw [Pq] at this; simp at this; omega
      rw [Su, Iu hne, hs]
    · have : i = 0 := by omega
      subst this
      rw [hs, Su]
      show _ = gy [oU 10 (by8 a 0)] [46]
      rw [qY]; rfl
    · have : i = 4 := by omega
      subst this
      unfold txt at h
      rw [if_neg (by rw [hv]; decide)] at h
      rw [hs]; exact h
  · have hv : a.1 = true := by simpa using c
    have hp := Xa (Q := Q) hv h
    refine ⟨fun s => ∃ f i : Nat, s.2.2 = i /\ 8 <= i + f /\ i <= 9 /\ UE (zs a) f (s.1, s.2.1) i = QW a, fun s => (9 - s.2.2).toNat, ⟨8, 0, rfl, by omega, by omega, rfl⟩, ?_⟩
    rintro ⟨at_, most, _⟩ ⟨f, i, rfl, hf, hi9, he⟩
    dsimp only at he ⊢
    unfold BZ
    refine ⟨fun c => ?_, fun c => ?_⟩
    · have i8 : i < 8 := by omega
      have hr := VD (zs a) i
      rw [Kv] at hr
      refine ⟨fun k => ∃ j : Nat, k = j /\ i + j <= 8 /\ Ic (zs a) i = j + Ic (zs a) (i + j), fun k => (9 - k).toNat, ⟨0, rfl, by omega, by simp⟩, ?_⟩
      rintro _ ⟨j, rfl, hj, hjr⟩
      have fin : j = Ic (zs a) i -> vT at_ most (i : Int) (fun bG mP bu => (∃ f i : Nat, bu = i /\ 8 <= i + f /\ i <= 9 /\ UE (zs a) f (bG, mP) i = QW a) /\ (9 - bu).toNat < (9 - (i : Int)).toNat) (j : Int) := by
        intro ej
        have ef : ∃ f', f = f' + 1 := ⟨f - 1, by omega⟩
        obtain ⟨f', rfl⟩ := ef
        rw [UE, if_neg (by omega), ← ej] at he
        refine ⟨fun cm => ⟨by unfold I64; omega, ⟨f', i + 1, by omega, by omega, by omega, ?_⟩, by omega⟩, fun cm => ⟨by unfold I64; omega, ⟨f', i + 1, by omega, by omega, by omega, ?_⟩, by omega⟩⟩
        · rw [if_pos cm] at he; exact he
        · rw [if_neg cm] at he; exact he
      unfold BX
      refine ⟨by unfold I64; omega, fun c2 => ?_, fun c2 => fin ?_⟩
      · have i2 : i + j < (zs a).length := by rw [Kv]; omega
        have e1 : 2 * ((i : Int) + (j : Int)) = ((2 * (i + j) : Nat) : Int) := by omega
        have e2 : 2 * ((i : Int) + (j : Int)) + 1 = ((2 * (i + j) + 1 : Nat) : Int) := by omega
        rw [e2, e1, Qi a (by omega), Qi a (by omega)]
        have hz : wd a (i + j) = 0 ↔ by8 a (2 * (i + j)) = 0 /\ by8 a (2 * (i + j) + 1) = 0 := by unfold wd; omega
        have no : ¬ wd a (i + j) = 0 -> j = Ic (zs a) i := by
          intro q
          rw [hjr, JS i2, Oz, if_neg (by simpa using q)]; omega
        refine ⟨by unfold I64; omega, by omega, fun c3 => ⟨by unfold I64; omega, by omega, fun c4 => ⟨by unfold I64; omega, ⟨j + 1, by omega, by omega, ?_⟩, (by show (9 - ((j : Int) + 1)).toNat < (9 - (j : Int)).toNat; omega)⟩, fun c4 => fin (no fun q => ?_)⟩, fun c3 => fin (no fun q => ?_)⟩
        · rw [hjr, JS i2, Oz, if_pos (decide_eq_true (hz.2 ⟨by omega, by omega⟩)), Nat.add_assoc i j 1]; omega
        · have := (hz.1 q).2; omega
        · have := (hz.1 q).1; omega
      · rw [hjr, Tn (by rw [Kv]; omega)]; omega
    · rw [ZW _ (by omega)] at he
      rw [← he] at hp; exact hp
theorem YH {l : Str} (h : l.length = 16) : l = [l.getD 0 0, l.getD 1 0, l.getD 2 0, l.getD 3 0, l.getD 4 0, l.getD 5 0, l.getD 6 0, l.getD 7 0, l.getD 8 0, l.getD 9 0, l.getD 10 0, l.getD 11 0, l.getD 12 0, l.getD 13 0, l.getD 14 0, l.getD 15 0] := by
  match l, h with
  | [_, _, _, _, _, _, _, _, _, _, _, _, _, _, _, _], _ => rfl
theorem XU (x : UInt8) : kZ (x.toNat : Int) = x := by
  have h := lQ (x.toNat : Int)
  have := x.toNat_lt
  exact UInt8.toNat_inj.1 (by omega)
theorem LU (a : Ad) (i : Nat) : kZ ((by8 a i : Nat) : Int) = a.2.1.getD i 0 := XU _
theorem abO (a : Ad) (k : Nat) : [kZ (((wd a k : Nat) : Int).fdiv 256), kZ ((wd a k : Nat) : Int)] = [a.2.1.getD (2 * k) 0, a.2.1.getD (2 * k + 1) 0] := by
  have h1 := EJ a (2 * k)
  have h2 := EJ a (2 * k + 1)
  have e1 : ((wd a k : Nat) : Int).fdiv 256 = ((by8 a (2 * k) : Nat) : Int) := by
    rw [Int.fdiv_eq_ediv_of_nonneg _ (by decide)]; unfold wd; omega
  have e2 : kZ ((wd a k : Nat) : Int) = kZ ((by8 a (2 * k + 1) : Nat) : Int) := by
    have q1 := lQ ((wd a k : Nat) : Int)
    have q2 := lQ ((by8 a (2 * k + 1) : Nat) : Int)
    refine UInt8.toNat_inj.1 ?_
    unfold wd at *; omega
  rw [e1, e2, LU, LU]
def bOf (a : Ad) : Str := if a.1 = true then a.2.1 else a.2.1.take 4
def UB (a : Ad) (i j : Nat) : Str := (List.range' i (j - i)).flatMap fun k => [a.2.1.getD (2 * k) 0, a.2.1.getD (2 * k + 1) 0]
theorem VA (a : Ad) : UB a 0 8 = a.2.1 := (YH a.2.2).symm
theorem Vz (a : Ad) {i j k : Nat} (h : i <= j) (h2 : j <= k) : UB a i j ++ UB a j k = UB a i k := by
  unfold UB
  rw [← List.flatMap_append]
  congr 1
  have : List.range' i (j - i) ++ List.range' (i + 1 * (j - i)) (k - j) = List.range' i ((j - i) + (k - j)) := List.range'_append
  rw [show i + 1 * (j - i) = j by omega, show (j - i) + (k - j) = k - i by omega] at this
  exact this
theorem RS (a : Ad) (i j : Nat) : (UB a i j).length = 2 * (j - i) := by
  unfold UB
  generalize j - i = m
  induction m generalizing i with
  | zero => rfl
  | succ m ih => rw [List.range'_succ, List.flatMap_cons, List.length_append, ih]; simp only [List.length_cons, List.length_nil]; omega
theorem MC (n : Nat) : Qu [0] (n : Int) = List.replicate n 0 := by
  unfold Qu
  rw [Int.toNat_natCast]
  induction n with
  | zero => rfl
  | succ n ih => rw [Lib.repeatL, ih]; rfl
theorem Yc (a : Ad) {i j : Nat} (h : ∀ k, i <= k -> k < j -> wd a k = 0) : UB a i j = List.replicate (2 * (j - i)) 0 := by
  rw [List.eq_replicate_iff]
  refine ⟨RS a i j, fun x hx => ?_⟩
  unfold UB at hx
  obtain ⟨k, hk, hx⟩ := List.mem_flatMap.1 hx
  rw [List.mem_range'_1] at hk
  have hw := h k hk.1 (by omega)
  unfold wd by8 at hw
  simp only [List.mem_cons, List.not_mem_nil, or_false] at hx
  rcases hx with rfl | rfl
  · exact UInt8.toNat_inj.1 (by show _ = 0; omega)
  · exact UInt8.toNat_inj.1 (by show _ = 0; omega)
theorem WX : ∀ a b c d e f g h : Bool, let Z := [a, b, c, d, e, f, g, h]; let p := Tq Z 8 (0, 1) 0;
    ¬ p.2 < 2 -> ∀ k < 8, p.1 <= ((k : Nat) : Int) -> ((k : Nat) : Int) < p.1 + p.2 -> Z.getD k false = true := by decide +kernel
theorem RY (a : Ad) (h : ¬ (rowOf a).2 < 2) {k : Nat} (h1 : (rowOf a).1 <= (k : Int)) (h2 : (k : Int) < (rowOf a).1 + (rowOf a).2) : wd a k = 0 := by
  obtain ⟨_, _, r1, r2, r3⟩ := Lp a
  have hk : k < 8 := by omega
  have := WX _ _ _ _ _ _ _ _ h k hk h1 h2
  have hl : k < (zs a).length := by rw [Kv]; exact hk
  have e : (zs a).getD k false = decide (wd a k = 0) := by rw [List.getD_eq_getElem?_getD, List.getElem?_eq_getElem hl]; exact Oz a hl
  have : (zs a).getD k false = true := this
  rw [e] at this
  exact of_decide_eq_true this
theorem adi {s : Str} (hl : s.length <= 800) {Q : Str -> Bool -> Prop} (h : ∀ (r : Str) (ok : Bool), r.length <= 2 * (s.length + 1) -> (∀ (a : Ad) (i j : Nat), s = gy (wL a i j) [58] -> r = UB a i j /\ ok = true) -> Q r ok) : uh s [58] 16 2 Q := by
  refine Pv (b := 16) (w := 16) (.inr ⟨rfl, by decide, rfl, rfl⟩) (by decide) (fun v => [kZ (v.fdiv 256), kZ v]) (fun v Q h => Z5 h) (fun v => by simp) (by omega) fun r ok hr h0 hns => h r ok hr fun a i j hs => ?_
  by_cases hij : i < j
  · have hne : wL a i j ≠ [] := by intro e; have := congrArg List.length e; rw [RF] at this; simp at this; omega
    have hg := AY a i j
    have e3 : ((List.range' i (j - i)).map (wd a)).flatMap (fun (n : Nat) => [kZ ((n : Int).fdiv 256), kZ (n : Int)]) = UB a i j := by
      rw [List.flatMap_map]
      unfold UB
      exact congrArg (fun f => List.flatMap f (List.range' i (j - i))) (funext fun k => abO a k)
    rw [← e3]
    exact hns ((List.range' i (j - i)).map (wd a)) (by intro n hn; obtain ⟨k, _, rfl⟩ := List.mem_map.1 hn; exact Vt a k) (by rw [hs]; exact TK hne fun x hx => (hg x hx).1) (by rw [hs, Ib hne fun x hx => (hg x hx).2.1]; unfold wL; rw [List.map_map]; rfl)
  · have e0 : wL a i j = [] := OB a (by omega)
    have e3 : UB a i j = [] := by unfold UB; rw [show j - i = 0 by omega]; rfl
    rw [e3]
    exact h0 (by rw [hs, e0]; rfl)
theorem Ue (s sep : Str) : (lW s sep).1.length <= s.length /\ (lW s sep).2.1.length <= s.length := by
  unfold lW Lib.cut
  split
  · simp only [List.length_take, List.length_drop]; omega
  · simp
theorem NF {c : UInt8} : ∀ {h : Str}, okH c h -> Lib.index h [c, c] = -1
  | [], _ => rfl
  | [a], k => by rw [Bo]; simp [List.isPrefixOf, Lib.index]
  | a :: b :: r, k => by
    rw [Bo, NF k.2]
    have : ([c, c].isPrefixOf (a :: b :: r)) = false := by
      simp [List.isPrefixOf]
      intro e1 e2
      exact k.1 ⟨e1.symm, e2.symm⟩
    rw [this]; rfl
theorem Ud {c : UInt8} {h : Str} (k : okH c h) : lW h [c, c] = (h, [], false) := by
  unfold lW Lib.cut
  rw [NF k, if_neg (by omega)]
theorem XX (a : Ad) (h : a.1 = true) : (58 : UInt8) ∈ txt a := by
  unfold txt
  rw [if_pos h]
  split
  · have hne : wL a 0 7 ≠ [] := by intro e; have := congrArg List.length e; rw [RF] at this; simp at this
    rw [KY a (k := 7) (Nat.zero_le _), Iu hne]; simp
  · simp
theorem ZO (a : Ad) (h : a.1 = false) : (58 : UInt8) ∉ txt a := by
  unfold txt
  rw [if_neg (by rw [h]; decide)]
  intro q
  rcases BD q with q | ⟨x, hx, q⟩
  · simp at q
  · exact (Sv a 4 x hx).2.2.1 q
theorem UU {s : Str} (hl : s.length <= 800) {Q : Ad -> Int -> Prop} (h : ∀ b ok, (∀ a, s = txt a -> b = bOf a /\ ok = true) -> uY s Q b ok) : wW s Q := by
  refine Pv (b := 10) (w := 8) (.inl ⟨rfl, by decide, rfl, rfl⟩) (by decide) (fun v => [kZ v]) (fun v Q h => Z7 h) (fun v => by simp) (by omega) fun r ok hr _ hns => ⟨by omega, fun c => ?_, fun c => h _ _ fun a e => ?_⟩
  · rw [adx] at c
    have c := of_decide_eq_true c
    obtain ⟨cl1, cl2⟩ := Ue s [58, 58]
    refine ⟨by omega, adi (by omega) fun r1 ok1 l1 p1 => adi (by omega) fun r2 ok2 l2 p2 => ?_⟩
    have fin : ∀ (b : Str) (ok : Bool), (ok1 = true -> ok = ok2) -> ((lW s [58, 58]).2.2 = false -> b = r1 ++ r2) -> ((lW s [58, 58]).2.2 = true -> 0 < 16 - (r1.length : Int) - (r2.length : Int) -> b = (r1 ++ Qu [0] (16 - (r1.length : Int) - (r2.length : Int))) ++ r2) -> uY s Q b ok := by
      intro b ok hok hb0 hb1
      refine h _ _ fun a e => ?_
      have hv : a.1 = true := by
        cases hv : a.1
        · exact absurd (e ▸ c) (ZO a hv)
        · rfl
      have ht : txt a = (if (rowOf a).2 < 2 then gy (wL a 0 8) [58] else gy (wL a 0 (rowOf a).1.toNat) [58] ++ [58, 58] ++ gy (wL a ((rowOf a).1 + (rowOf a).2).toNat 8) [58]) := by unfold txt; rw [if_pos hv]
      rw [← e] at ht
      unfold bOf
      rw [if_pos hv]
      obtain ⟨_, _, q1, q2, q3⟩ := Lp a
      by_cases hr2 : (rowOf a).2 < 2
      · rw [if_pos hr2] at ht
        have hc := Ud (Ph fun x hx => ⟨(AY a 0 8 x hx).1, (AY a 0 8 x hx).2.1⟩)
        rw [← ht] at hc
        obtain ⟨e1, o1⟩ := p1 a 0 8 (by rw [hc]; exact ht)
        obtain ⟨e2, o2⟩ := p2 a 8 8 (by rw [hc]; rfl)
        have e8 : UB a 8 8 = [] := rfl
        rw [hb0 (by rw [hc]), hok o1, o2, e1, e2, e8, List.append_nil, VA]
        exact ⟨rfl, rfl⟩
      · rw [if_neg hr2] at ht
        obtain ⟨p, hp⟩ : ∃ p : Nat, (rowOf a).1 = p := ⟨_, (Int.toNat_of_nonneg q1).symm⟩
        obtain ⟨n, hn⟩ : ∃ n : Nat, (rowOf a).2 = n := ⟨_, (Int.toNat_of_nonneg (by omega)).symm⟩
        have hz : ∀ k, p <= k -> k < p + n -> wd a k = 0 := fun k h1 h2 => RY a hr2 (by omega) (by omega)
        rw [hp, hn] at ht q3
        rw [show ((p : Int) + (n : Int)).toNat = p + n by omega, Int.toNat_natCast] at ht
        have hc := acG (t := gy (wL a (p + n) 8) [58]) (Ph fun x hx => ⟨(AY a 0 p x hx).1, (AY a 0 p x hx).2.1⟩)
        rw [show gy (wL a 0 p) [58] ++ 58 :: 58 :: gy (wL a (p + n) 8) [58] = s by rw [ht]; simp] at hc
        obtain ⟨e1, o1⟩ := p1 a 0 p (by rw [hc])
        obtain ⟨e2, o2⟩ := p2 a (p + n) 8 (by rw [hc])
        have f1 := RS a 0 p
        have f2 := RS a (p + n) 8
        have hb := hb1 (by rw [hc]) (by rw [e1, e2, f1, f2]; omega)
        rw [hok o1, o2]
        refine ⟨?_, rfl⟩
        rw [hb, e1, e2, f1, f2]
        have ez : (16 - ((2 * (p - 0) : Nat) : Int) - ((2 * (8 - (p + n)) : Nat) : Int)) = ((2 * ((p + n) - p) : Nat) : Int) := by omega
        rw [ez, MC, ← Yc a (i := p) (j := p + n) hz, Vz a (Nat.zero_le _) (by omega), Vz a (Nat.zero_le _) (by omega), VA]
    have j1 : ∀ x : Str, x.length <= 10000 -> ((lW s [58, 58]).2.2 = false -> x = r1) -> ((lW s [58, 58]).2.2 = true -> 0 < 16 - (r1.length : Int) - (r2.length : Int) -> x = r1 ++ Qu [0] (16 - (r1.length : Int) - (r2.length : Int))) -> zn (fun lh uG => uY s Q lh uG) ok1 r2 ok2 x := by
      intro x hx h0 h1
      refine ⟨by omega, fun o => fin _ _ (fun _ => rfl) (fun q => by rw [h0 q]) (fun q q2 => by rw [h1 q q2]), fun o => fin _ _ (fun q => by rw [o] at q; cases q) (fun q => by rw [h0 q]) (fun q q2 => by rw [h1 q q2])⟩
    refine ⟨by unfold I64; omega, by unfold I64; omega, fun cf => ⟨fun d => ⟨by have := of_decide_eq_true d; simp only [List.length_cons, List.length_nil]; omega, ?_, ?_⟩, fun d => j1 _ (by omega) (fun q => absurd (cf.symm.trans q) (by decide)) (fun _ q => by have := of_decide_eq_false d; omega)⟩, fun cf => ⟨fun d => (by cases d), fun _ => j1 _ (by omega) (fun _ => rfl) (fun q => absurd (cf.symm.trans q) (by decide))⟩⟩
    · have d := of_decide_eq_true d
      obtain ⟨k, hk⟩ : ∃ k : Nat, 16 - (r1.length : Int) - (r2.length : Int) = k := ⟨_, (Int.toNat_of_nonneg (by omega)).symm⟩
      rw [hk, MC, List.length_replicate]; omega
    · have d := of_decide_eq_true d
      refine j1 _ ?_ (fun q => absurd (cf.symm.trans q) (by decide)) (fun _ _ => rfl)
      obtain ⟨k, hk⟩ : ∃ k : Nat, 16 - (r1.length : Int) - (r2.length : Int) = k := ⟨_, (Int.toNat_of_nonneg (by omega)).symm⟩
      rw [hk, MC, List.length_append, List.length_replicate]; omega
  · rw [adx] at c
    have c := of_decide_eq_false c
    have hv : a.1 = false := by
      cases hv : a.1
      · rfl
      · exact absurd (e ▸ XX a hv) c
    have ht : txt a = gy (oL a 4) [46] := by unfold txt; rw [if_neg (by rw [hv]; decide)]
    have hg := Sv a 4
    have hne : oL a 4 ≠ [] := by intro e; have := congrArg List.length e; rw [Pq] at this; simp at this
    unfold bOf
    rw [if_neg (by rw [hv]; decide)]
    have e3 : ((List.range 4).map (by8 a)).flatMap (fun (n : Nat) => [kZ (n : Int)]) = a.2.1.take 4 := by
      rw [YH a.2.2, List.flatMap_map]
      show [kZ _, kZ _, kZ _, kZ _] = _
      rw [LU, LU, LU, LU]; rfl
    rw [← e3]
    exact hns ((List.range 4).map (by8 a)) (by intro n hn; obtain ⟨k, _, rfl⟩ := List.mem_map.1 hn; exact EJ a k) (by rw [e, ht]; exact TK hne fun x hx => (hg x hx).1) (by rw [e, ht, Ib hne fun x hx => (hg x hx).2.1]; unfold oL; rw [List.map_map]; rfl)
def JD (a : Ad) : Prop := a.1 = true ∨ a.2.1.drop 4 = List.replicate 12 0
def rdA (b : Str) : Ad := (decide ((b.length : Int) = 16), LG (default : Ba 16) b)
theorem Zm : (default : Ba 16).1 = List.replicate 16 0 := rfl
theorem Yk {b : Str} (h : b.length = 4 ∨ b.length = 16) : JD (rdA b) := by
  unfold JD rdA
  rcases h with h | h
  · right
    show (b.take 16 ++ (default : Ba 16).1.drop (b.take 16).length).drop 4 = _
    rw [Zm, List.take_of_length_le (by omega), h, List.drop_left' h]; rfl
  · left
    exact decide_eq_true (by omega)
theorem UG {a : Ad} (h : JD a) : rdA (bOf a) = a /\ ((bOf a).length = 4 ∨ (bOf a).length = 16) := by
  obtain ⟨v, X⟩ := a
  have hX := X.2
  cases v
  · have hd : X.1.drop 4 = List.replicate 12 0 := by rcases h with h | h; cases h; exact h
    have hl : (X.1.take 4).length = 4 := by rw [List.length_take]; omega
    refine ⟨?_, .inl hl⟩
    show (decide (((X.1.take 4).length : Int) = 16), LG (default : Ba 16) (X.1.take 4)) = _
    rw [hl]
    refine Prod.ext rfl (Subtype.ext ?_)
    show (X.1.take 4).take 16 ++ (default : Ba 16).1.drop ((X.1.take 4).take 16).length = X.1
    rw [List.take_of_length_le (by omega), hl, Zm]
    conv => rhs; rw [← List.take_append_drop 4 X.1, hd]
    rfl
  · refine ⟨?_, .inr hX⟩
    show (decide ((X.1.length : Int) = 16), LG (default : Ba 16) X.1) = _
    refine Prod.ext (decide_eq_true (by omega)) (Subtype.ext ?_)
    show X.1.take 16 ++ (default : Ba 16).1.drop (X.1.take 16).length = X.1
    rw [List.take_of_length_le (by omega), List.drop_eq_nil_of_le (by rw [Zm, List.length_replicate]; omega), List.append_nil]
theorem ZX {b : Str} {Q : Ad -> Int -> Prop} (h1 : b.length = 4 ∨ b.length = 16 -> Q (rdA b) 0) (h2 : ¬ (b.length = 4 ∨ b.length = 16) -> Q (false, (default : Ba 16)) 2) : GH b Q := by
  refine ⟨fun c => ⟨fun d => h2 (by omega), fun d => h1 (by omega)⟩, fun c => h1 (by omega)⟩
theorem Zp {s : Str} {n : Nat} {Q : Str -> Prop} (h : ∀ r : Str, r.length <= n -> Q r) : y7 s (n : Int) Q := by
  refine ⟨fun c => ⟨by omega, h _ ?_⟩, fun c => h _ (by omega)⟩
  show (cut s 0 (n : Int)).length <= n
  unfold cut; simp; omega
theorem zA (a b : UInt8) (x y : Str) : Dt (a :: x) (b :: y) = if a < b then -1 else if b < a then 1 else Dt x y := by
  unfold Dt; rw [Lib.compareBytes]
theorem MB : ∀ a : Str, Dt a a = 0
  | [] => rfl
  | a :: x => by rw [zA, if_neg (UInt8.lt_irrefl a), if_neg (UInt8.lt_irrefl a), MB x]
theorem RH {a b : UInt8} (h : ¬ a < b) (k : ¬ b < a) : a = b := by
  rw [UInt8.lt_iff_toNat_lt] at h k; exact UInt8.toNat_inj.1 (by omega)
theorem VB : ∀ a b : Str, Dt a b = 0 -> a = b
  | [], [], _ => rfl
  | [], _ :: _, h => by simp [Dt, Lib.compareBytes] at h
  | _ :: _, [], h => by simp [Dt, Lib.compareBytes] at h
  | a :: x, b :: y, h => by
    rw [zA] at h
    split at h
    · omega
    · split at h
      · omega
      · rename_i p q; rw [RH p q, VB x y h]
theorem QS : ∀ a b : Str, Dt b a = - Dt a b
  | [], [] => rfl
  | [], _ :: _ => rfl
  | _ :: _, [] => rfl
  | a :: x, b :: y => by
    rw [zA, zA, QS x y]
    have : a < b -> ¬ b < a := fun h k => by rw [UInt8.lt_iff_toNat_lt] at h k; omega
    by_cases p : a < b
    · rw [if_pos p, if_neg (this p), if_pos p]; rfl
    · by_cases q : b < a
      · rw [if_pos q, if_neg p, if_pos q]
      · rw [if_neg q, if_neg p, if_neg p, if_neg q]
theorem OU : ∀ a b c : Str, Dt a b < 0 -> Dt b c < 0 -> Dt a c < 0
  | [], [], _, h, _ => absurd h (by decide)
  | _, [], [], _, h => absurd h (by decide)
  | [], _ :: _, [], _, h => by simp [Dt, Lib.compareBytes] at h
  | [], _ :: _, _ :: _, _, _ => by simp [Dt, Lib.compareBytes]
  | _ :: _, [], _, h, _ => by simp [Dt, Lib.compareBytes] at h
  | _ :: _, _ :: _, [], _, h => by simp [Dt, Lib.compareBytes] at h
  | a :: x, b :: y, c :: z, h, k => by
    rw [zA] at h k ⊢
    by_cases p : a < b
    · by_cases q : b < c
      · rw [if_pos (by rw [UInt8.lt_iff_toNat_lt] at *; omega)]; decide
      · rw [if_neg q] at k
        by_cases r : c < b
        · rw [if_pos r] at k; omega
        · have := RH q r; subst this; rw [if_pos p]; decide
    · rw [if_neg p] at h
      by_cases q : b < a
      · rw [if_pos q] at h; omega
      · rw [if_neg q] at h
        have := RH p q; subst this
        by_cases r : a < c
        · rw [if_pos r]; decide
        · rw [if_neg r] at k ⊢
          by_cases s : c < a
          · rw [if_pos s] at k; omega
          · rw [if_neg s] at k ⊢; exact OU x y z h k
theorem QR : ∀ (i : Nat) (x y : Str), x.take i = y.take i -> i <= x.length -> i <= y.length -> Dt x y = Dt (x.drop i) (y.drop i)
  | 0, _, _, _, _, _ => rfl
  | i + 1, [], _, _, h, _ => by simp at h
  | i + 1, _ :: _, [], _, _, h => by simp at h
  | i + 1, a :: x, b :: y, h, h1, h2 => by
    simp only [List.take_succ_cons, List.cons.injEq] at h
    obtain ⟨rfl, h⟩ := h
    rw [zA, if_neg (UInt8.lt_irrefl a), if_neg (UInt8.lt_irrefl a)]
    exact QR i x y h (by simpa using h1) (by simpa using h2)
def aw (a : Ad) : Nat := if a.1 then 16 else 4
def ak (a : Ad) : Str := (if a.1 then 1 else 0) :: a.2.1.take (aw a)
def xH (a b : Ad) : Int := Dt (ak a) (ak b)
def rU (a : Ad) : Bool := a.1 || decide (a.2.1.drop 4 = List.replicate 12 0)
def Vq (a b : Ad) : Prop := xH a b < 0
theorem Vp (a : Ad) : ¬ Vq a a := by unfold Vq xH; rw [MB]; omega
theorem JY (a b c : Ad) : Vq a b -> Vq b c -> Vq a c := OU _ _ _
theorem XG (a b : Ad) : xH b a = - xH a b := QS _ _
theorem aaC {a b : Ad} (ha : rU a = true) (hb : rU b = true) (h : xH a b = 0) : a = b := by
  have h := VB _ _ h
  unfold ak aw at h
  rw [List.cons.injEq] at h
  obtain ⟨h1, h2⟩ := h
  obtain ⟨va, ⟨la, ae9⟩⟩ := a
  obtain ⟨vb, ⟨lb, ae8⟩⟩ := b
  simp only at h1 h2
  have hv : va = vb := by cases va <;> cases vb <;> simp_all
  subst hv
  cases va
  · simp only [rU, Bool.false_or, decide_eq_true_eq] at ha hb
    simp only [Bool.false_eq_true, if_false] at h2
    have : la = lb := by rw [← List.take_append_drop 4 la, ← List.take_append_drop 4 lb, h2, ha, hb]
    subst this; rfl
  · simp only [if_true] at h2
    rw [List.take_of_length_le (by omega), List.take_of_length_le (by omega)] at h2
    subst h2; rfl
theorem Wy {a b : Ad} {Q : Int -> Prop} (h : Q (xH a b)) : Dz a b Q := by
  obtain ⟨va, ⟨la, ae9⟩⟩ := a
  obtain ⟨vb, ⟨lb, ae8⟩⟩ := b
  unfold xH ak aw at h
  unfold Dz En Eo C9
  cases va <;> cases vb <;> simp [zA, cut] at h ⊢ <;> exact h
theorem ZU {x y : Str} {i : Nat} (h : x.take i = y.take i) (h1 : i < x.length) (h2 : i < y.length) : Dt x y = if x[i] < y[i] then -1 else if y[i] < x[i] then 1 else Dt (x.drop (i + 1)) (y.drop (i + 1)) := by
  rw [QR i x y h (by omega) (by omega), List.drop_eq_getElem_cons h1, List.drop_eq_getElem_cons h2, zA]
theorem Uj {n : Nat} (x : Ba n) {i : Nat} (h : i < n) : b8 x (i : Int) = ((x.1[i]'(by rw [x.2]; exact h)).toNat : Int) := by
  unfold b8; rw [iZ (by rw [x.2]; exact h)]
theorem XV {a b : UInt8} : ((a.toNat : Nat) : Int) < (b.toNat : Int) ↔ a < b := by rw [UInt8.lt_iff_toNat_lt]; omega
theorem aav {a b : Ad} {Q : Int -> Prop} (h : Q (xH a b)) : Ed a b Q := by
  unfold Ed
  refine ⟨fun c => ⟨fun d => ?_, fun d => ?_⟩, fun c => ?_⟩
  · have : a.1 = false := by simp [d] at c; exact c
    have e : xH a b = -1 := by unfold xH ak; rw [this, d]; rfl
    rw [e] at h; exact h
  · have : a.1 = true := by simp [d] at c; exact c
    have e : xH a b = 1 := by unfold xH ak; rw [this, d]; rfl
    rw [e] at h; exact h
  · have hv : a.1 = b.1 := by simpa using c
    have e : xH a b = Dt (a.2.1.take (aw a)) (b.2.1.take (aw b)) := by
      unfold xH ak; rw [hv, zA, if_neg (UInt8.lt_irrefl _), if_neg (UInt8.lt_irrefl _)]
    have hw : aw b = aw a := by unfold aw; rw [hv]
    have hw16 : aw a <= 16 := by unfold aw; split <;> omega
    have hla : (a.2.1.take (aw a)).length = aw a := by rw [List.length_take, a.2.2]; omega
    have hlb : (b.2.1.take (aw a)).length = aw a := by rw [List.length_take, b.2.2]; omega
    rw [e, hw] at h
    have hend : ∀ i, i = aw a -> a.2.1.take i = b.2.1.take i -> Q 0 := by
      rintro i rfl hi
      rw [hi, MB] at h; exact h
    refine yS (aw a) (fun i => a.2.1.take i = b.2.1.take i) (by simp) fun K i hi hI hK => ?_
    show Cc _ _ _ _ _
    have step : i < aw a -> zK a b Q (i : Int) K := by
      intro hlt
      have h16 : i < 16 := by omega
      unfold zK
      rw [Uj a.2 h16, Uj b.2 h16]
      have hx : (a.2.1.take (aw a)).take i = (b.2.1.take (aw a)).take i := by rw [List.take_take, List.take_take, Nat.min_eq_left (by omega)]; exact hI
      have hc := ZU hx (by omega) (by omega)
      rw [List.getElem_take, List.getElem_take] at hc
      refine ⟨by (first | omega | (unfold I64; omega) | (simp only [List.length_append, List.length_cons, List.length_nil, List.length_take, List.length_drop] at *; omega) | (unfold I64; simp only [List.length_append, List.length_cons, List.length_nil, List.length_take, List.length_drop] at *; omega)), fun q => ?_, fun q => ⟨fun r => ?_, fun r => ⟨by (first | omega | (unfold I64; omega) | (simp only [List.length_append, List.length_cons, List.length_nil, List.length_take, List.length_drop] at *; omega) | (unfold I64; simp only [List.length_append, List.length_cons, List.length_nil, List.length_take, List.length_drop] at *; omega)), hK (i + 1) (by omega) (by omega) ?_⟩⟩⟩
      · rw [hc, if_pos (XV.1 q)] at h; exact h
      · rw [hc, if_neg (fun k => q (XV.2 k)), if_pos (XV.1 r)] at h; exact h
      · rw [List.take_succ_eq_append_getElem (by rw [a.2.2]; omega), List.take_succ_eq_append_getElem (by rw [b.2.2]; omega), hI, RH (fun k => q (XV.2 k)) (fun k => r (XV.2 k))]
    unfold Cc
    have hwt : a.1 = true -> aw a = 16 := fun q => by unfold aw; rw [q]; rfl
    have hwf : a.1 = false -> aw a = 4 := fun q => by unfold aw; rw [q]; rfl
    refine ⟨fun q => ⟨fun r => step (by have := hwt r; omega), fun r => ⟨fun s => step (by have := hwf r; omega), fun s => hend i (by have := hwf r; omega) hI⟩⟩, fun q => hend i (by omega) hI⟩
theorem PL {a : Ad} {Q : Bool -> Prop} (h : Q (rU a)) : zJ a Q := by
  refine JV (s0 := (4 : Int)) (fun s => s) 4 16 (fun i _ => 4 <= i /\ (a.1 = false -> ∀ k (hk : k < 16), 4 <= k -> k < i -> a.2.1[k]'(by rw [a.2.2]; exact hk) = 0)) rfl (by omega) ⟨by omega, fun _ k _ h1 h2 => by omega⟩ ?_
  rintro K i _ rfl hi ⟨h4, hz⟩ hK
  show Az _ _ _ _
  unfold Az
  refine ⟨fun c => ⟨fun d => ⟨by (first | omega | (unfold I64; omega) | (simp only [List.length_append, List.length_cons, List.length_nil, List.length_take, List.length_drop] at *; omega) | (unfold I64; simp only [List.length_append, List.length_cons, List.length_nil, List.length_take, List.length_drop] at *; omega)), fun q => ?_, fun q => ⟨by (first | omega | (unfold I64; omega) | (simp only [List.length_append, List.length_cons, List.length_nil, List.length_take, List.length_drop] at *; omega) | (unfold I64; simp only [List.length_append, List.length_cons, List.length_nil, List.length_take, List.length_drop] at *; omega)), hK (i + 1) _ rfl (by omega) (by omega) ⟨by omega, fun v k hk h1 h2 => ?_⟩⟩⟩, fun d => ⟨by (first | omega | (unfold I64; omega) | (simp only [List.length_append, List.length_cons, List.length_nil, List.length_take, List.length_drop] at *; omega) | (unfold I64; simp only [List.length_append, List.length_cons, List.length_nil, List.length_take, List.length_drop] at *; omega)), hK (i + 1) _ rfl (by omega) (by omega) ⟨by omega, fun v => by simp [v] at d⟩⟩⟩, fun c => ?_⟩
  · have adw : i < 16 := by omega
    rw [Uj a.2 adw] at q
    have : rU a = false := by
      have hv : a.1 = false := by simpa using d
      unfold rU; rw [hv, Bool.false_or, decide_eq_false_iff_not]
      intro e
      have h5 : (a.2.1.drop 4)[i - 4]? = (List.replicate 12 (0 : UInt8))[i - 4]? := by rw [e]
      rw [List.getElem?_drop, show 4 + (i - 4) = i by omega, List.getElem?_eq_getElem (by rw [a.2.2]; exact adw), List.getElem?_replicate, if_pos (by omega)] at h5
      simp only [Option.some.injEq] at h5
      rw [h5] at q; exact q rfl
    rw [this] at h; exact h
  · by_cases e : k < i
    · exact hz v k hk h1 e
    · have : k = i := by omega
      subst this
      rw [Uj a.2 hk] at q
      exact UInt8.toNat_inj.1 (by show _ = 0; omega)
  · have : rU a = true := by
      unfold rU
      cases hv : a.1 with
      | true => rfl
      | false =>
        rw [Bool.false_or, decide_eq_true_eq]
        apply List.ext_getElem
        · rw [List.length_drop, a.2.2, List.length_replicate]
        · intro k h1 h2
          rw [List.length_replicate] at h2
          rw [List.getElem_drop, List.getElem_replicate]
          exact hz hv (4 + k) (by omega) (by omega) (by omega)
    rw [this] at h; exact h
structure AX (l : List Ad) : Prop where
  rise : l.Pairwise Vq
  good : ∀ x ∈ l, rU x = true
theorem AX.nil : AX [] := ⟨List.Pairwise.nil, by simp⟩
theorem AX.ext {l m : List Ad} (hl : AX l) (hm : AX m) (h : ∀ x, x ∈ l ↔ x ∈ m) : l = m := Tt Vp JY hl.rise hm.rise h
def ins (l : List Ad) (a : Ad) : List Ad := if a ∈ l ∨ rU a = false then l else (l.takeWhile fun x => decide (xH x a < 0)) ++ a :: l.dropWhile fun x => decide (xH x a < 0)
theorem VW {l : List Ad} {a x : Ad} : x ∈ ins l a ↔ x ∈ l ∨ (x = a /\ rU a = true) := by
  unfold ins
  split
  · rename_i h
    constructor
    · exact .inl
    · rintro (q | ⟨rfl, q⟩)
      · exact q
      · rcases h with h | h
        · exact h
        · rw [h] at q; cases q
  · rename_i h
    have hg : rU a = true := by cases hq : rU a with
      | true => rfl
      | false => exact absurd (.inr hq) h
    have ht : l = (l.takeWhile fun x => decide (xH x a < 0)) ++ l.dropWhile fun x => decide (xH x a < 0) := (List.takeWhile_append_dropWhile).symm
    rw [List.mem_append, List.mem_cons]
    constructor
    · rintro (q | rfl | q)
      · left; rw [ht]; exact List.mem_append_left _ q
      · exact .inr ⟨rfl, hg⟩
      · left; rw [ht]; exact List.mem_append_right _ q
    · rintro (q | ⟨rfl, _⟩)
      · rw [ht, List.mem_append] at q
        rcases q with q | q
        · exact .inl q
        · exact .inr (.inr q)
      · exact .inr (.inl rfl)
theorem aah (l : List Ad) (a : Ad) : (ins l a).length <= l.length + 1 := by
  unfold ins
  split
  · omega
  · have := congrArg List.length (List.takeWhile_append_dropWhile (p := fun x => decide (xH x a < 0)) (l := l))
    rw [List.length_append] at this ⊢; rw [List.length_cons]; omega
theorem AX.ins {l : List Ad} (hl : AX l) (a : Ad) : AX (ins l a) := by
  refine ⟨?_, fun x hx => ?_⟩
  · unfold Wk.ins
    split
    · exact hl.rise
    · rename_i h
      have ht : (l.takeWhile fun x => decide (xH x a < 0)) ++ (l.dropWhile fun x => decide (xH x a < 0)) = l := List.takeWhile_append_dropWhile
      have hr := hl.rise
      rw [← ht, List.pairwise_append] at hr
      have hg : rU a = true := by cases hq : rU a with
        | true => rfl
        | false => exact absurd (.inr hq) h
      have hd : ∀ y ∈ (l.dropWhile fun x => decide (xH x a < 0)), Vq a y := by
        intro y hy
        have hyl : y ∈ l := by rw [← ht]; exact List.mem_append_right _ hy
        have hne : xH y a ≠ 0 := fun e => h (.inl (by rw [← aaC (hl.good y hyl) hg e]; exact hyl))
        have hfirst : ¬ xH y a < 0 := by
          rcases hd : (l.dropWhile fun x => decide (xH x a < 0)) with _ | ⟨z, r⟩
          · rw [hd] at hy; cases hy
          · have hz : ¬ xH z a < 0 := by
              have := List.head_dropWhile_not (p := fun x => decide (xH x a < 0)) (l := l) (by rw [hd]; simp)
              simp only [hd, List.head_cons, decide_eq_false_iff_not] at this; exact this
            rw [hd] at hy
            rcases List.mem_cons.1 hy with rfl | hy
            · exact hz
            · have h1 := hr.2.1; rw [hd, List.pairwise_cons] at h1
              have h2 := h1.1 y hy
              intro h3
              exact hz (JY _ _ _ h2 h3)
        have := XG y a
        show xH a y < 0
        omega
      have htk : ∀ x ∈ (l.takeWhile fun x => decide (xH x a < 0)), Vq x a := fun x hx => by
        have := List.all_eq_true.1 (List.all_takeWhile (p := fun x => decide (xH x a < 0)) (l := l)) x hx
        show xH x a < 0
        exact of_decide_eq_true this
      rw [List.pairwise_append, List.pairwise_cons]
      refine ⟨hr.1, ⟨hd, hr.2.1⟩, fun x hx y hy => ?_⟩
      rcases List.mem_cons.1 hy with rfl | hy
      · exact htk x hx
      · exact hr.2.2 x hx y hy
  · rcases VW.1 hx with hx | ⟨rfl, hx⟩
    · exact hl.good x hx
    · exact hx
def XJ (l : List Ad) : List Ad := l.foldl ins []
theorem Pj (l : List Ad) (a : Ad) : XJ (l ++ [a]) = ins (XJ l) a := by unfold XJ; rw [List.foldl_append]; rfl
theorem VO (l : List Ad) : AX (XJ l) := by
  induction l using OT with
  | h0 => exact AX.nil
  | h1 l a ih => rw [Pj]; exact ih.ins a
theorem aae {l : List Ad} {x : Ad} : x ∈ XJ l ↔ x ∈ l /\ rU x = true := by
  induction l using OT with
  | h0 => simp [XJ]
  | h1 l a ih =>
    rw [Pj, VW, ih, List.mem_append, List.mem_singleton]
    constructor
    · rintro (⟨p, q⟩ | ⟨rfl, q⟩)
      · exact ⟨.inl p, q⟩
      · exact ⟨.inr rfl, q⟩
    · rintro ⟨p | rfl, q⟩
      · exact .inl ⟨p, q⟩
      · exact .inr ⟨rfl, q⟩
theorem VP (l : List Ad) : (XJ l).length <= l.length := by
  induction l using OT with
  | h0 => exact Nat.le_refl _
  | h1 l a ih => rw [Pj, List.length_append]; have := aah (XJ l) a; simp only [List.length_cons, List.length_nil]; omega
theorem abT {l : List Ad} (h : AX l) : XJ l = l := (VO l).ext h fun x => by rw [aae]; exact ⟨fun q => q.1, fun q => ⟨q, h.good x q⟩⟩
def aIn (b : List Ad) (x : Ad) : Bool := decide (x ∈ b)
theorem aan {l : List Ad} {a : Ad} {Q : Bool -> Prop} (hl : l.length <= 1000000) (h : Q (aIn l a)) : Gq l a Q := by
  refine yS l.length (fun i => a ∉ l.take i) (by simp) fun K i hi hI hK => ?_
  show BU _ _ _ _ _
  unfold BU
  refine ⟨fun c => ⟨by (first | omega | (unfold I64; omega) | (simp only [List.length_append, List.length_cons, List.length_nil, List.length_take, List.length_drop] at *; omega) | (unfold I64; simp only [List.length_append, List.length_cons, List.length_nil, List.length_take, List.length_drop] at *; omega)), ?_⟩, fun c => ?_⟩
  · have hi' : i < l.length := by omega
    rw [iZ hi']
    refine ⟨fun q => ?_, fun q => ⟨by (first | omega | (unfold I64; omega) | (simp only [List.length_append, List.length_cons, List.length_nil, List.length_take, List.length_drop] at *; omega) | (unfold I64; simp only [List.length_append, List.length_cons, List.length_nil, List.length_take, List.length_drop] at *; omega)), hK (i + 1) (by omega) (by omega) ?_⟩⟩
    · have : aIn l a = true := decide_eq_true (q ▸ List.getElem_mem hi')
      rw [this] at h; exact h
    · rw [List.take_succ_eq_append_getElem hi', List.mem_append, List.mem_singleton]
      rintro (k | k)
      · exact hI k
      · exact q k.symm
  · rw [List.take_of_length_le (by omega)] at hI
    have : aIn l a = false := decide_eq_false hI
    rw [this] at h; exact h
theorem aaB {l : List Ad} {a : Ad} {Q : List Ad -> Prop} (hl : l.length <= 1000000) (h : Q (ins l a)) : Ec l a Q := by
  unfold Ec
  refine aan hl ?_
  have hj : ∀ b, (b = true ↔ (a ∈ l ∨ rU a = false)) -> zH l a Q b := by
    intro b hb
    unfold zH
    refine ⟨fun c => ?_, fun c => ?_⟩
    · unfold ins at h; rw [if_pos (hb.1 c)] at h; exact h
    · have hn : ¬ (a ∈ l ∨ rU a = false) := fun q => by rw [hb.2 q] at c; cases c
      unfold ins at h; rw [if_neg hn] at h
      have hend : ∀ i : Nat, i <= l.length -> (∀ x ∈ l.take i, xH x a < 0) -> (∀ (hi : i < l.length), ¬ xH l[i] a < 0) -> zG l a Q (i : Int) := by
        intro i hi h1 h2
        have ht : (l.takeWhile fun x => decide (xH x a < 0)) = l.take i /\ (l.dropWhile fun x => decide (xH x a < 0)) = l.drop i := by
          have hsp : l = l.take i ++ l.drop i := (List.take_append_drop i l).symm
          constructor
          · conv => lhs; rw [hsp]
            rw [List.takeWhile_append_of_pos (fun x hx => decide_eq_true (h1 x hx))]
            rcases hd : l.drop i with _ | ⟨z, r⟩
            · simp
            · have hlt : i < l.length := by
                rcases Nat.lt_or_ge i l.length with q | q
                · exact q
                · rw [List.drop_of_length_le q] at hd; cases hd
              rw [List.drop_eq_getElem_cons hlt] at hd; injection hd with hd1 hd2
              rw [List.takeWhile_cons_of_neg (by simpa [← hd1] using h2 hlt), List.append_nil]
          · conv => lhs; rw [hsp]
            rw [List.dropWhile_append_of_pos (fun x hx => decide_eq_true (h1 x hx))]
            rcases hd : l.drop i with _ | ⟨z, r⟩
            · rfl
            · have hlt : i < l.length := by
                rcases Nat.lt_or_ge i l.length with q | q
                · exact q
                · rw [List.drop_of_length_le q] at hd; cases hd
              rw [List.drop_eq_getElem_cons hlt] at hd; injection hd with hd1 hd2
              rw [List.dropWhile_cons_of_neg (by simpa [← hd1] using h2 hlt)]
        unfold zG
        rw [aeA, aey]
        rw [ht.1, ht.2] at h
        refine ⟨by (first | omega | (unfold I64; omega) | (simp only [List.length_append, List.length_cons, List.length_nil, List.length_take, List.length_drop] at *; omega) | (unfold I64; simp only [List.length_append, List.length_cons, List.length_nil, List.length_take, List.length_drop] at *; omega)), by (first | omega | (unfold I64; omega) | (simp only [List.length_append, List.length_cons, List.length_nil, List.length_take, List.length_drop] at *; omega) | (unfold I64; simp only [List.length_append, List.length_cons, List.length_nil, List.length_take, List.length_drop] at *; omega)), by (first | omega | (unfold I64; omega) | (simp only [List.length_append, List.length_cons, List.length_nil, List.length_take, List.length_drop] at *; omega) | (unfold I64; simp only [List.length_append, List.length_cons, List.length_nil, List.length_take, List.length_drop] at *; omega)), by (first | omega | (unfold I64; omega) | (simp only [List.length_append, List.length_cons, List.length_nil, List.length_take, List.length_drop] at *; omega) | (unfold I64; simp only [List.length_append, List.length_cons, List.length_nil, List.length_take, List.length_drop] at *; omega)), ?_⟩
        simpa using h
      refine yS l.length (fun i => ∀ x ∈ l.take i, xH x a < 0) (by simp) fun K i hi hI hK => ?_
      show BV _ _ _ _ _
      unfold BV
      refine ⟨fun c => ⟨by (first | omega | (unfold I64; omega) | (simp only [List.length_append, List.length_cons, List.length_nil, List.length_take, List.length_drop] at *; omega) | (unfold I64; simp only [List.length_append, List.length_cons, List.length_nil, List.length_take, List.length_drop] at *; omega)), ?_⟩, fun c => hend i hi hI (fun q => by omega)⟩
      have hi' : i < l.length := by omega
      rw [iZ hi']
      refine aav ⟨fun q => ⟨by (first | omega | (unfold I64; omega) | (simp only [List.length_append, List.length_cons, List.length_nil, List.length_take, List.length_drop] at *; omega) | (unfold I64; simp only [List.length_append, List.length_cons, List.length_nil, List.length_take, List.length_drop] at *; omega)), hK (i + 1) (by omega) (by omega) ?_⟩, fun q => hend i hi hI (fun _ => q)⟩
      intro x hx
      rw [List.take_succ_eq_append_getElem hi', List.mem_append, List.mem_singleton] at hx
      rcases hx with hx | rfl
      · exact hI x hx
      · exact q
  refine ⟨fun c => hj true (by have := of_decide_eq_true c; simp [this]), fun c => PL (hj _ ?_)⟩
  have := of_decide_eq_false c
  simp [this]
theorem abS {l : List Ad} {Q : List Ad -> Prop} (hl : l.length <= 100000) (h : Q (XJ l)) : Ie l Q := by
  refine Xj l ins fun K i s hi hs hK => ?_
  have e : s.length <= i := by rw [hs]; have := VP (l.take i); rw [List.length_take] at this; unfold XJ at this; omega
  show Eb _ _ _ _ _
  unfold Eb
  refine ⟨fun c => ⟨by (first | omega | (unfold I64; omega) | (simp only [List.length_append, List.length_cons, List.length_nil, List.length_take, List.length_drop] at *; omega) | (unfold I64; simp only [List.length_append, List.length_cons, List.length_nil, List.length_take, List.length_drop] at *; omega)), aaB (by simp only; omega) ⟨by (first | omega | (unfold I64; omega) | (simp only [List.length_append, List.length_cons, List.length_nil, List.length_take, List.length_drop] at *; omega) | (unfold I64; simp only [List.length_append, List.length_cons, List.length_nil, List.length_take, List.length_drop] at *; omega)), ?_⟩⟩, fun c => ?_⟩
  · rw [iZ (by omega)]; exact hK (by omega)
  · rw [List.take_of_length_le (by omega)] at hs; rw [hs]; exact h
theorem Tm {a b : List Ad} {Q : Bool -> Prop} (ha : a.length <= 100000) (h : Q (decide (a = b))) : zF a b Q := by
  unfold zF
  refine ⟨fun c => ?_, fun c => ?_⟩
  · have : a ≠ b := fun e => by subst e; exact c rfl
    rw [decide_eq_false this] at h; exact h
  · have c : a.length = b.length := by omega
    refine yS a.length (fun i => a.take i = b.take i) (by simp) fun K i hi hI hK => ?_
    show Aq _ _ _ _ _
    unfold Aq
    refine ⟨fun d => ⟨by (first | omega | (unfold I64; omega) | (simp only [List.length_append, List.length_cons, List.length_nil, List.length_take, List.length_drop] at *; omega) | (unfold I64; simp only [List.length_append, List.length_cons, List.length_nil, List.length_take, List.length_drop] at *; omega)), by (first | omega | (unfold I64; omega) | (simp only [List.length_append, List.length_cons, List.length_nil, List.length_take, List.length_drop] at *; omega) | (unfold I64; simp only [List.length_append, List.length_cons, List.length_nil, List.length_take, List.length_drop] at *; omega)), ?_⟩, fun d => ?_⟩
    · have h1 : i < a.length := by omega
      have h2 : i < b.length := by omega
      rw [iZ h1, iZ h2]
      refine ⟨fun q => ?_, fun q => ⟨by (first | omega | (unfold I64; omega) | (simp only [List.length_append, List.length_cons, List.length_nil, List.length_take, List.length_drop] at *; omega) | (unfold I64; simp only [List.length_append, List.length_cons, List.length_nil, List.length_take, List.length_drop] at *; omega)), hK (i + 1) (by omega) (by omega) ?_⟩⟩
      · have : a ≠ b := fun e => by subst e; exact q rfl
        rw [decide_eq_false this] at h; exact h
      · rw [List.take_succ_eq_append_getElem h1, List.take_succ_eq_append_getElem h2, hI, q]
    · have hab : a = b := by
        have h3 : i = a.length := by omega
        subst h3
        rw [List.take_length, c, List.take_length] at hI; exact hI
      rw [decide_eq_true hab] at h; exact h
theorem AX.tail {x : Ad} {a : List Ad} (h : AX (x :: a)) : AX a := ⟨(List.pairwise_cons.1 h.rise).2, fun y hy => h.good y (by simp [hy])⟩
theorem acH {α : Type} {x : α} {a : List α} : cut (x :: a) 1 ((x :: a).length : Int) = a := by
  have := aey (x :: a) 1; simpa using this
theorem acE : ∀ k < 16, FI k ≠ 44 /\ FI k ≠ 45 /\ FI k ≠ 32 := by decide
theorem VQ {b : Nat} (hb : 2 <= b /\ b <= 16) (n : Nat) : ∀ c ∈ oU b n, c ≠ 44 /\ c ≠ 45 /\ c ≠ 32 := by
  intro c h
  obtain ⟨k, hk, rfl⟩ := Ef hb.1 n _ h
  exact acE k (by omega)
theorem OD (a : Ad) : ∀ c ∈ txt a, c ≠ 44 /\ c ≠ 45 /\ c ≠ 32 := by
  have w : ∀ i j, ∀ c ∈ gy (wL a i j) [58], c ≠ 44 /\ c ≠ 45 /\ c ≠ 32 := by
    intro i j c h
    rcases BD h with h | ⟨x, hx, h⟩
    · simp at h; subst h; decide
    · obtain ⟨k, _, rfl⟩ := List.mem_map.1 hx
      exact VQ (by decide) _ c h
  intro c h
  unfold txt at h
  split at h
  · split at h
    · exact w _ _ c h
    · rcases List.mem_append.1 h with h | h
      · rcases List.mem_append.1 h with h | h
        · exact w _ _ c h
        · simp at h; subst h; decide
      · exact w _ _ c h
  · rcases BD h with h | ⟨x, hx, h⟩
    · simp at h; subst h; decide
    · obtain ⟨k, _, rfl⟩ := List.mem_map.1 hx
      exact VQ (by decide) _ c h
def NM (l : List Ad) : Str := if l = [] then [45] else gy (l.map txt) [44]
theorem OE {l : List Ad} (h : l ≠ []) : NM l = gy (l.map txt) [44] := by unfold NM; rw [if_neg h]
theorem abz {l : List Ad} (h : l ≠ []) : gy (l.map txt) [44] ≠ [45] := by
  intro e
  have q : (45 : UInt8) ∈ gy (l.map txt) [44] := by rw [e]; simp
  rcases BD q with q | ⟨x, hx, q⟩
  · simp at q
  · obtain ⟨a, _, rfl⟩ := List.mem_map.1 hx
    exact (OD a _ q).2.1 rfl
theorem WO {l : List Ad} (h : l ≠ []) : dE (gy (l.map txt) [44]) [44] = l.map txt := by
  refine Ib (by simpa using h) fun x hx => ?_
  obtain ⟨a, _, rfl⟩ := List.mem_map.1 hx
  exact fun q => (OD a _ q).1 rfl
theorem RJ {l : List Ad} : (NM l).length <= l.length * 101 + 1 := by
  unfold NM
  split
  · simp
  · have := JW (c := 44) (m := 100) (l := l.map txt) (by intro x hx; obtain ⟨a, _, rfl⟩ := List.mem_map.1 hx; exact AZ a)
    rw [List.length_map] at this; omega
theorem aby {l : List Ad} : (32 : UInt8) ∉ NM l := by
  unfold NM
  split
  · simp
  · intro q
    rcases BD q with q | ⟨x, hx, q⟩
    · simp at q
    · obtain ⟨a, _, rfl⟩ := List.mem_map.1 hx
      exact (OD a _ q).2.2 rfl
theorem JZ {a : Ad} : rU a = true ↔ JD a := by
  unfold rU JD
  simp only [Bool.or_eq_true, decide_eq_true_eq]
theorem MK {s : Str} (hl : s.length <= 800) {Q : Ad -> Int -> Prop} (h1 : ∀ a, JD a -> txt a = s -> (∀ a', JD a' -> txt a' = s -> a' = a) -> Q a 0) (h2 : (∀ a, JD a -> txt a ≠ s) -> Q (false, (default : Ba 16)) 2) : wW s Q := by
  refine UU hl fun b ok hb => ZX (fun h4 => ⟨fun c => ⟨fun _ => h2 fun a ha e => ?_, fun q => (by cases q)⟩, fun c => ⟨fun q => absurd rfl q, fun _ => Om ?_⟩⟩) (fun h4 => ⟨fun c => ⟨fun _ => h2 fun a ha e => ?_, fun q => (by cases q)⟩, fun c => ⟨fun _ => ⟨fun _ => h2 fun a ha e => ?_, fun q => (by cases q)⟩, fun q => absurd q (by decide)⟩⟩)
  · rw [(hb a e.symm).2] at c; cases c
  · refine ⟨fun d => h2 fun a ha e => ?_, fun d => h1 _ (Yk h4) (by simpa using d) fun a' ha' e' => by rw [(hb a' e'.symm).1, (UG ha').1]⟩
    have d : txt (rdA b) ≠ s := by simpa using d
    rw [(hb a e.symm).1, (UG ha).1] at d
    exact d e
  · rw [(hb a e.symm).2] at c; cases c
  · rw [(hb a e.symm).1] at h4; exact h4 (UG ha).2
theorem XF (n : Nat) {l : List Ad} {Q : List Ad -> Prop} (hn : n <= 1000) (h : Q (l.take n)) : D6 l (n : Int) Q := by
  refine wK l.length (fun i s => s = l.take i /\ i <= n) ⟨rfl, by omega⟩ fun K i s hi ⟨hs, h8⟩ hK => ?_
  have e : s.length = i := by rw [hs, List.length_take]; omega
  have te : ∀ (h : ¬ (i < l.length /\ i < n)), l.take i = l.take n := by
    intro h
    by_cases q : i = n
    · rw [q]
    · rw [List.take_of_length_le (by omega), List.take_of_length_le (by omega)]
  show yY _ _ _ _ _ _
  unfold yY yZ
  refine ⟨fun h1 => ⟨fun h2 => ⟨by (first | omega | (unfold I64; omega) | (simp only [List.length_append, List.length_cons, List.length_nil, List.length_take, List.length_drop] at *; omega) | (unfold I64; simp only [List.length_append, List.length_cons, List.length_nil, List.length_take, List.length_drop] at *; omega)), by (first | omega | (unfold I64; omega) | (simp only [List.length_append, List.length_cons, List.length_nil, List.length_take, List.length_drop] at *; omega) | (unfold I64; simp only [List.length_append, List.length_cons, List.length_nil, List.length_take, List.length_drop] at *; omega)), by (first | omega | (unfold I64; omega) | (simp only [List.length_append, List.length_cons, List.length_nil, List.length_take, List.length_drop] at *; omega) | (unfold I64; simp only [List.length_append, List.length_cons, List.length_nil, List.length_take, List.length_drop] at *; omega)), hK (i + 1) _ (by omega) (by omega) ⟨?_, ?_⟩⟩, fun h2 => ?_⟩, fun h1 => ⟨fun h => (by cases h), fun _ => ?_⟩⟩
  · rw [hs, iZ (by omega), List.take_succ_eq_append_getElem (by omega)]
  · have := of_decide_eq_true h2; omega
  · have := of_decide_eq_false h2; rw [hs, te (by omega)]; exact h
  · rw [hs, te (by omega)]; exact h
theorem XZ {l : List Ad} {i : Nat} (h : i < l.length) : gy ((l.take (i + 1)).map txt) [44] = (if 0 < i then gy ((l.take i).map txt) [44] ++ [44] else []) ++ txt l[i] := by
  rw [List.take_succ_eq_append_getElem h, List.map_append]
  split
  · rename_i hi
    have : (l.take i).map txt ≠ [] := by intro e; have := congrArg List.length e; rw [List.length_map, List.length_take] at this; simp only [List.length_nil] at this; omega
    exact Iu this _ _
  · have : i = 0 := by omega
    subst this
    exact qY _ _
theorem Vx (l : List Ad) : (gy (l.map txt) [44]).length <= l.length * 101 := by
  have := JW (c := 44) (m := 100) (l := l.map txt) (by intro x hx; obtain ⟨a, _, rfl⟩ := List.mem_map.1 hx; exact AZ a)
  rw [List.length_map] at this; exact this
theorem O8 {l : List Ad} {Q : Str -> Prop} (hl : l.length <= 1000) (h : Q (NM l)) : Ar l Q := by
  refine ⟨fun c => ?_, fun c => ?_⟩
  · have e : l = [] := List.eq_nil_of_length_eq_zero (by omega)
    unfold NM at h; rw [if_pos e] at h; exact h
  · have e : l ≠ [] := by rintro rfl; exact c rfl
    rw [OE e] at h
    refine wK l.length (fun i s => s = gy ((l.take i).map txt) [44]) rfl fun K i s hi hs hK => ?_
    show yM l Q _ s (i : Int)
    unfold yM yN
    have hJ := Vx (l.take i)
    rw [List.length_take] at hJ
    rw [← hs] at hJ
    refine ⟨fun d => ?_, fun d => ?_⟩
    · have hi1 : i < l.length := by omega
      have ht := AZ l[i]
      have hS := XZ hi1
      rw [iZ hi1]
      refine ⟨fun q => ⟨?_, by omega, Hm ⟨?_, by unfold I64; omega, hK (i + 1) _ (by omega) (by omega) ?_⟩⟩, fun q => ⟨by omega, Hm ⟨?_, by unfold I64; omega, hK (i + 1) _ (by omega) (by omega) ?_⟩⟩⟩
      · simp only [List.length_cons, List.length_nil]; omega
      · simp only [List.length_append, List.length_cons, List.length_nil]; omega
      · rw [hS, if_pos (by omega), ← hs]
      · omega
      · have i0 : i = 0 := by omega
        subst i0
        rw [hS, if_neg (by omega), hs]; rfl
    · have : i = l.length := by omega
      subst this
      rw [List.take_length] at hs; rw [hs]; exact h
theorem QL {l : List Ad} {Q : Str -> Prop} (hl : l.length <= 1000) (h : Q (NM l)) : Gj l Q := by
  refine ⟨fun c => ?_, fun c => ?_⟩
  · have e : l = [] := List.eq_nil_of_length_eq_zero (by omega)
    unfold NM at h; rw [if_pos e] at h; exact h
  · have e : l ≠ [] := by rintro rfl; exact c rfl
    rw [OE e] at h
    refine wK l.length (fun i s => s = (l.take i).map txt) rfl fun K i s hi hs hK => ?_
    show BM l Q _ s (i : Int)
    unfold BM
    have hsl : s.length = i := by rw [hs, List.length_map, List.length_take]; omega
    refine ⟨fun d => ?_, fun d => ?_⟩
    · have hi1 : i < l.length := by omega
      rw [iZ hi1]
      refine ⟨by omega, Om ⟨?_, by unfold I64; omega, hK (i + 1) _ (by omega) (by omega) ?_⟩⟩
      · simp only [List.length_cons, List.length_nil]; omega
      · rw [hs, List.take_succ_eq_append_getElem hi1, List.map_append]; rfl
    · have : i = l.length := by omega
      subst this
      rw [List.take_length] at hs; rw [hs]
      have := Vx l
      refine ⟨⟨by rw [List.length_map]; omega, by omega⟩, h⟩
theorem UW {s : Str} (hl : s.length <= 1000) {Q : List Ad -> Int -> Prop} (hp : ∀ x ∈ dE s [44], x.length <= 800)
    (h1 : ∀ l, AX l -> l.length <= s.length + 1 -> NM l = s -> (∀ l', AX l' -> NM l' = s -> l' = l) -> Q l 0) (h2 : (∀ l, AX l -> NM l ≠ s) -> Q [] 2) : EU s Q := by
  refine ⟨fun c => ?_, fun c => ⟨⟨by omega, by decide⟩, ?_⟩⟩
  · subst c
    refine h1 [] AX.nil (by simp) rfl fun l' _ e => ?_
    by_cases q : l' = []
    · exact q
    · rw [OE q] at e; exact absurd e (abz q)
  · have key : ∀ l, AX l -> NM l = s -> l ≠ [] /\ l.map txt = dE s [44] := by
      intro l _ e
      have hl : l ≠ [] := by rintro rfl; exact c e.symm
      rw [OE hl] at e
      exact ⟨hl, by rw [← e, WO hl]⟩
    have hsl := LX s 44
    have hne := OQ s 44
    refine JV (fun st => st.2.2) 0 (dE s [44]).length (fun i st => st.2.1.map txt = (dE s [44]).take i /\ AX st.2.1 /\ ∀ l, AX l -> l.map txt = dE s [44] -> st.2.1 = l.take i) rfl (by omega) ⟨rfl, AX.nil, fun _ _ _ => rfl⟩ ?_
    rintro K i ⟨l1, out, _⟩ rfl hi ⟨hm, hA, hU⟩ hK
    dsimp only at hm hA hU ⊢
    unfold DD
    have hol : out.length = i := by have := congrArg List.length hm; rw [List.length_map, List.length_take] at this; omega
    refine ⟨fun d => ⟨by omega, ?_⟩, fun d => ?_⟩
    · have hi1 : i < (dE s [44]).length := by omega
      rw [iZ hi1]
      have aeC : ∀ l, AX l -> l.map txt = dE s [44] -> ∃ h : i < l.length, txt l[i] = (dE s [44])[i] /\ JD l[i] := by
        intro l hA' hm'
        have hlen : l.length = (dE s [44]).length := by rw [← hm', List.length_map]
        refine ⟨by omega, ?_, JZ.1 (hA'.good _ (List.getElem_mem _))⟩
        have : (l.map txt)[i]'(by rw [List.length_map]; omega) = (dE s [44])[i] := by simp only [hm']
        rw [← this, List.getElem_map]
      refine MK (hp _ (List.getElem_mem _)) (fun a ha e ua => ⟨fun q => absurd rfl q, fun _ => ?_⟩) (fun hno => ⟨fun _ => h2 fun l hA' e => ?_, fun q => (by cases q)⟩)
      · have adr : ∀ l, (hA' : AX l) -> l.map txt = dE s [44] -> ∃ h : i < l.length, l[i] = a := by
          intro l hA' hm'
          obtain ⟨h, e1, g1⟩ := aeC l hA' hm'
          exact ⟨h, ua _ g1 e1⟩
        have next : (∀ x ∈ out, Vq x a) -> Ah l1 out i (fun uN bP bG => K (uN, bP, bG)) a := by
          intro hlt
          refine ⟨?_, by unfold I64; omega, hK (i + 1) _ (by simp) (by omega) (by omega) ⟨?_, ?_, ?_⟩⟩
          · simp only [List.length_cons, List.length_nil]; omega
          · dsimp only; rw [List.map_append, hm, List.take_succ_eq_append_getElem hi1, List.map_singleton, e]
          · refine ⟨List.pairwise_append.2 ⟨hA.rise, List.pairwise_singleton _ _, fun x hx y hy => ?_⟩, fun x hx => ?_⟩
            · simp at hy; subst hy; exact hlt x hx
            · rcases List.mem_append.1 hx with hx | hx
              · exact hA.good x hx
              · simp at hx; subst hx; exact JZ.2 ha
          · intro l hA' hm'
            obtain ⟨h, el⟩ := adr l hA' hm'
            dsimp only
            rw [List.take_succ_eq_append_getElem h, el, ← hU l hA' hm']
        refine ⟨fun d0 => ⟨by unfold I64; omega, by omega, Wy ⟨fun q => h2 fun l hA' e' => ?_, fun q => next fun x hx => ?_⟩⟩, fun d0 => next fun x hx => ?_⟩
        · have hm' := (key l hA' e').2
          obtain ⟨h, el⟩ := adr l hA' hm'
          have hu := hU l hA' hm'
          have i1 : i - 1 < out.length := by omega
          rw [show (out.length : Int) - 1 = ((i - 1 : Nat) : Int) by omega, iZ i1] at q
          have eo : out[i - 1] = l[i - 1]'(by omega) := by simp only [hu, List.getElem_take]
          have := List.pairwise_iff_getElem.1 hA'.rise (i - 1) i (by omega) h (by omega)
          rw [← eo, el] at this
          unfold Vq at this
          have q' : 0 <= xH out[i - 1] a := q
          omega
        · have i1 : i - 1 < out.length := by omega
          rw [show (out.length : Int) - 1 = ((i - 1 : Nat) : Int) by omega, iZ i1] at q
          have q' : Vq out[i - 1] a := by
            have q' : ¬ 0 <= xH out[i - 1] a := q
            unfold Vq; omega
          obtain ⟨k, hk, rfl⟩ := List.mem_iff_getElem.1 hx
          by_cases hki : k = i - 1
          · subst hki; exact q'
          · exact JY _ _ _ (List.pairwise_iff_getElem.1 hA.rise k (i - 1) hk i1 (by omega)) q'
        · have : out = [] := List.eq_nil_of_length_eq_zero (by omega)
          rw [this] at hx; cases hx
      · have hm' := (key l hA' e).2
        obtain ⟨_, e1, g1⟩ := aeC l hA' hm'
        exact hno _ g1 e1
    · have hie : i = (dE s [44]).length := by omega
      rw [hie, List.take_length] at hm
      have hon : out ≠ [] := by rintro rfl; exact hne hm.symm
      refine h1 out hA (by omega) (by rw [OE hon, hm, U2]) fun l' hA' e' => ?_
      have hm' := (key l' hA' e').2
      rw [hU l' hA' hm', hie, ← hm', List.length_map, List.take_length]
theorem aat {c : UInt8} {x r : Str} (h : c ∉ x) : lW (x ++ c :: r) [c] = (x, r, true) := by
  unfold lW Lib.cut
  rw [SE h, if_pos (by omega)]
  simp
def mode (e : Bool) : Str := if e = true then [101, 120] else [105, 110]
theorem VT (e : Bool) : (32 : UInt8) ∉ mode e := by cases e <;> decide
theorem VU (e : Bool) : decide ((mode e : Str) = [101, 120]) = e := by cases e <;> rfl
def Um (e : Bool) (l : List Ad) : Str := mode e ++ 32 :: NM l
theorem Us (l : List Ad) : Um true l = [101, 120, 32] ++ NM l := rfl
theorem Ur (l : List Ad) : Um false l = [105, 110, 32] ++ NM l := rfl
theorem ZP (e : Bool) (l : List Ad) : lW (Um e l) [32] = (mode e, NM l, true) := aat (VT e)
theorem Oj (e : Bool) (l : List Ad) : (Um e l).length <= l.length * 101 + 4 := by
  have := RJ (l := l)
  cases e
  · rw [Ur, List.length_append]; simp only [List.length_cons, List.length_nil]; omega
  · rw [Us, List.length_append]; simp only [List.length_cons, List.length_nil]; omega
theorem UT {e : Bool} {l : List Ad} {Q : Str -> Prop} (hl : l.length <= 1000) (h : Q (Um e l)) : DV e l Q := by
  have hb := RJ (l := l)
  refine ⟨fun c => O8 hl ⟨?_, ?_⟩, fun c => O8 hl ⟨?_, ?_⟩⟩
  · simp only [List.length_cons, List.length_nil]; omega
  · rw [c, Us] at h; exact h
  · simp only [List.length_cons, List.length_nil]; omega
  · rw [c, Ur] at h; exact h
theorem QM {e : Bool} {l : List Ad} {Q : Str -> Prop} (hl : l.length <= 1000) (h : Q (Um e l)) : CG e l Q := by
  have hb := RJ (l := l)
  refine ⟨fun c => QL hl ⟨?_, ?_⟩, fun c => QL hl ⟨?_, ?_⟩⟩
  · simp only [List.length_cons, List.length_nil]; omega
  · rw [c, Us] at h; exact h
  · simp only [List.length_cons, List.length_nil]; omega
  · rw [c, Ur] at h; exact h
theorem Wx (s : Str) : (lW s [32]).2.1.length <= s.length := (Ue s [32]).2
theorem Pg {s : Str} (hl : s.length <= 900) {Q : Bool -> List Ad -> Int -> Prop} (hp : ∀ x ∈ dE (lW s [32]).2.1 [44], x.length <= 800)
    (h1 : ∀ e l, AX l -> l.length <= s.length + 1 -> Um e l = s -> (∀ e' l', AX l' -> Um e' l' = s -> e' = e /\ l' = l) -> Q e l 0) (h2 : (∀ e l, AX l -> Um e l ≠ s) -> Q false [] 2) : DY s Q := by
  have hc := Wx s
  have of : ∀ e l, Um e l = s -> (lW s [32]).1 = mode e /\ (lW s [32]).2.1 = NM l := by
    rintro e l rfl; rw [ZP]; exact ⟨rfl, rfl⟩
  refine ⟨by omega, UW (by omega) hp (fun l hA hn ht hu => ⟨fun q => absurd rfl q, fun _ => QM (by omega) ⟨fun q => h2 fun e' l' hA' e => ?_, fun q => h1 _ l hA (by omega) (by simpa using q) fun e' l' hA' e => ?_⟩⟩) (fun hno => ⟨fun _ => ⟨fun _ => h2 fun e' l' hA' e => ?_, fun q => (by cases q)⟩, fun q => absurd q (by decide)⟩)⟩
  · have q' : Um (decide (((lW s [32]).1 : Str) = [101, 120])) l ≠ s := by simpa using q
    obtain ⟨k1, k2⟩ := of e' l' e
    rw [hu l' hA' k2.symm] at e
    rw [k1, VU] at q'
    exact q' e
  · obtain ⟨k1, k2⟩ := of e' l' e
    exact ⟨by rw [k1, VU], hu l' hA' k2.symm⟩
  · exact hno l' hA' (of e' l' e).2.symm
theorem aex : ∀ k < 10, (FI k).toNat = 48 + k := by decide
theorem TL (n : Nat) : jM (n : Int) = oU 10 n := by unfold jM; rw [Lib.itoa_nonneg, PX]
theorem YO (n : Nat) (h : 1 <= n) : jM (-(n : Int)) = 45 :: oU 10 n := by unfold jM; rw [Lib.itoa_neg n h, PX]
theorem KP (n : Int) : (∃ m : Nat, n = m /\ jM n = oU 10 m) ∨ ∃ m : Nat, 1 <= m /\ n = -(m : Int) /\ jM n = 45 :: oU 10 m := by
  by_cases h : 0 <= n
  · obtain ⟨m, rfl⟩ := Int.eq_ofNat_of_zero_le h
    exact .inl ⟨m, rfl, TL m⟩
  · obtain ⟨m, hm⟩ : ∃ m : Nat, n = -(m : Int) := ⟨n.natAbs, by omega⟩
    have h1 : 1 <= m := by omega
    subst hm
    exact .inr ⟨m, h1, rfl, YO m h1⟩
theorem vY {n : Int} (h : I64 n) : (jM n).length <= 21 := Lib.itoa_length_le n h.1 h.2
theorem PE {n : Int} {c : UInt8} (hc : c ∈ jM n) : c = 45 ∨ ∃ k < 10, c = FI k := by
  rcases KP n with ⟨m, _, e⟩ | ⟨m, _, _, e⟩
  · rw [e] at hc; exact .inr (Ef (by decide) m c hc)
  · rw [e] at hc
    rcases List.mem_cons.1 hc with hc | hc
    · exact .inl hc
    · exact .inr (Ef (by decide) m c hc)
theorem Ve : ∀ k < 10, FI k ≠ 32 /\ FI k ≠ 62 /\ FI k ≠ 45 /\ FI k ≠ 43 := by decide
theorem Ou {n : Int} : (32 : UInt8) ∉ jM n /\ (62 : UInt8) ∉ jM n := by
  constructor <;> intro h <;> rcases PE h with h | ⟨k, hk, h⟩
  · exact absurd h (by decide)
  · exact (Ve k hk).1 h.symm
  · exact absurd h (by decide)
  · exact (Ve k hk).2.1 h.symm
theorem aai (x : Int) : I64 (IntKind.i64.wrap x) := by
  unfold I64 IntKind.wrap
  simp only [IntKind.signed, IntKind.bits]
  have h1 := Int.emod_nonneg x (b := 18446744073709551616) (by decide)
  have h2 := Int.emod_lt_of_pos x (b := 18446744073709551616) (by decide)
  simp
  split <;> omega
theorem Wq {s s0 : Str} (hl : s.length <= 18) (h0 : s0 ≠ []) {Q : Int -> Int -> Prop} (hbad : ∀ e : Int, e = 2 -> (∀ m, s ≠ oU 10 m) -> Q 0 e)
    (hgood : ∀ n : Nat, n < 10 ^ 18 -> (∀ m, s = oU 10 m -> n = m) -> (s0.head? = some 45 -> Q (-(n : Int)) 0) /\ (s0.head? ≠ some 45 -> Q (n : Int) 0)) : pz s0 Q s := by
  refine ⟨by omega, ?_⟩
  refine wK s.length (fun i v => ∃ n : Nat, v = n /\ n < 10 ^ i /\ ∀ m, s = oU 10 m -> n = val 10 (s.take i)) ⟨0, rfl, by decide, fun _ _ => rfl⟩ fun K i v hi ⟨n, hv, hn, hm⟩ hK => ?_
  subst hv
  show pg _ _ _ _ ((n : Nat) : Int) (i : Int)
  unfold pg
  have h10 : (10 : Nat) ^ i <= 10 ^ 18 := Nat.pow_le_pow_right (by decide) (by omega)
  refine ⟨fun c => ⟨by omega, ?_⟩, fun c => ?_⟩
  · have i1 : i < s.length := by omega
    have hlt := s[i].toNat_lt
    have h17 : (10 : Nat) ^ i * 10 <= 10 ^ 18 := by rw [← Nat.pow_succ]; exact Nat.pow_le_pow_right (by decide) (by omega)
    rw [iZ i1]
    have ew := lQ (((s[i].toNat : Nat) : Int) - 48)
    have hmem : ∀ m, s = oU 10 m -> ∃ k < 10, s[i] = FI k /\ n * 10 + k = val 10 (s.take (i + 1)) := by
      intro m e
      obtain ⟨k, hk, ek⟩ := Ef (b := 10) (by decide) m s[i] (by rw [← e]; exact List.getElem_mem i1)
      refine ⟨k, hk, ek, ?_⟩
      rw [List.take_succ_eq_append_getElem i1, La, ← hm m e, ek, JF k (by omega)]
    refine ⟨fun b => hbad 2 rfl fun m e => ?_, fun b => ?_⟩
    · obtain ⟨k, hk, ek, _⟩ := hmem m e
      have := aex k hk
      rw [ek, this] at ew b
      omega
    · obtain ⟨d, hd, hdk⟩ : ∃ d : Nat, ((kZ (((s[i].toNat : Nat) : Int) - 48)).toNat : Int) = (d : Int) /\ d <= 9 := ⟨_, rfl, by omega⟩
      rw [hd]
      refine ⟨by unfold I64; omega, by unfold I64; omega, by unfold I64; omega, by unfold I64; omega, hK (i + 1) _ (by omega) i1 ⟨n * 10 + d, by omega, ?_, fun m e => ?_⟩⟩
      · rw [Nat.pow_succ]; omega
      · obtain ⟨k, hk, ek, ev⟩ := hmem m e
        have hq := aex k hk
        rw [ek, hq] at ew hd
        have : d = k := by omega
        subst this; exact ev
  · have i1 : i = s.length := by omega
    subst i1
    have hfin : ∀ m, s = oU 10 m -> n = m := by
      intro m e
      have := hm m e
      rw [List.take_length, e, Jh ⟨by decide, by decide⟩] at this; exact this
    obtain ⟨g1, g2⟩ := hgood n (by omega) hfin
    obtain ⟨a, r, rfl⟩ : ∃ a r, s0 = a :: r := by cases s0 with
      | nil => exact absurd rfl h0
      | cons a r => exact ⟨a, r, rfl⟩
    have hg : gi (a :: r) (0 : Int) = a := by
      have := iZ (l := a :: r) (i := 0) (by simp)
      simpa using this
    refine ⟨by simp only [List.length_cons]; omega, fun b => ⟨by unfold I64; omega, ?_⟩, fun b => ?_⟩
    · rw [hg] at b
      have ha : a = 45 := UInt8.toNat_inj.1 (by have : (45 : UInt8).toNat = 45 := rfl; omega)
      have := g1 (by rw [ha]; rfl)
      unfold pq
      rwa [show (0 : Int) - (n : Int) = -(n : Int) by omega]
    · rw [hg] at b
      exact g2 (fun e => b (by injection e with e; rw [e]; rfl))
theorem adm : IntKind.u64.wrap ((IntKind.u64.wrap ((1 : Int) * 2 ^ (min (IntKind.u64.wrap (64 : Int)).toNat IntKind.u64.bits))) - 1) = 18446744073709551615 := by decide +kernel
theorem abu : IntKind.u64.wrap 10 = 10 := by decide +kernel
theorem ac3 : ((kZ 10).toNat : Int) = 10 := by decide +kernel
theorem abX {Q : Int -> Int -> Prop} {K : Bool -> Int -> Int -> Prop} {i : Int} {n d : Nat} (hn : n < 18446744073709551616) (hd : d < 256) (hi : I64 (i + 1))
    (e2 : 10 <= d -> Q 0 2) (e1 : d < 10 -> 18446744073709551616 <= n * 10 + d -> Q 18446744073709551615 1) (ok : d < 10 -> n * 10 + d < 18446744073709551616 -> K false ((n * 10 + d : Nat) : Int) (i + 1)) :
    iy Q 10 64 1844674407370955162 false (n : Int) i K (d : Int) := by
  unfold iy jU
  rw [ac3, adm, abu]
  refine ⟨fun c => e2 (by omega), fun c => ⟨fun c2 => e1 (by omega) (by omega), fun c2 => ?_⟩⟩
  have eB : IntKind.u64.wrap ((n : Int) * 10) = ((n * 10 : Nat) : Int) := by
    rw [show (n : Int) * 10 = ((n * 10 : Nat) : Int) by omega]
    exact ZL (by omega)
  rw [eB, ZL (n := d) (by omega), show ((n * 10 : Nat) : Int) + (d : Int) = ((n * 10 + d : Nat) : Int) by omega]
  by_cases hov : n * 10 + d < 18446744073709551616
  · rw [ZL hov]
    exact ⟨fun c3 => by omega, fun _ => ⟨fun c3 => by have := of_decide_eq_true c3; omega, fun _ => ⟨hi, ok (by omega) hov⟩⟩⟩
  · have e : IntKind.u64.wrap ((n * 10 + d : Nat) : Int) = ((n * 10 + d - 18446744073709551616 : Nat) : Int) := by
      rw [IntKind.wrap_u64]; omega
    rw [e]
    exact ⟨fun c3 => ⟨fun _ => e1 (by omega) (by omega), fun q => (by cases q)⟩, fun c3 => by omega⟩
theorem W9 {s s1 : Str} {Q : Int -> Int -> Prop} (hl : s.length <= 1000)
    (h : ∀ (v e : Int), (e = 0 ∨ e = 1 ∨ e = 2) -> (∀ n : Nat, n < 18446744073709551616 -> s = oU 10 n -> v = n /\ e = 0) -> Q v e) :
    lu (fun (fM : (Bool × Int × Int) -> Prop) (q : Bool × Int × Int) => jy s1 10 Q s 10 64 1844674407370955162 (fun dC bG iQ => fM (dC, bG, iQ)) q.1 q.2.1 q.2.2) (false, 0, 0) := by
  refine Gv (fun q => q.2.2) s.length (fun i q => q.1 = false /\ ∃ n : Nat, q.2.1 = n /\ n < 18446744073709551616 /\ ∀ m, m < 18446744073709551616 -> s = oU 10 m -> n = val 10 (s.take i)) rfl ⟨rfl, 0, rfl, by decide, fun _ _ _ => rfl⟩ ?_
  rintro K i ⟨_, _, _⟩ rfl hi ⟨rfl, n, rfl, hn, hv⟩ hK
  simp only at hv ⊢
  unfold jy
  refine ⟨fun c => ⟨by omega, ?_⟩, fun c => ⟨fun q => (by cases q), fun _ => ⟨fun q => (by cases q), fun _ => h _ _ (.inl rfl) fun m hm e => ⟨?_, rfl⟩⟩⟩⟩
  · have i1 : i < s.length := by omega
    have hg : ((gi s (i : Int)).toNat : Int) = ((s[i].toNat : Nat) : Int) := by rw [iZ i1]
    have h9 : jc Q s 10 64 1844674407370955162 false (n : Int) (i : Int) (fun dC bG iQ => K (dC, bG, iQ)) false := by
      have hmem : ∀ m, m < 18446744073709551616 -> s = oU 10 m -> ∃ k < 10, s[i] = FI k /\ n * 10 + k = val 10 (s.take (i + 1)) /\ n * 10 + k <= m := by
        intro m hm e
        obtain ⟨k, hk, ek⟩ := Ef (b := 10) (by decide) m s[i] (by rw [← e]; exact List.getElem_mem i1)
        have e1 : val 10 (s.take (i + 1)) = n * 10 + k := by
          rw [List.take_succ_eq_append_getElem i1, La, ← hv m hm e, ek, JF k (by omega)]
        have e2 := S9 (b := 10) (by omega) s (i + 1)
        have e3 : val 10 s = m := by rw [e]; exact Jh ⟨by decide, by decide⟩ m
        exact ⟨k, hk, ek, e1.symm, by omega⟩
      refine Zq s[i].toNat_lt hg (fun d hd hdk => abX hn hd (by unfold I64; omega) (fun hbd => h _ _ (.inr (.inr rfl)) fun m hm e => ?_) (fun hdb hov => h _ _ (.inr (.inl rfl)) fun m hm e => ?_) (fun hdb hok => hK (i + 1) _ (by simp) (by omega) (by omega) ⟨rfl, n * 10 + d, rfl, hok, fun m hm e => ?_⟩)) (fun hno => h _ _ (.inr (.inr rfl)) fun m hm e => ?_)
      · obtain ⟨k, hk, ek, _, _⟩ := hmem m hm e
        have := hdk k (by omega) (by rw [ek]); omega
      · obtain ⟨k, hk, ek, _, _⟩ := hmem m hm e
        have := hdk k (by omega) (by rw [ek]); subst this; omega
      · obtain ⟨k, hk, ek, ev, _⟩ := hmem m hm e
        have := hdk k (by omega) (by rw [ek]); subst this; exact ev
      · obtain ⟨k, hk, ek, _, _⟩ := hmem m hm e
        exact absurd (by rw [ek]) (hno k (by omega))
    refine ⟨fun _ => ?_, fun _ => h9⟩
    rw [decide_eq_false (by decide)]; exact h9
  · have i1 : i = s.length := by omega
    rw [hv m hm e, i1, List.take_length, e, Jh ⟨by decide, by decide⟩]
theorem Z8 {s : Str} (hl : s.length <= 1000) {K : Int -> Int -> Prop} (h : ∀ (v e : Int), (e = 0 ∨ e = 1 ∨ e = 2) -> (∀ n : Nat, n < 18446744073709551616 -> s = oU 10 n -> v = n /\ e = 0) -> K v e) : jH s 10 0 K := by
  unfold jH
  refine ⟨fun c => h _ _ (.inr (.inr rfl)) fun n _ es => absurd (es.symm.trans c) (Io _ _), fun c => ?_⟩
  exact ⟨fun _ => ⟨fun _ => ⟨fun _ => ⟨fun _ => ⟨by decide +kernel, by omega, W9 hl h⟩, fun q => absurd rfl q⟩, fun q => absurd rfl q⟩, fun q => absurd q (by decide)⟩, fun q => absurd (by decide) q⟩
theorem afN : IntKind.u64.wrap ((1 : Int) * 2 ^ (min (IntKind.u64.wrap ((64 : Int) - 1)).toNat IntKind.u64.bits)) = 9223372036854775808 := by decide +kernel
theorem YS {x : Int} (h : I64 x) : IntKind.i64.wrap x = x := wrap_i64 h.1 h.2
theorem abP {Q : Int -> Int -> Prop} {neg : Bool} {v : Int} (h : ∀ x : Int, I64 x -> (∀ m : Nat, v = m -> (neg = false -> m < 9223372036854775808 -> x = m) /\ (neg = true -> m <= 9223372036854775808 -> x = -(m : Int))) -> Q x 0) : kP Q neg v := by
  refine ⟨fun hn => h _ (aai _) fun m hm => ⟨fun c => (by rw [hn] at c; cases c), fun _ hle => ?_⟩, fun hn => h _ (aai _) fun m hm => ⟨fun _ hlt => ?_, fun c => (by rw [hn] at c; cases c)⟩⟩
  · subst hm
    by_cases hlt : m < 9223372036854775808
    · rw [YS (x := (m : Int)) (by unfold I64; omega), show (0 : Int) - (m : Int) = -(m : Int) by omega]
      exact YS (by unfold I64; omega)
    · have : m = 9223372036854775808 := by omega
      subst this; decide +kernel
  · subst hm; exact YS (by unfold I64; omega)
theorem abQ {Q : Int -> Int -> Prop} {neg : Bool} {v : Int} (h : ∀ x e : Int, I64 x -> (e = 0 ∨ e = 1) -> (∀ m : Nat, v = m -> (neg = false -> m < 9223372036854775808 -> x = m /\ e = 0) /\ (neg = true -> m <= 9223372036854775808 -> x = -(m : Int) /\ e = 0)) -> Q x e) : kQ 0 Q neg v := by
  have h5 : kP Q neg v := abP fun x hx hm => h x 0 hx (.inl rfl) fun m e => ⟨fun a b => ⟨(hm m e).1 a b, rfl⟩, fun a b => ⟨(hm m e).2 a b, rfl⟩⟩
  refine ⟨fun _ => ?_, fun q => absurd rfl q⟩
  unfold mf l9
  rw [afN]
  refine ⟨by unfold I64; omega, by decide +kernel, fun hn => ⟨fun c => h _ _ (aai _) (.inr rfl) fun m hm => ⟨fun _ b => ?_, fun a => ?_⟩, fun c => ⟨fun a => ?_, fun _ => h5⟩⟩, fun hn => ⟨fun a => ⟨fun c => h _ _ (aai _) (.inr rfl) fun m hm => ⟨fun a' => ?_, fun _ b => ?_⟩, fun _ => h5⟩, fun _ => h5⟩⟩
  · omega
  · rw [a] at hn; cases hn
  · rw [a] at hn; cases hn
  · rw [a'] at hn; cases hn
  · omega
theorem gi0 (a : UInt8) (r : Str) : gi (a :: r) (0 : Int) = a := by
  have := iZ (l := a :: r) (i := 0) (by simp)
  simpa using this
theorem JC {a : UInt8} {c : UInt8} : ((a.toNat : Int) = (c.toNat : Int)) ↔ a = c := by
  constructor
  · intro h; exact UInt8.toNat_inj.1 (by omega)
  · rintro rfl; rfl
theorem Hu {n : Int} {a : UInt8} {r : Str} (h : a :: r = jM n) : (a = 45 /\ ∃ m : Nat, 1 <= m /\ n = -(m : Int) /\ r = oU 10 m) ∨ (a ≠ 45 /\ a ≠ 43 /\ ∃ m : Nat, n = m /\ a :: r = oU 10 m) := by
  rcases KP n with ⟨m, hn, e⟩ | ⟨m, h1, hn, e⟩
  · obtain ⟨k, hk, ek⟩ := Ef (b := 10) (by decide) m a (by rw [← e, ← h]; simp)
    have := Ve k hk
    exact .inr ⟨by rw [ek]; exact this.2.2.1, by rw [ek]; exact this.2.2.2, m, hn, h.trans e⟩
  · rw [e] at h; injection h with h1' h2'
    exact .inl ⟨h1', m, h1, hn, h2'⟩
theorem Z9 {s : Str} (hl : s.length <= 1000) {Q : Int -> Int -> Prop} (h : ∀ v e : Int, I64 v -> (e = 0 ∨ e = 1 ∨ e = 2) -> (∀ n, I64 n -> s = jM n -> v = n /\ e = 0) -> Q v e) : pO s 10 0 Q := by
  refine ⟨fun c => h 0 2 (by unfold I64; omega) (.inr (.inr rfl)) fun n _ e => ?_, fun c => ?_⟩
  · rcases KP n with ⟨m, _, e'⟩ | ⟨m, _, _, e'⟩
    · exact absurd (e'.symm.trans (e.symm.trans c)) (Io _ _)
    · rw [c, e'] at e; cases e
  · obtain ⟨a, r, rfl⟩ : ∃ a r, s = a :: r := by cases s with
      | nil => exact absurd rfl c
      | cons a r => exact ⟨a, r, rfl⟩
    rw [gi0, acH]
    have tail : ∀ (neg : Bool) (s1 : Str), s1.length <= 1000 -> (∀ n, I64 n -> a :: r = jM n -> ∃ m : Nat, s1 = oU 10 m /\ (neg = false /\ n = m ∨ neg = true /\ n = -(m : Int))) -> kR 10 0 Q s1 neg := by
      intro neg s1 h1 hs
      refine Z8 h1 fun v e he hv => ?_
      have go : (e = 0 ∨ e = 1) -> kQ 0 Q neg v := fun he' => abQ fun x e' hx hx' hm => h x e' hx (by omega) fun n hn es => ?_
      · refine ⟨fun c0 => ⟨fun c1 => h 0 e (by unfold I64; omega) he fun n hn es => ?_, fun c1 => go (.inr c1)⟩, fun c0 => go (.inl c0)⟩
        obtain ⟨m, e1, e2⟩ := hs n hn es
        unfold I64 at hn
        exact absurd (hv m (by omega) e1).2 c0
      · obtain ⟨m, e1, e2⟩ := hs n hn es
        unfold I64 at hn
        obtain ⟨v1, v2⟩ := hv m (by omega) e1
        rcases e2 with ⟨q, e2⟩ | ⟨q, e2⟩
        · rw [e2]; exact (hm m v1).1 q (by omega)
        · rw [e2]; exact (hm m v1).2 q (by omega)
    refine ⟨by simp only [List.length_cons]; omega, fun b => ⟨by simp only [List.length_cons]; omega, tail false r (by simp at hl; omega) fun n hn es => ?_⟩, fun b => ⟨fun b' => ⟨by simp only [List.length_cons]; omega, tail true r (by simp at hl; omega) fun n hn es => ?_⟩, fun b' => tail false _ hl fun n hn es => ?_⟩⟩
    · have ha : a = 43 := JC.1 b
      rcases Hu es with ⟨e1, _⟩ | ⟨_, e1, _⟩
      · rw [ha] at e1; exact absurd e1 (by decide)
      · exact absurd ha e1
    · have ha : a = 45 := JC.1 b'
      rcases Hu es with ⟨_, m, _, e1, e2⟩ | ⟨e1, _⟩
      · exact ⟨m, e2, .inr ⟨rfl, e1⟩⟩
      · exact absurd ha e1
    · rcases Hu es with ⟨e1, _⟩ | ⟨_, _, m, e1, e2⟩
      · exact absurd (JC.2 e1) b'
      · exact ⟨m, e2, .inl ⟨rfl, e1⟩⟩
theorem YR {s : Str} (hl : s.length <= 1000) {Q : Int -> Int -> Prop} (h : ∀ v e : Int, I64 v -> (e = 0 ∨ e = 1 ∨ e = 2) -> (∀ n, I64 n -> s = jM n -> v = n /\ e = 0) -> Q v e) : rQ s Q := by
  have slow : pF s Q false := ⟨fun q => (by cases q), fun _ => Z9 hl h⟩
  refine ⟨fun c => ?_, fun _ => slow⟩
  by_cases hs : (s.length : Int) < 19
  · rw [decide_eq_true hs]
    obtain ⟨a, r, rfl⟩ : ∃ a r, s = a :: r := by cases s with
      | nil => simp at c
      | cons a r => exact ⟨a, r, rfl⟩
    have hlr : r.length <= 17 := by simp only [List.length_cons] at hs; omega
    have two : (∀ n, I64 n -> a :: r ≠ jM n) -> Q 0 2 := fun hno => h 0 2 (by unfold I64; omega) (.inr (.inr rfl)) fun n hn es => absurd es (hno n hn)
    have sgn : (a = 45 ∨ a = 43) -> mJ (a :: r) Q true := by
      intro ha
      refine ⟨fun _ => ?_, fun q => (by cases q)⟩
      rw [acH]
      have hno : ∀ (n : Int), a :: r = jM n -> a = 45 /\ ∃ m : Nat, n = -(m : Int) /\ r = oU 10 m := by
        intro n es
        rcases Hu es with ⟨e1, m, _, e2, e3⟩ | ⟨e1, e2, _⟩
        · exact ⟨e1, m, e2, e3⟩
        · exact absurd ha (by simp [e1, e2])
      refine ⟨by simp only [List.length_cons]; omega, fun b => two fun n hn es => ?_, fun b => Wq (by omega) (by simp) (fun e he hb => he ▸ two fun n hn es => ?_) fun n hn hm => ⟨fun e => ?_, fun e => ?_⟩⟩
      · obtain ⟨_, m, _, e3⟩ := hno n es
        have := List.length_pos_iff.2 (Io 10 m)
        rw [← e3] at this; omega
      · obtain ⟨_, m, _, e3⟩ := hno n es
        exact hb m e3
      · refine h _ _ (by unfold I64; omega) (.inl rfl) fun n' hn' es => ?_
        obtain ⟨_, m, e2, e3⟩ := hno n' es
        have := hm m e3
        exact ⟨by rw [e2, this], rfl⟩
      · refine h _ _ (by unfold I64; omega) (.inl rfl) fun n' hn' es => ?_
        obtain ⟨e1, _⟩ := hno n' es
        exact absurd (by rw [e1]; rfl) e
    have pls : (a ≠ 45 /\ a ≠ 43) -> mJ (a :: r) Q false := by
      intro ha
      have hno : ∀ (n : Int), a :: r = jM n -> ∃ m : Nat, n = (m : Int) /\ a :: r = oU 10 m := by
        intro n es
        rcases Hu es with ⟨e1, _⟩ | ⟨_, _, m, e2, e3⟩
        · exact absurd e1 ha.1
        · exact ⟨m, e2, e3⟩
      refine ⟨fun q => (by cases q), fun _ => Wq (by simp only [List.length_cons]; omega) (by simp) (fun e he hb => he ▸ two fun n hn es => ?_) fun n hn hm => ⟨fun e => ?_, fun e => ?_⟩⟩
      · obtain ⟨m, _, e3⟩ := hno n es
        exact hb m e3
      · injection e with e
        exact absurd e ha.1
      · refine h _ _ (by unfold I64; omega) (.inl rfl) fun n' hn' es => ?_
        obtain ⟨m, e2, e3⟩ := hno n' es
        have := hm m e3
        exact ⟨by rw [e2, this], rfl⟩
    refine ⟨fun _ => ?_, fun q => (by cases q)⟩
    rw [gi0]
    refine ⟨by simp only [List.length_cons]; omega, fun b => sgn (.inl (JC.1 b)), fun b => ?_⟩
    by_cases h43 : a = 43
    · rw [decide_eq_true (p := ((a.toNat : Nat) : Int) = 43) (by rw [h43]; rfl)]; exact sgn (.inr h43)
    · rw [decide_eq_false (p := ((a.toNat : Nat) : Int) = 43) (fun q => h43 (JC.1 q))]; exact pls ⟨fun q => b (by rw [q]; rfl), h43⟩
  · rw [decide_eq_false hs]; exact slow
theorem Oy {s : Str} (hl : s.length <= 1000) {Q : Int -> Bool -> Prop} (h : ∀ (v : Int) (e : Bool), I64 v -> (∀ n, I64 n -> s = jM n -> v = n /\ e = false) -> Q v e) : BL s Q :=
  YR hl fun v e hv he hn => ⟨fun c => ⟨⟨by omega, by omega⟩, h v true hv fun n hn' es => absurd (hn n hn' es).2 c⟩, fun c => h v false hv fun n hn' es => ⟨(hn n hn' es).1, rfl⟩⟩
theorem sh4 {x : Int} : x.fdiv (2 ^ (min (4 : Int).toNat IntKind.u8.bits)) = x / 16 := by
  rw [show (2 : Int) ^ (min (4 : Int).toNat IntKind.u8.bits) = 16 by decide +kernel]; exact Int.fdiv_eq_ediv_of_nonneg _ (by decide)
def gG (a : Ad) : Bool := if a.1 = true then decide (b8 a.2 0 = 255) else decide (224 <= b8 a.2 0 /\ b8 a.2 0 <= 239)
theorem V7 {a : Ad} {Q : Bool -> Prop} (h : Q (gG a)) : Fv a Q := by
  unfold gG at h
  have r := Qh a.2 0
  refine ⟨fun c => ?_, fun c => ?_⟩
  · rw [if_pos c] at h; exact h
  · rw [if_neg (by rw [c]; decide)] at h
    rw [sh4, lQ]
    refine ⟨by omega, ?_⟩
    rw [show decide (b8 a.2 0 / 16 % 256 = 14) = decide (224 <= b8 a.2 0 /\ b8 a.2 0 <= 239) from decide_eq_decide.2 (by omega)]
    exact h
theorem V6 {a : Ad} {Q : Bool -> Prop} (h : Q (gG a)) : Aw a Q := by
  unfold gG at h
  refine ⟨fun c => ?_, fun c => ?_⟩
  · rw [if_pos c] at h
    refine ⟨fun d => ?_, fun d => ⟨fun e => (by rw [c] at e; cases e), fun _ => ?_⟩⟩
    · rw [decide_eq_true d] at h; exact h
    · rw [decide_eq_false d] at h; exact h
  · rw [if_neg (by rw [c]; decide)] at h
    refine ⟨fun _ => ⟨fun d => ?_, fun d => ?_⟩, fun e => (by rw [c] at e; cases e)⟩
    · rw [show decide (b8 a.2 0 <= 239) = decide (224 <= b8 a.2 0 /\ b8 a.2 0 <= 239) from decide_eq_decide.2 (by omega)]; exact h
    · rw [decide_eq_false (by omega)] at h; exact h
def zZ (a : Ad) : Bool := decide (a.2 = KW 16 [0, 0, 0, 0, 0, 0, 0, 0, 0, 0, 0, 0, 0, 0, 0, 0])
theorem XK {a : Ad} {Q : Bool -> Prop} (h : Q (zZ a)) : EZ a Q := by
  have h16 := a.2.2
  have z : (KW 16 [0, 0, 0, 0, 0, 0, 0, 0, 0, 0, 0, 0, 0, 0, 0, 0]).1 = List.replicate 16 0 := by decide +kernel
  refine yS 16 (fun i => a.2.1.take i = List.replicate i 0) rfl fun K i hi hI hK => ?_
  show Au a Q _ (i : Int)
  unfold Au
  refine ⟨fun c => ⟨by omega, fun d => ?_, fun d => ⟨by unfold I64; omega, hK (i + 1) (by omega) (by omega) ?_⟩⟩, fun c => ?_⟩
  · have : zZ a = false := decide_eq_false fun e => d (by
      unfold b8; rw [e, z, iZ (by simp; omega), List.getElem_replicate]; rfl)
    rw [this] at h; exact h
  · have e0 : a.2.1[i]'(by omega) = 0 := by
      have : b8 a.2 (i : Int) = 0 := d
      unfold b8 at this; rw [iZ (by omega)] at this
      exact UInt8.toNat_inj.1 (by show _ = 0; omega)
    rw [List.take_succ_eq_append_getElem (by omega), hI, e0, List.replicate_succ']
  · have : i = 16 := by omega
    subst this
    rw [List.take_of_length_le (by omega)] at hI
    have : zZ a = true := decide_eq_true (Subtype.ext (by rw [hI, z]))
    rw [this] at h; exact h
theorem PN {a : Ad} {Q : Bool -> Prop} (h : Q (rU a)) : zo a Q := by
  unfold zo
  refine ⟨fun v => ?_, fun v => ?_⟩
  · unfold rU at h; rw [v] at h; exact h
  · refine ⟨Qh _ _, Qh _ _, Qh _ _, Qh _ _, ?_⟩
    have e : decide ((a : au) = (false, KW 16 [b8 a.2 0, b8 a.2 1, b8 a.2 2, b8 a.2 3, 0, 0, 0, 0, 0, 0, 0, 0, 0, 0, 0, 0])) = rU a := by
      have hm : (KW 16 [b8 a.2 0, b8 a.2 1, b8 a.2 2, b8 a.2 3, 0, 0, 0, 0, 0, 0, 0, 0, 0, 0, 0, 0]).1 = a.2.1.take 4 ++ List.replicate 12 0 := by
        have hl := a.2.2
        apply List.ext_getElem
        · rw [(KW 16 _).2, List.length_append, List.length_take, hl, List.length_replicate]; rfl
        · intro i h1 h2
          rw [(KW 16 _).2] at h1
          have k0 : ∀ j, j < 4 -> ∀ (hj : j < a.2.1.length), UInt8.ofNat (b8 a.2 (j : Int)).toNat = a.2.1[j] := by
            intro j hj hj'
            rw [Uj a.2 (by omega), Int.toNat_natCast, UInt8.ofNat_toNat]
          simp only [KW, List.getElem_map, List.getElem_range]
          by_cases hi : i < 4
          · rw [List.getElem_append_left (by rw [List.length_take, hl]; omega), List.getElem_take]
            rw [← k0 i hi (by omega)]
            congr 2
            rcases i with _ | _ | _ | _ | i
            · rfl
            · rfl
            · rfl
            · rfl
            · omega
          · rw [List.getElem_append_right (by rw [List.length_take, hl]; omega), List.getElem_replicate]
            have : ([b8 a.2 0, b8 a.2 1, b8 a.2 2, b8 a.2 3, 0, 0, 0, 0, 0, 0, 0, 0, 0, 0, 0, 0] : List Int).getD i 0 = 0 := by
              rw [show i = 4 + (i - 4) by omega]
              rcases hq : i - 4 with _ | _ | _ | _ | _ | _ | _ | _ | _ | _ | _ | _ | q
              all_goals first | rfl | omega
            rw [this]; rfl
      unfold rU
      rw [v, Bool.false_or]
      apply decide_eq_decide.2
      constructor
      · intro e
        have h2 : a.2.1 = a.2.1.take 4 ++ List.replicate 12 0 := by rw [← hm]; exact congrArg (fun x : Ad => x.2.1) e
        have h3 : (a.2.1.take 4).length = 4 := by rw [List.length_take, a.2.2]; rfl
        rw [h2, List.drop_append, h3, List.drop_of_length_le (by omega)]; rfl
      · intro e
        have h2 : a.2.1 = a.2.1.take 4 ++ List.replicate 12 0 := by rw [← e, List.take_append_drop]
        exact Prod.ext v (Subtype.ext (h2.trans hm.symm))
    show Q _
    rw [e]; exact h
theorem SB {l : List Ad} {p : Ad -> Bool} {Q : Int -> Prop} (hl : l.length <= 1000000) (h0 : (∀ x ∈ l, p x = false) -> Q (-1)) (h1 : ∀ (i : Nat) (hi : i < l.length), p l[i] = true -> (∀ x ∈ l.take i, p x = false) -> Q (i : Int)) : kU l p Q := by
  refine yS l.length (fun i => ∀ x ∈ l.take i, p x = false) (by simp) fun K i hi hI hK => ?_
  show jv _ _ _ _ _
  unfold jv
  refine ⟨fun c => ⟨by (first | omega | (unfold I64; omega) | (simp only [List.length_append, List.length_cons, List.length_nil, List.length_take, List.length_drop] at *; omega) | (unfold I64; simp only [List.length_append, List.length_cons, List.length_nil, List.length_take, List.length_drop] at *; omega)), ?_⟩, fun c => ?_⟩
  · have hi' : i < l.length := by omega
    rw [iZ hi']
    refine ⟨fun q => h1 i hi' q hI, fun q => ⟨by (first | omega | (unfold I64; omega) | (simp only [List.length_append, List.length_cons, List.length_nil, List.length_take, List.length_drop] at *; omega) | (unfold I64; simp only [List.length_append, List.length_cons, List.length_nil, List.length_take, List.length_drop] at *; omega)), hK (i + 1) (by omega) (by omega) ?_⟩⟩
    intro x hx
    rw [List.take_succ_eq_append_getElem hi'] at hx
    rcases List.mem_append.1 hx with hx | hx
    · exact hI x hx
    · rw [List.mem_singleton] at hx; subst hx; exact q
  · rw [List.take_of_length_le (by omega)] at hI; exact h0 hI
theorem Y5 {a b : List Ad} {Q : Bool -> Prop} (hl : a.length <= 1000000) (h : Q (decide (a = b))) : lS a b Q := by
  refine ⟨fun c => ?_, fun c => ?_⟩
  · have : a ≠ b := fun e => by subst e; exact c rfl
    rw [decide_eq_false this] at h; exact h
  · have c : a.length = b.length := by omega
    refine yS a.length (fun i => a.take i = b.take i) (by simp) fun K i hi hI hK => ?_
    show jS _ _ _ _ _
    unfold jS
    refine ⟨fun d => ⟨by (first | omega | (unfold I64; omega) | (simp only [List.length_append, List.length_cons, List.length_nil, List.length_take, List.length_drop] at *; omega) | (unfold I64; simp only [List.length_append, List.length_cons, List.length_nil, List.length_take, List.length_drop] at *; omega)), by (first | omega | (unfold I64; omega) | (simp only [List.length_append, List.length_cons, List.length_nil, List.length_take, List.length_drop] at *; omega) | (unfold I64; simp only [List.length_append, List.length_cons, List.length_nil, List.length_take, List.length_drop] at *; omega)), ?_⟩, fun d => ?_⟩
    · have h1 : i < a.length := by omega
      have h2 : i < b.length := by omega
      rw [iZ h1, iZ h2]
      refine ⟨fun q => ?_, fun q => ⟨by (first | omega | (unfold I64; omega) | (simp only [List.length_append, List.length_cons, List.length_nil, List.length_take, List.length_drop] at *; omega) | (unfold I64; simp only [List.length_append, List.length_cons, List.length_nil, List.length_take, List.length_drop] at *; omega)), hK (i + 1) (by omega) (by omega) ?_⟩⟩
      · have : a ≠ b := fun e => by subst e; exact q rfl
        rw [decide_eq_false this] at h; exact h
      · rw [List.take_succ_eq_append_getElem h1, List.take_succ_eq_append_getElem h2, hI, q]
    · have hab : a = b := by
        have h3 : i = a.length := by omega
        subst h3
        rw [List.take_length, c, List.take_length] at hI; exact hI
      rw [decide_eq_true hab] at h; exact h
theorem ZT {l : List Ad} {Q : Bool -> Prop} (hl : l.length <= 1000000) (h : ∀ b, (b = true ↔ AX l) -> Q b) : Gl l Q := by
  refine yS l.length (fun i => AX (l.take i)) (by simpa using AX.nil) fun K i hi hI hK => ?_
  show BN _ _ _ _
  unfold BN
  refine ⟨fun c => ⟨by (first | omega | (unfold I64; omega) | (simp only [List.length_append, List.length_cons, List.length_nil, List.length_take, List.length_drop] at *; omega) | (unfold I64; simp only [List.length_append, List.length_cons, List.length_nil, List.length_take, List.length_drop] at *; omega)), PN ⟨fun q => ?_, fun q => ⟨fun d => ⟨by (first | omega | (unfold I64; omega) | (simp only [List.length_append, List.length_cons, List.length_nil, List.length_take, List.length_drop] at *; omega) | (unfold I64; simp only [List.length_append, List.length_cons, List.length_nil, List.length_take, List.length_drop] at *; omega)), by (first | omega | (unfold I64; omega) | (simp only [List.length_append, List.length_cons, List.length_nil, List.length_take, List.length_drop] at *; omega) | (unfold I64; simp only [List.length_append, List.length_cons, List.length_nil, List.length_take, List.length_drop] at *; omega)), Wy ⟨fun r => ?_, fun r => ⟨by (first | omega | (unfold I64; omega) | (simp only [List.length_append, List.length_cons, List.length_nil, List.length_take, List.length_drop] at *; omega) | (unfold I64; simp only [List.length_append, List.length_cons, List.length_nil, List.length_take, List.length_drop] at *; omega)), hK (i + 1) (by omega) (by omega) ?_⟩⟩⟩, fun d => ⟨by (first | omega | (unfold I64; omega) | (simp only [List.length_append, List.length_cons, List.length_nil, List.length_take, List.length_drop] at *; omega) | (unfold I64; simp only [List.length_append, List.length_cons, List.length_nil, List.length_take, List.length_drop] at *; omega)), hK (i + 1) (by omega) (by omega) ?_⟩⟩⟩⟩, fun c => ?_⟩
  · refine h false ⟨fun q => (by cases q), fun hs => ?_⟩
    rw [iZ (show i < l.length by omega)] at q
    have := hs.good l[i] (List.getElem_mem _)
    rw [this] at q; cases q
  · refine h false ⟨fun q => (by cases q), fun hs => ?_⟩
    have e1 : ((i : Int) - 1) = ((i - 1 : Nat) : Int) := by omega
    rw [e1, iZ (show i - 1 < l.length by omega), iZ (show i < l.length by omega)] at r
    have := List.pairwise_iff_getElem.1 hs.rise (i - 1) i (by omega) (by omega) (by omega)
    unfold Vq at this; omega
  · have hi' : i < l.length := by omega
    have e1 : ((i : Int) - 1) = ((i - 1 : Nat) : Int) := by omega
    rw [e1, iZ (show i - 1 < l.length by omega), iZ hi'] at r
    rw [iZ hi'] at q
    have hg : rU l[i] = true := by simpa using q
    rw [List.take_succ_eq_append_getElem hi']
    refine ⟨?_, fun x hx => ?_⟩
    · rw [List.pairwise_append]
      refine ⟨hI.rise, by simp, fun x hx y hy => ?_⟩
      rw [List.mem_singleton] at hy; subst hy
      obtain ⟨k, hk, rfl⟩ := List.mem_iff_getElem.1 hx
      rw [List.length_take] at hk
      rw [List.getElem_take]
      have hlast : Vq l[i - 1] l[i] := by unfold Vq; omega
      by_cases e : k = i - 1
      · subst e; exact hlast
      · have := List.pairwise_iff_getElem.1 hI.rise k (i - 1) (by rw [List.length_take]; omega) (by rw [List.length_take]; omega) (by omega)
        rw [List.getElem_take, List.getElem_take] at this
        exact JY _ _ _ this hlast
    · rw [List.mem_append, List.mem_singleton] at hx
      rcases hx with hx | rfl
      · exact hI.good x hx
      · exact hg
  · have hi' : i < l.length := by omega
    rw [iZ hi'] at q
    have hg : rU l[i] = true := by simpa using q
    have : i = 0 := by omega
    subst this
    rw [List.take_succ_eq_append_getElem hi', List.take_zero, List.nil_append]
    exact ⟨by simp, by simpa using hg⟩
  · rw [List.take_of_length_le (by omega)] at hI
    exact h true ⟨fun _ => hI, fun _ => rfl⟩
theorem WV {e e2 : Bool} {s t : List Ad} {Q : Bool -> Prop} (hl : s.length <= 1000) (h : Q (decide ((e, s) = (e2, t)))) : EY e s e2 t Q := by
  refine ⟨fun c => Tm (by omega) ?_, fun c => ?_⟩
  · have c : e = e2 := by simpa using c
    subst c; simpa using h
  · have c : e ≠ e2 := by simpa using c
    have : decide ((e, s) = (e2, t)) = false := decide_eq_false fun q => c (congrArg Prod.fst q)
    rw [this] at h; exact h
theorem WW {e e2 : Bool} {s t : List Ad} {Q : Bool -> Prop} (hl : s.length <= 1000) (h : Q (decide ((e, s) = (e2, t)))) : Fb e s e2 t Q := by
  refine ⟨fun c => Y5 (by omega) ?_, fun c => ?_⟩
  · have c : e = e2 := by simpa using c
    subst c; simpa using h
  · have c : e ≠ e2 := by simpa using c
    have : decide ((e, s) = (e2, t)) = false := decide_eq_false fun q => c (congrArg Prod.fst q)
    rw [this] at h; exact h
end Go.Wk
