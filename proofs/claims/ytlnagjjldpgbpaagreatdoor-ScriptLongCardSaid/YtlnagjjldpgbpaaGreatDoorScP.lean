/- Plain words for one law: what it needs. -/
import Derived.Test.YtlnagjjldpgbpaaGreatDoorScrW8
import Derived.Test.YtlnagjjldpgbpaaGreatDoorPl2
import Derived.Test.YtlnagjjldpgbpaaGreatDoorStrP
import Derived.Laws.BitsAllLaws
import Derived.Lib.ItoaMem
import Derived.Lib.ItoaLen
set_option linter.unusedSimpArgs false
set_option linter.unusedVariables false
set_option linter.unusedSectionVars false
namespace Go.Wk
open Go.HL
variable [DM]
def dgs : Str := [48, 49, 50, 51, 52, 53, 54, 55, 56, 57, 97, 98, 99, 100, 101, 102, 103, 104, 105, 106, 107, 108, 109, 110, 111, 112, 113, 114, 115, 116, 117, 118, 119, 120, 121, 122]
def Dw (k : Nat) : UInt8 := dgs.getD k 0
def mP (b n : Nat) : Str := if h : n < b ∨ b < 2 then [Dw n] else mP b (n / b) ++ [Dw (n % b)]
termination_by n
decreasing_by exact Nat.div_lt_self (by omega) (by omega)
theorem Bi {b n : Nat} (h : n < b) : mP b n = [Dw n] := by rw [mP, dif_pos (.inl h)]
theorem Dh {b n : Nat} (hb : 2 <= b) (h : b <= n) : mP b n = mP b (n / b) ++ [Dw (n % b)] := by
  rw [mP, dif_neg (by omega)]
theorem FI (b n : Nat) : mP b n ≠ [] := by
  rw [mP]; split <;> simp
theorem Wu {b : Nat} (hb : 2 <= b) : ∀ n, (mP b n).length <= n + 1 := by
  intro n
  induction n using Nat.strongRecOn with
  | _ n ih =>
    by_cases h : n < b
    · rw [Bi h]; simp
    · have h1 : n / b < n := Nat.div_lt_self (by omega) (by omega)
      have := ih _ h1
      rw [Dh hb (by omega), List.length_append]
      simp only [List.length_cons, List.length_nil]; omega
theorem Zo : ∀ k < 10, Dw k = UInt8.ofNat (48 + k) := by decide
theorem NR : ∀ n, Lib.decDigits n = mP 10 n := by
  intro n
  induction n using Nat.strongRecOn with
  | _ n ih =>
    by_cases h : n < 10
    · rw [Bi h, Lib.decDigits, dif_pos h, Zo n h]
    · rw [Dh (by decide) (by omega), Lib.decDigits, dif_neg h, ih _ (Nat.div_lt_self (by omega) (by decide)), Zo _ (Nat.mod_lt _ (by decide))]
theorem Vh (n : Nat) : jo (n : Int) = mP 10 n := by unfold jo; rw [Lib.itoa_nonneg, NR]
theorem UQ : ∀ k < 16, ((0 : Int) <= ((k : Nat) : Int) /\ ((k : Nat) : Int) <= ((jh (((k : Nat) : Int) + 1)).toNat : Int) /\ ((jh (((k : Nat) : Int) + 1)).toNat : Int) <= 16) /\ cut ([48, 49, 50, 51, 52, 53, 54, 55, 56, 57, 97, 98, 99, 100, 101, 102] : Str) ((k : Nat) : Int) ((jh (((k : Nat) : Int) + 1)).toNat : Int) = [Dw k] := by decide +kernel
theorem PR {k : Nat} (hk : k < 16) {Q : Str -> Prop} (h : Q [Dw k]) : xu (k : Int) Q := by
  obtain ⟨h1, h2⟩ := UQ k hk
  refine ⟨h1, ?_⟩
  rw [h2]; exact h
theorem XT {k : Nat} (h : k < 256) : ((jh (k : Int)).toNat : Int) = k := by rw [jJ]; omega
theorem Sv {b n : Nat} (hb : 2 <= b /\ b <= 16) (hn : n <= 10000000) {Q : Str -> Prop} (h : Q (mP b n)) : yU (n : Int) (b : Int) Q := by
  refine ⟨fun s => (s = ((n : Int), [])) ∨ ∃ m : Nat, s.1 = m /\ s.2 ≠ [] /\ s.2.length <= n + 1 /\ ((m = 0 /\ s.2 = mP b n) ∨ (0 < m /\ m <= n /\ mP b n = mP b m ++ s.2)), fun s => if s.2 = [] then n + 1 else s.1.toNat, .inl rfl, ?_⟩
  have hlen := Wu hb.1 n
  have step : ∀ (m : Nat) (s : Str) (K : Int -> Str -> Prop), m <= n -> s.length <= n + 1 -> mP b n = mP b m ++ s ->
      (∀ m' s', m' < m + 1 -> (m' < m ∨ m = 0) -> s' ≠ [] -> s'.length <= n + 1 -> ((m' = 0 /\ s' = mP b n) ∨ (0 < m' /\ m' <= n /\ mP b n = mP b m' ++ s')) -> K (m' : Int) s') -> zD (b : Int) (m : Int) s K := by
    intro m s K hm hs he hK
    refine ⟨by omega, ?_⟩
    have e1 : ((m : Int).tmod (b : Int)) = ((m % b : Nat) : Int) := by rw [Int.tmod_eq_emod_of_nonneg (by omega)]; rfl
    have e2 : ((m : Int).tdiv (b : Int)) = ((m / b : Nat) : Int) := by rw [Int.tdiv_eq_ediv_of_nonneg (by omega)]; rfl
    have hlt : m % b < 16 := Nat.lt_of_lt_of_le (Nat.mod_lt _ (by omega)) hb.2
    rw [e1, e2, XT (by omega)]
    have hd : m / b <= m := Nat.div_le_self _ _
    refine PR hlt ⟨by simp only [List.length_cons, List.length_nil]; omega, (by unfold I64; have h0 : (0 : Int) <= ((m / b : Nat) : Int) := Int.natCast_nonneg _; have h1 : ((m / b : Nat) : Int) <= (m : Int) := Int.ofNat_le.2 hd; constructor <;> omega), hK _ _ (by omega) ?_ (List.cons_ne_nil _ _) ?_ ?_⟩
    · by_cases h0 : m = 0
      · exact .inr h0
      · exact .inl (Nat.div_lt_self (by omega) (by omega))
    · by_cases hmb : m < b
      · rw [Bi hmb] at he
        rw [Nat.mod_eq_of_lt hmb]
        have := congrArg List.length he
        simp only [List.length_append, List.length_cons, List.length_nil] at this ⊢; omega
      · rw [Dh (n := m) hb.1 (by omega)] at he
        have := congrArg List.length he
        have h2 := List.length_pos_iff.2 (FI b (m / b))
        simp only [List.length_append, List.length_cons, List.length_nil] at this ⊢; omega
    · by_cases hmb : m < b
      · refine .inl ⟨Nat.div_eq_of_lt hmb, ?_⟩
        rw [he, Bi hmb, Nat.mod_eq_of_lt hmb]
      · refine .inr ⟨Nat.div_pos (by omega) (by omega), by omega, ?_⟩
        rw [he, Dh (n := m) hb.1 (by omega), List.append_assoc]
  rintro ⟨x, s⟩ hI
  simp only at hI ⊢
  unfold Df
  rcases hI with hI | ⟨m, rfl, hs, hsl, hm⟩
  · injection hI with e1 e2
    subst e1 e2
    refine ⟨fun _ => step n [] _ (Nat.le_refl _) (by simp) (by simp) fun m' s' h1 h2 h3 h4 h5 => ⟨.inr ⟨m', rfl, h3, h4, h5⟩, ?_⟩, fun c => absurd rfl c⟩
    rw [if_neg h3, if_pos rfl]; omega
  · refine ⟨fun c => absurd c hs, fun _ => ⟨fun c => ?_, fun c => ?_⟩⟩
    · rcases hm with ⟨rfl, _⟩ | ⟨h0, h1, h2⟩
      · omega
      · refine step m s _ h1 hsl h2 fun m' s' h1 h2 h3 h4 h5 => ⟨.inr ⟨m', rfl, h3, h4, h5⟩, ?_⟩
        rw [if_neg h3, if_neg hs]
        rcases h2 with h2 | h2 <;> omega
    · rcases hm with ⟨rfl, rfl⟩ | ⟨h0, _⟩
      · exact h
      · omega
theorem acO {Q : Int -> Prop} (h : Q 4) : oh (IntKind.u64.wrap 16) Q := by
  have e : b8 gX ((IntKind.u64.wrap ((bits .and .u64 (IntKind.u64.wrap 16) (IntKind.u64.wrap (0 - (IntKind.u64.wrap 16)))) * 285870213051353865)).fdiv (2 ^ (min (58 : Int).toNat IntKind.u64.bits))) = 4 := by decide +kernel
  refine ⟨fun c => absurd c (by decide), fun _ => ⟨by decide +kernel, ?_⟩⟩
  rw [e]; exact ⟨by decide, h⟩
theorem Xw {n : Nat} (X : Ba n) {i : Nat} (h0 : i < n) (v : Int) : cut (setB X (i : Int) v).1 (i : Int) (n : Int) = UInt8.ofNat v.toNat :: cut X.1 ((i : Int) + 1) (n : Int) := by
  have hl : (setB X (i : Int) v).1 = X.1.set i (UInt8.ofNat v.toNat) := by unfold setB; simp
  have hn := X.2
  rw [hl]
  unfold cut
  rw [List.take_of_length_le (by rw [List.length_set]; omega), List.take_of_length_le (by omega)]
  have e1 : ((i : Int)).toNat = i := by omega
  have e2 : ((i : Int) + 1).toNat = i + 1 := by omega
  rw [e1, e2, List.drop_eq_getElem_cons (by rw [List.length_set]; omega), List.getElem_set_self, List.drop_set_of_lt (by omega)]
theorem Z7 {k : Nat} (hk : k < 36) : gi dgs (k : Int) = Dw k := by
  have : k < dgs.length := hk
  rw [iP this]; unfold Dw; rw [List.getD_eq_getElem?_getD, List.getElem?_eq_getElem this]; rfl
theorem YU (a : Ba 65) {j k : Nat} (hj : j <= 63) (hk : k < 36) : cut (setB a (65 - (j : Int) - 1) ((gi dgs (k : Int)).toNat : Int)).1 (65 - (j : Int) - 1) 65 = Dw k :: cut a.1 (65 - (j : Int)) 65 := by
  have e : (65 - (j : Int) - 1) = ((64 - j : Nat) : Int) := by omega
  have e2 : (65 - (j : Int)) = ((64 - j : Nat) : Int) + 1 := by omega
  rw [e, e2, Z7 hk]
  have := Xw a (i := 64 - j) (by omega) ((Dw k).toNat : Int)
  rw [show ((65 : Nat) : Int) = 65 from rfl] at this
  rw [this]
  congr 1
  rw [Int.toNat_natCast, UInt8.ofNat_toNat]
theorem acs (u : Nat) (hu : u < 18446744073709551616) : bits .and .u64 (u : Int) (IntKind.u64.wrap ((IntKind.u64.wrap 16) - 1)) = ((u % 16 : Nat) : Int) := by
  have e : IntKind.u64.wrap ((IntKind.u64.wrap 16) - 1) = ((15 : Nat) : Int) := by decide +kernel
  rw [e, Go.u64_and_nat u 15 hu (by decide)]
  congr 1
  exact Nat.and_two_pow_sub_one_eq_mod u 4
theorem Xc {n : Nat} (hn : n < 65536) {Q : Str -> Prop} (h : Q (mP 16 n)) : pW (n : Int) 16 Q := by
  unfold pW mJ mg jk kY
  refine ⟨fun c => absurd c (by decide), fun _ => ⟨fun c => absurd c (by decide), fun _ => ⟨fun c => absurd c (by decide), fun _ => ⟨fun c => absurd c (by decide), fun _ => ⟨by decide, fun _ => acO ?_, fun c => absurd c (by decide +kernel)⟩⟩⟩⟩⟩
  have e16 : IntKind.u64.wrap 16 = 16 := by decide +kernel
  have e4 : (2 : Int) ^ (min (IntKind.u64.wrap 4).toNat IntKind.u64.bits) = 16 := by decide +kernel
  refine ⟨fun s => ∃ u j : Nat, s.1 = (u : Int) /\ s.2.2 = 65 - (j : Int) /\ u * 16 ^ j <= n /\ (j = 0 ∨ 1 <= u) /\ mP 16 n = mP 16 u ++ cut s.2.1.1 (65 - (j : Int)) 65, fun s => s.1.toNat, ⟨n, 0, rfl, rfl, by simp, .inl rfl, ?_⟩, ?_⟩
  · have : cut (default : Ba 65).1 (65 - ((0 : Nat) : Int)) 65 = [] := by
      unfold cut
      apply List.drop_eq_nil_of_le
      rw [List.length_take]
      exact Nat.le_trans (Nat.min_le_left _ _) (by decide)
    rw [this, List.append_nil]
  rintro ⟨x, a, i⟩ ⟨u, j, rfl, rfl, hle, hj, he⟩
  simp only at hle hj he ⊢
  have hj3 : j <= 3 := by
    rcases hj with rfl | hu
    · omega
    · have h1 : 1 * 16 ^ j <= u * 16 ^ j := Nat.mul_le_mul_right _ hu
      have h2 : 16 ^ j < 16 ^ 4 := by omega
      have := (Nat.pow_lt_pow_iff_right (a := 16) (by decide)).1 h2
      omega
  have hu : u <= n := Nat.le_trans (Nat.le_mul_of_pos_right u (Nat.pow_pos (by decide))) hle
  unfold lM
  rw [e16, e4]
  refine ⟨fun c => ?_, fun c => ?_⟩
  · have c : 16 <= u := by omega
    have hm : u % 16 < 16 := Nat.mod_lt _ (by decide)
    have ea := acs u (by omega)
    rw [e16] at ea
    rw [ea]
    have ef : (u : Int).fdiv 16 = ((u / 16 : Nat) : Int) := by rw [Int.fdiv_eq_ediv_of_nonneg _ (by decide)]; rfl
    rw [ef]
    refine ⟨by (first | omega | (unfold I64; omega) | (simp only [List.length_append, List.length_cons, List.length_nil, List.length_take, List.length_drop] at *; omega) | (unfold I64; simp only [List.length_append, List.length_cons, List.length_nil, List.length_take, List.length_drop] at *; omega)), ⟨by omega, by show _ < (36 : Int); omega⟩, by omega, by decide +kernel, ⟨u / 16, j + 1, rfl, by omega, ?_, .inr (by omega), ?_⟩, by simp only [Int.toNat_natCast]; omega⟩
    · rw [Nat.pow_succ, Nat.mul_comm (16 ^ j) 16, ← Nat.mul_assoc]
      exact Nat.le_trans (Nat.mul_le_mul_right _ (Nat.div_mul_le_self u 16)) hle
    · rw [Dh (by decide) c] at he
      rw [he, List.append_assoc]
      congr 1
      have := YU a (j := j) (k := u % 16) (by omega) (by omega)
      rw [show (65 - ((j + 1 : Nat) : Int)) = 65 - (j : Int) - 1 by omega]
      exact this.symm
  · have c : u < 16 := by omega
    refine ⟨by (first | omega | (unfold I64; omega) | (simp only [List.length_append, List.length_cons, List.length_nil, List.length_take, List.length_drop] at *; omega) | (unfold I64; simp only [List.length_append, List.length_cons, List.length_nil, List.length_take, List.length_drop] at *; omega)), ⟨by omega, by show _ < (36 : Int); omega⟩, by omega, ⟨by omega, ?_⟩⟩
    have := YU a (j := j) (k := u) (by omega) (by omega)
    have e2 : cut (setB a (65 - (j : Int) - 1) ((gi dgs (u : Int)).toNat : Int)).1 (65 - (j : Int) - 1) 65 = mP 16 n := by
      rw [this, he, Bi c]; rfl
    show Q (cut (setB a (65 - (j : Int) - 1) ((gi dgs (u : Int)).toNat : Int)).1 (65 - (j : Int) - 1) 65)
    rw [e2]; exact h
def Vr (c : UInt8) : Nat := (dgs.idxOf c)
def val (b : Nat) (l : Str) : Nat := l.foldl (fun a c => a * b + Vr c) 0
theorem Hy : ∀ k < 36, Vr (Dw k) = k := by decide
theorem Jf (b : Nat) (l : Str) (c : UInt8) : val b (l ++ [c]) = val b l * b + Vr c := by unfold val; rw [List.foldl_append]; rfl
theorem Um {b : Nat} (hb : 1 <= b) : ∀ (l : Str) (a : Nat), a <= l.foldl (fun a c => a * b + Vr c) a
  | [], _ => Nat.le_refl _
  | c :: l, a => by
    refine Nat.le_trans ?_ (Um hb l (a * b + Vr c))
    exact Nat.le_trans (Nat.le_mul_of_pos_right a hb) (Nat.le_add_right _ _)
theorem Qs {b : Nat} (hb : 1 <= b) (l : Str) (i : Nat) : val b (l.take i) <= val b l := by
  conv => rhs; rw [← List.take_append_drop i l]
  unfold val
  rw [List.foldl_append]
  exact Um hb _ _
theorem GH {b : Nat} (hb : 2 <= b /\ b <= 36) : ∀ n, val b (mP b n) = n := by
  intro n
  induction n using Nat.strongRecOn with
  | _ n ih =>
    by_cases h : n < b
    · rw [Bi h]
      show 0 * b + Vr (Dw n) = n
      rw [Hy n (by omega)]; omega
    · have hm : n % b < b := Nat.mod_lt _ (by omega)
      rw [Dh hb.1 (by omega), Jf, ih _ (Nat.div_lt_self (by omega) (by omega)), Hy _ (by omega)]
      exact Nat.div_add_mod' n b
theorem BI {b : Nat} (hb : 2 <= b) : ∀ n, ∀ c ∈ mP b n, ∃ k < b, c = Dw k := by
  intro n
  induction n using Nat.strongRecOn with
  | _ n ih =>
    intro c hc
    by_cases h : n < b
    · rw [Bi h] at hc
      exact ⟨n, h, List.mem_singleton.1 hc⟩
    · rw [Dh hb (by omega)] at hc
      rcases List.mem_append.1 hc with q | q
      · exact ih _ (Nat.div_lt_self (by omega) (by omega)) c q
      · exact ⟨n % b, Nat.mod_lt _ (by omega), List.mem_singleton.1 q⟩
theorem acV {c : Nat} (hc : c < 256) : (0 : Int) <= bits .or .u8 (c : Int) 32 /\ bits .or .u8 (c : Int) 32 < 256 := by
  have e := Go.u8_or_nat c 32 hc (by decide)
  rw [show ((32 : Nat) : Int) = 32 from rfl] at e
  rw [e]
  have : c ||| 32 < 2 ^ 8 := Nat.or_lt_two_pow (by omega) (by decide)
  omega
theorem Nw {c : Nat} (hc : c < 256) {Q : Int -> Prop} (h : ∀ r : Nat, r < 256 -> (∀ k < 16, 10 <= k -> c = 87 + k -> r = c) -> Q (r : Int)) : dP (c : Int) Q := by
  have h1 := acV hc
  refine ⟨h1, ?_⟩
  refine h _ (by have := (jh (bits .or .u8 (c : Int) 32)).toNat_lt; omega) fun k hk hk2 e => ?_
  have h2 := jJ (bits .or .u8 (c : Int) 32)
  rw [Int.emod_eq_of_lt h1.1 h1.2] at h2
  have hf : ∀ k < 16, 10 <= k -> bits .or .u8 ((87 + k : Nat) : Int) 32 = ((87 + k : Nat) : Int) := by decide +kernel
  have := hf k hk hk2
  rw [← e] at this
  omega
structure PuC (b w : Nat) (bI wI cutoff : Int) : Prop where
  hb : 2 <= b /\ b <= 16
  hw : 2 ^ w <= 65536
  h0 : 1 <= 2 ^ w
  eM : IntKind.u64.wrap ((IntKind.u64.wrap ((1 : Int) * 2 ^ (min (IntKind.u64.wrap wI).toNat IntKind.u64.bits))) - 1) = ((2 ^ w - 1 : Nat) : Int)
  hc : ((2 ^ w : Nat) : Int) <= cutoff
  e8 : ((jh bI).toNat : Int) = b
  e64 : IntKind.u64.wrap bI = b
  nz : ¬ bI = 0
theorem XR {n : Nat} (h : n < 18446744073709551616) : IntKind.u64.wrap (n : Int) = n := by rw [IntKind.wrap_u64]; omega
theorem abd {b w : Nat} {bI wI cutoff : Int} (C : PuC b w bI wI cutoff) {Q : Int -> Int -> Prop} {K : Bool -> Int -> Int -> Prop} {i : Int} {n d : Nat} (hn : n < 2 ^ w) (hd : d < 256) (hi : I64 (i + 1))
    (e2 : b <= d -> Q 0 2) (e1 : d < b -> 2 ^ w <= n * b + d -> Q ((2 ^ w - 1 : Nat) : Int) 1) (ok : d < b -> n * b + d < 2 ^ w -> K false ((n * b + d : Nat) : Int) (i + 1)) :
    fP Q bI wI cutoff false (n : Int) i K (d : Int) := by
  have hw := C.hw
  have hb := C.hb
  have hnb : n * b <= 65536 * 16 := Nat.mul_le_mul (by omega) hb.2
  have eB : IntKind.u64.wrap ((n : Int) * IntKind.u64.wrap bI) = ((n * b : Nat) : Int) := by
    rw [C.e64, show (n : Int) * (b : Int) = ((n * b : Nat) : Int) by rw [Int.natCast_mul]]
    exact XR (by omega)
  have eA : IntKind.u64.wrap (IntKind.u64.wrap ((n : Int) * IntKind.u64.wrap bI) + IntKind.u64.wrap (d : Int)) = ((n * b + d : Nat) : Int) := by
    rw [eB, XR (n := d) (by omega), show ((n * b : Nat) : Int) + (d : Int) = ((n * b + d : Nat) : Int) by omega]
    exact XR (by omega)
  unfold fP
  rw [C.e8, eA, eB, C.eM]
  refine ⟨fun c => e2 (by omega), fun c => ⟨fun c2 => ?_, fun _ => ⟨fun c3 => by omega, fun _ => ?_⟩⟩⟩
  · have := C.hc; omega
  · unfold jl
    rw [C.eM, eA]
    have h0 := C.h0
    refine ⟨fun c3 => e1 (by omega) (by have := of_decide_eq_true c3; omega), fun c3 => ⟨hi, ok (by omega) (by have := of_decide_eq_false c3; omega)⟩⟩
theorem adJ : ∀ k < 16, (Dw k).toNat = if k < 10 then 48 + k else 87 + k := by decide
theorem Xy {bI wI cutoff : Int} {Q : Int -> Int -> Prop} {K : Bool -> Int -> Int -> Prop} {s : Str} {n i : Int} {c : Nat} (hc : c < 256) (hg : ((gi s i).toNat : Int) = (c : Int))
    (hd : ∀ d : Nat, d < 256 -> (∀ k < 16, c = (Dw k).toNat -> d = k) -> fP Q bI wI cutoff false n i K (d : Int)) (he : (∀ k < 16, c ≠ (Dw k).toNat) -> Q 0 2) :
    gY Q s bI wI cutoff false n i K false := by
  refine ⟨fun q => (by cases q), fun _ => ?_⟩
  have hdig : ∀ k < 16, c = (Dw k).toNat -> c = if k < 10 then 48 + k else 87 + k := fun k hk e => by rw [e, adJ k hk]
  have j10 : ∀ q : Bool, q = decide (48 <= c /\ c <= 57) -> jm Q s bI wI cutoff false n i K q := by
    intro q hq
    unfold jm
    rw [hg]
    refine ⟨fun h => ?_, fun h => ?_⟩
    · rw [h] at hq
      have hr := of_decide_eq_true hq.symm
      have e := jJ ((c : Int) - 48)
      rw [Int.emod_eq_of_lt (by omega) (by omega)] at e
      have ed : ((jh ((c : Int) - 48)).toNat : Int) = ((c - 48 : Nat) : Int) := by omega
      rw [ed]
      refine hd _ (by omega) fun k hk e => ?_
      have := hdig k hk e
      split at this <;> omega
    · rw [h] at hq
      have hr := of_decide_eq_false hq.symm
      have hk10 : ∀ k < 16, c = (Dw k).toNat -> 10 <= k /\ c = 87 + k := by
        intro k hk e
        have := hdig k hk e
        split at this <;> omega
      refine Nw hc fun r4 h4 f4 => ⟨fun a => Nw hc fun r5 h5 f5 => ⟨fun b => ?_, fun b => he fun k hk e => ?_⟩, fun a => ⟨fun b => (by cases b), fun _ => he fun k hk e => ?_⟩⟩
      · rw [hg]
        refine Nw hc fun r6 h6 f6 => ?_
        have e1 := jJ ((r6 : Int) - 97)
        have e2 := jJ (((jh ((r6 : Int) - 97)).toNat : Int) + 10)
        have hlt := (jh (((jh ((r6 : Int) - 97)).toNat : Int) + 10)).toNat_lt
        refine hd _ (by omega) fun k hk e => ?_
        obtain ⟨k1, k2⟩ := hk10 k hk e
        have := f6 k hk k1 k2
        omega
      · obtain ⟨k1, k2⟩ := hk10 k hk e
        have := f5 k hk k1 k2
        have := of_decide_eq_false b
        omega
      · obtain ⟨k1, k2⟩ := hk10 k hk e
        have := f4 k hk k1 k2
        omega
  unfold gY at *
  rw [hg]
  refine ⟨fun a => j10 _ ?_, fun a => j10 _ ?_⟩
  · rw [Bool.eq_iff_iff, decide_eq_true_eq, decide_eq_true_eq]; omega
  · exact (decide_eq_false (by omega)).symm
theorem TN {b w : Nat} {bI wI cutoff : Int} (C : PuC b w bI wI cutoff) {s s1 : Str} {Q : Int -> Int -> Prop} (hl : s.length <= 1000)
    (h : ∀ (v e : Int), (e = 0 ∨ e = 1 ∨ e = 2) -> (∀ n : Nat, n < 2 ^ w -> s = mP b n -> v = n /\ e = 0) -> Q v e) :
    kG (fun (eY : (Bool × Int × Int) -> Prop) (q : Bool × Int × Int) => iO s1 bI Q s bI wI cutoff (fun cO bn gJ => eY (cO, bn, gJ)) q.1 q.2.1 q.2.2) (false, 0, 0) := by
  have hb := C.hb
  refine FM (fun q => q.2.2) s.length (fun i q => q.1 = false /\ ∃ n : Nat, q.2.1 = n /\ n < 2 ^ w /\ ∀ m, m < 2 ^ w -> s = mP b m -> n = val b (s.take i)) rfl ⟨rfl, 0, rfl, by have := C.h0; omega, fun _ _ _ => rfl⟩ ?_
  rintro K i ⟨_, _, _⟩ rfl hi ⟨rfl, n, rfl, hn, hv⟩ hK
  simp only at hv ⊢
  unfold iO
  refine ⟨fun c => ⟨by omega, ?_⟩, fun c => ⟨fun q => (by cases q), fun _ => ⟨fun q => (by cases q), fun _ => h _ _ (.inl rfl) fun m hm e => ⟨?_, rfl⟩⟩⟩⟩
  · have i1 : i < s.length := by omega
    have hg : ((gi s (i : Int)).toNat : Int) = ((s[i].toNat : Nat) : Int) := by rw [iP i1]
    have h9 : gY Q s bI wI cutoff false (n : Int) (i : Int) (fun cO bn gJ => K (cO, bn, gJ)) false := by
      have hmem : ∀ m, m < 2 ^ w -> s = mP b m -> ∃ k < b, s[i] = Dw k /\ n * b + k = val b (s.take (i + 1)) /\ n * b + k <= m := by
        intro m hm e
        obtain ⟨k, hk, ek⟩ := BI hb.1 m s[i] (by rw [← e]; exact List.getElem_mem i1)
        have e1 : val b (s.take (i + 1)) = n * b + k := by
          rw [List.take_succ_eq_append_getElem i1, Jf, ← hv m hm e, ek, Hy k (by omega)]
        have e2 := Qs (b := b) (by omega) s (i + 1)
        have e3 : val b s = m := by rw [e]; exact GH ⟨hb.1, by omega⟩ m
        exact ⟨k, hk, ek, e1.symm, by omega⟩
      refine Xy s[i].toNat_lt hg (fun d hd hdk => abd C hn hd (by (first | omega | (unfold I64; omega) | (simp only [List.length_append, List.length_cons, List.length_nil, List.length_take, List.length_drop] at *; omega) | (unfold I64; simp only [List.length_append, List.length_cons, List.length_nil, List.length_take, List.length_drop] at *; omega))) (fun hbd => h _ _ (.inr (.inr rfl)) fun m hm e => ?_) (fun hdb hov => h _ _ (.inr (.inl rfl)) fun m hm e => ?_) (fun hdb hok => hK (i + 1) _ (by simp) (by omega) (by omega) ⟨rfl, n * b + d, rfl, hok, fun m hm e => ?_⟩)) (fun hno => h _ _ (.inr (.inr rfl)) fun m hm e => ?_)
      · obtain ⟨k, hk, ek, _, _⟩ := hmem m hm e
        have := hdk k (by omega) (by rw [ek]); omega
      · obtain ⟨k, hk, ek, _, _⟩ := hmem m hm e
        have := hdk k (by omega) (by rw [ek]); subst this; omega
      · obtain ⟨k, hk, ek, ev, _⟩ := hmem m hm e
        have := hdk k (by omega) (by rw [ek]); subst this; exact ev
      · obtain ⟨k, hk, ek, _, _⟩ := hmem m hm e
        exact absurd (by rw [ek]) (hno k (by omega))
    refine ⟨fun _ => ?_, fun _ => h9⟩
    rw [decide_eq_false C.nz]; exact h9
  · have i1 : i = s.length := by omega
    rw [hv m hm e, i1, List.take_length, e, GH ⟨hb.1, by omega⟩]
def PuW (bI wI : Int) (b w : Nat) : Prop := (bI = 10 /\ wI = 8 /\ b = 10 /\ w = 8) ∨ (bI = 16 /\ wI = 16 /\ b = 16 /\ w = 16)
theorem aa4 {bI wI : Int} {b w : Nat} (hb : PuW bI wI b w) {s : Str} (hl : s.length <= 1000) {Q : Int -> Bool -> Prop}
    (h : ∀ (v : Int) (e : Bool), (∀ n : Nat, n < 2 ^ w -> s = mP b n -> v = n /\ e = false) -> Q v e) : qj s bI wI Q := by
  have h' : ∀ (v e : Int), (e = 0 ∨ e = 1 ∨ e = 2) -> (∀ n : Nat, n < 2 ^ w -> s = mP b n -> v = n /\ e = 0) ->
      (¬ e = 0 -> ((s.length : Int) <= 281474976710656 /\ (e = 2 ∨ e = 1)) /\ Q v true) /\ (e = 0 -> Q v false) := by
    intro v e he hn
    refine ⟨fun c => ⟨by omega, h _ _ fun n hn1 es => ?_⟩, fun c => h _ _ fun n hn1 es => ⟨(hn n hn1 es).1, rfl⟩⟩
    exact absurd (hn n hn1 es).2 c
  unfold qj jc
  refine ⟨fun c => h' _ _ (.inr (.inr rfl)) fun n _ es => absurd (es.symm.trans c) (FI _ _), fun c => ?_⟩
  rcases hb with ⟨rfl, rfl, rfl, rfl⟩ | ⟨rfl, rfl, rfl, rfl⟩
  · have C : PuC 10 8 10 8 1844674407370955162 := ⟨by decide, by decide, by decide, by decide +kernel, by decide, by decide +kernel, by decide +kernel, by decide⟩
    refine ⟨fun _ => ⟨fun _ => ⟨fun q => absurd q (by decide), fun _ => ⟨fun q => absurd q (by decide), fun _ => ⟨fun q => absurd q (by decide), fun _ => ⟨fun _ => ⟨by decide +kernel, by omega, TN C hl h'⟩, fun q => absurd rfl q⟩⟩⟩⟩, fun q => absurd q (by decide)⟩, fun q => absurd (by decide) q⟩
  · have C : PuC 16 16 16 16 1152921504606846976 := ⟨by decide, by decide, by decide, by decide +kernel, by decide, by decide +kernel, by decide +kernel, by decide⟩
    refine ⟨fun _ => ⟨fun _ => ⟨fun q => absurd q (by decide), fun _ => ⟨fun q => absurd q (by decide), fun _ => ⟨fun q => absurd q (by decide), fun _ => ⟨fun q => absurd q (by decide), fun _ => ⟨fun _ => ⟨by decide +kernel, by omega, TN C hl h'⟩, fun q => absurd rfl q⟩⟩⟩⟩⟩, fun q => absurd q (by decide)⟩, fun q => absurd (by decide) q⟩
theorem Yd {v : Int} {Q : Str -> Prop} (h : Q [jh v]) : yV v 1 Q := by
  refine ⟨by decide, by decide, ?_⟩
  refine ⟨fun s => s = (v, [default], 0) ∨ s.2 = ([jh v], -1), fun s => (s.2.2 + 1).toNat, .inl rfl, ?_⟩
  rintro ⟨n, out, i⟩ hI
  unfold zI
  rcases hI with hI | hI
  · injection hI with e1 e2; injection e2 with e2 e3; subst e1 e2 e3
    dsimp only
    exact ⟨fun _ => ⟨by decide, by decide, .inr rfl, by decide⟩, fun c => absurd c (by decide)⟩
  · injection hI with e2 e3; subst e2 e3
    dsimp only
    exact ⟨fun c => absurd c (by decide), fun _ => h⟩
theorem Yc {v : Int} {Q : Str -> Prop} (h : Q [jh (v.fdiv 256), jh v]) : yV v 2 Q := by
  have e : (2 : Int) ^ (min (8 : Int).toNat IntKind.u64.bits) = 256 := by decide +kernel
  refine ⟨by decide, by decide, ?_⟩
  refine ⟨fun s => s = (v, [default, default], 1) ∨ s = (v.fdiv 256, [default, jh v], 0) ∨ s.2 = ([jh (v.fdiv 256), jh v], -1), fun s => (s.2.2 + 1).toNat, .inl rfl, ?_⟩
  rintro ⟨n, out, i⟩ hI
  unfold zI
  rw [e]
  rcases hI with hI | hI | hI
  · injection hI with e1 e2; injection e2 with e2 e3; subst e1 e2 e3
    dsimp only
    exact ⟨fun _ => ⟨by decide, by decide, .inr (.inl rfl), by decide⟩, fun c => absurd c (by decide)⟩
  · injection hI with e1 e2; injection e2 with e2 e3; subst e1 e2 e3
    dsimp only
    exact ⟨fun _ => ⟨by simp, by decide, .inr (.inr rfl), by decide⟩, fun c => absurd c (by decide)⟩
  · injection hI with e2 e3; subst e2 e3
    dsimp only
    exact ⟨fun c => absurd c (by decide), fun _ => h⟩
theorem Ns {s : Str} {c : UInt8} {base wide : Int} {b w : Nat} (hP : PuW base (8 * wide) b w) (hw : I64 (8 * wide)) (Yb : Int -> Str) (hput : ∀ (v : Int) (Q : Str -> Prop), Q (Yb v) -> yV v wide Q) (hlen : ∀ v, (Yb v).length <= 2) (hs : s.length <= 900) {Q : Str -> Bool -> Prop}
    (h : ∀ (r : Str) (ok : Bool), r.length <= 2 * (s.length + 1) -> (s = [] -> r = [] /\ ok = true) -> (∀ ns : List Nat, (∀ n ∈ ns, n < 2 ^ w) -> s ≠ [] -> df s [c] = ns.map (mP b) -> r = ns.flatMap (fun (n : Nat) => Yb (n : Int)) /\ ok = true) -> Q r ok) : ru s [c] base wide Q := by
  refine ⟨fun e => h _ _ (by simp) (fun _ => ⟨rfl, rfl⟩) fun _ _ q => absurd e q, fun e => ⟨⟨by omega, by simp⟩, ?_⟩⟩
  have hl := JQ s c
  have hm := OQ s c
  generalize hS : df s [c] = l at *
  refine yG l.length (fun i o => o.length <= 2 * i /\ ∀ ns : List Nat, (∀ n ∈ ns, n < 2 ^ w) -> l = ns.map (mP b) -> o = (ns.take i).flatMap (fun (n : Nat) => Yb (n : Int))) ⟨by simp, fun _ _ _ => by simp⟩ fun K i o hi hI hK => ?_
  obtain ⟨lo, ho⟩ := hI
  show uY s [c] base wide Q _ o (i : Int)
  unfold uY
  rw [hS]
  refine ⟨fun d => ⟨by omega, hw, ?_⟩, fun d => h _ _ (by omega) (fun q => absurd q e) fun ns h1 _ h2 => ⟨?_, rfl⟩⟩
  · have i1 : i < l.length := by omega
    rw [iP i1]
    have hx := (hm l[i] (List.getElem_mem i1)).1
    have elem : ∀ ns : List Nat, l = ns.map (mP b) -> ∃ hi' : i < ns.length, l[i] = mP b ns[i] := by
      intro ns e
      have hi' : i < ns.length := by rw [e, List.length_map] at i1; exact i1
      exact ⟨hi', by subst e; simp⟩
    refine aa4 hP (by omega) fun v er hv => ⟨fun ce => ?_, fun ce => ?_⟩
    · subst ce
      refine h _ _ (by simp) (fun q => absurd q e) fun ns h1 _ h2 => ?_
      obtain ⟨hi', e1⟩ := elem ns h2
      have := (hv ns[i] (h1 _ (List.getElem_mem hi')) e1).2
      cases this
    · subst ce
      have := hlen v
      refine hput _ _ ⟨by omega, by (first | omega | (unfold I64; omega) | (simp only [List.length_append, List.length_cons, List.length_nil, List.length_take, List.length_drop] at *; omega) | (unfold I64; simp only [List.length_append, List.length_cons, List.length_nil, List.length_take, List.length_drop] at *; omega)), hK (i + 1) _ (by omega) (by omega) ⟨?_, fun ns h1 h2 => ?_⟩⟩
      · rw [List.length_append]; omega
      · obtain ⟨hi', e1⟩ := elem ns h2
        rw [List.take_succ_eq_append_getElem hi', List.flatMap_append, ← ho ns h1 h2, (hv ns[i] (h1 _ (List.getElem_mem hi')) e1).1]
        simp
  · have i1 : i = l.length := by omega
    have := ho ns h1 h2
    rw [this, List.take_of_length_le (by rw [i1, h2, List.length_map]; exact Nat.le_refl _)]
abbrev Ad := ay
def by8 (a : Ad) (i : Nat) : Nat := (a.2.1.getD i 0).toNat
theorem Og (a : Ad) {i : Nat} (h : i < 16) : b8 a.2 (i : Int) = ((by8 a i : Nat) : Int) := by
  have hl : i < a.2.1.length := by rw [a.2.2]; exact h
  unfold b8 by8
  rw [iP hl, List.getD_eq_getElem?_getD, List.getElem?_eq_getElem hl]; rfl
theorem CB (a : Ad) (i : Nat) : by8 a i < 256 := UInt8.toNat_lt _
def wd (a : Ad) (i : Nat) : Nat := 256 * by8 a (2 * i) + by8 a (2 * i + 1)
theorem Tq (a : Ad) (i : Nat) : wd a i < 65536 := by have := CB a (2 * i); have := CB a (2 * i + 1); unfold wd; omega
theorem Tn {a : Ad} {i : Nat} (hi : i < 8) {Q : Int -> Prop} (h : Q (wd a i : Int)) : BL a (i : Int) Q := by
  have e1 : (2 * (i : Int)) = ((2 * i : Nat) : Int) := by omega
  have e2 : (2 * (i : Int)) + 1 = ((2 * i + 1 : Nat) : Int) := by omega
  refine ⟨by unfold I64; omega, by omega, by unfold I64; omega, by omega, ?_⟩
  rw [e2, e1, Og a (by omega), Og a (by omega)]
  have h1 := CB a (2 * i)
  have h2 := CB a (2 * i + 1)
  have e8 : (2 : Int) ^ (min (8 : Int).toNat IntKind.u64.bits) = 256 := by decide +kernel
  rw [e8, XR (by omega), XR (n := by8 a (2 * i + 1)) (by omega)]
  have e3 : ((by8 a (2 * i) : Nat) : Int) * 256 = ((256 * by8 a (2 * i) : Nat) : Int) := by omega
  rw [e3, XR (by omega), Go.u64_or_nat _ _ (by omega) (by omega), Go.nat_join 8 _ _ (by omega) (by omega)]
  exact h
def zs (a : Ad) : List Bool := (List.range 8).map fun i => decide (wd a i = 0)
def Fj (Z : List Bool) (i : Nat) : Nat := ((Z.drop i).takeWhile id).length
theorem Ig {Z : List Bool} {i : Nat} (h : i < Z.length) : Fj Z i = if Z[i] = true then Fj Z (i + 1) + 1 else 0 := by
  unfold Fj
  rw [List.drop_eq_getElem_cons h, List.takeWhile_cons]
  cases Z[i] <;> simp
theorem QB {Z : List Bool} {i : Nat} (h : Z.length <= i) : Fj Z i = 0 := by unfold Fj; rw [List.drop_eq_nil_of_le h]; rfl
theorem II (a : Ad) : (zs a).length = 8 := by simp [zs]
theorem LY (a : Ad) {i : Nat} (h : i < (zs a).length) : (zs a)[i] = decide (wd a i = 0) := by simp [zs]
theorem TD (Z : List Bool) (i : Nat) : i + Fj Z i <= max i Z.length := by
  unfold Fj
  have := (List.takeWhile_sublist id (l := Z.drop i)).length_le
  rw [List.length_drop] at this
  omega
def QC (Z : List Bool) : Nat -> Int × Int -> Nat -> Int × Int
  | 0, r, _ => r
  | f + 1, r, i => if 8 <= i then r else QC Z f (if r.2 < (Fj Z i : Int) then ((i : Int), (Fj Z i : Int)) else r) (i + (Fj Z i + 1))
def RP (Z : List Bool) : Nat -> Int × Int -> Nat -> Int × Int
  | 0, r, _ => r
  | f + 1, r, i => if 8 <= i then r else RP Z f (if r.2 < (Fj Z i : Int) then ((i : Int), (Fj Z i : Int)) else r) (i + 1)
theorem X4 (Z : List Bool) {i : Nat} (h : 8 <= i) : ∀ f r, QC Z f r i = r
  | 0, _ => rfl
  | f + 1, r => if_pos h
theorem X5 (Z : List Bool) {i : Nat} (h : 8 <= i) : ∀ f r, RP Z f r i = r
  | 0, _ => rfl
  | f + 1, r => if_pos h
def rowOf (a : Ad) : Int × Int := QC (zs a) 8 (0, 1) 0
def OX (a : Ad) : Int × Int := RP (zs a) 8 (-1, 1) 0
theorem ZE {a : Ad} {Q : Int -> Int -> Prop} (h : Q (rowOf a).1 (rowOf a).2) : F6 a Q := by
  refine ⟨fun s => ∃ f i : Nat, s.2.2 = i /\ 8 <= i + f /\ i <= 9 /\ QC (zs a) f (s.1, s.2.1) i = rowOf a, fun s => (9 - s.2.2).toNat, ⟨8, 0, rfl, by omega, by omega, rfl⟩, ?_⟩
  rintro ⟨at_, most, _⟩ ⟨f, i, rfl, hf, hi9, he⟩
  simp only at he ⊢
  unfold Ep
  refine ⟨fun c => ?_, fun c => ?_⟩
  · have i8 : i < 8 := by omega
    have hr := TD (zs a) i
    rw [II] at hr
    refine ⟨fun k => ∃ j : Nat, k = j /\ i + j <= 8 /\ Fj (zs a) i = j + Fj (zs a) (i + j), fun k => (9 - k).toNat, ⟨0, rfl, by omega, by simp⟩, ?_⟩
    rintro _ ⟨j, rfl, hj, hjr⟩
    have fin : j = Fj (zs a) i -> BN at_ most (i : Int) (fun bn iM bU => (∃ f i : Nat, bU = i /\ 8 <= i + f /\ i <= 9 /\ QC (zs a) f (bn, iM) i = rowOf a) /\ (9 - bU).toNat < (9 - (i : Int)).toNat) (j : Int) := by
      intro ej
      have ef : ∃ f', f = f' + 1 := ⟨f - 1, by omega⟩
      obtain ⟨f', rfl⟩ := ef
      rw [QC, if_neg (by omega), ← ej] at he
      refine ⟨fun cm => ⟨by unfold I64; omega, by unfold I64; omega, ⟨f', i + (j + 1), by omega, by omega, by omega, ?_⟩, by omega⟩, fun cm => ⟨by unfold I64; omega, by unfold I64; omega, ⟨f', i + (j + 1), by omega, by omega, by omega, ?_⟩, by omega⟩⟩
      · rw [if_pos cm] at he; exact he
      · rw [if_neg cm] at he; exact he
    unfold Eo
    refine ⟨by unfold I64; omega, fun c2 => ?_, fun c2 => fin ?_⟩
    · have i2 : i + j < (zs a).length := by rw [II]; omega
      rw [show (i : Int) + (j : Int) = ((i + j : Nat) : Int) by omega]
      refine Tn (by omega) ⟨fun c3 => ⟨by unfold I64; omega, ⟨j + 1, by omega, by omega, ?_⟩, (by show (9 - ((j : Int) + 1)).toNat < (9 - (j : Int)).toNat; omega)⟩, fun c3 => fin ?_⟩
      · rw [hjr, Ig i2, LY, if_pos (decide_eq_true (by omega)), Nat.add_assoc i j 1]; omega
      · rw [hjr, Ig i2, LY, if_neg (by simpa using (by omega : ¬ wd a (i + j) = 0))]; omega
    · rw [hjr, QB (by rw [II]; omega)]; omega
  · rw [X4 _ (by omega)] at he
    rw [← he] at h; exact h
theorem V6 : ∀ a b c d e f g h : Bool, let Z := [a, b, c, d, e, f, g, h]; let p := QC Z 8 (0, 1) 0; let q := RP Z 8 (-1, 1) 0;
    (p.2 < 2 -> q = (-1, 1)) /\ (¬ p.2 < 2 -> q = p) /\ 0 <= p.1 /\ 1 <= p.2 /\ p.1 + p.2 <= 8 := by decide +kernel
theorem Jo (a : Ad) : ((rowOf a).2 < 2 -> OX a = (-1, 1)) /\ (¬ (rowOf a).2 < 2 -> OX a = rowOf a) /\ 0 <= (rowOf a).1 /\ 1 <= (rowOf a).2 /\ (rowOf a).1 + (rowOf a).2 <= 8 := V6 _ _ _ _ _ _ _ _
theorem Hg {b : Nat} (hb : 2 <= b) : ∀ (k n : Nat), 1 <= k -> n < b ^ k -> (mP b n).length <= k
  | 0, _, h, _ => by omega
  | 1, n, _, h => by rw [Bi (by simpa using h)]; simp
  | k + 2, n, _, h => by
    by_cases hn : n < b
    · rw [Bi hn]; simp
    · have h1 : n / b < b ^ (k + 1) := by
        rw [Nat.pow_succ] at h
        exact Nat.div_lt_of_lt_mul (by rw [Nat.mul_comm]; exact h)
      have := Hg hb (k + 1) (n / b) (by omega) h1
      rw [Dh hb (by omega), List.length_append]
      simp only [List.length_cons, List.length_nil]; omega
theorem Xu : ∀ k < 16, Dw k ≠ 58 /\ Dw k ≠ 46 := by decide
theorem P8 {b : Nat} (hb : 2 <= b /\ b <= 16) (n : Nat) : 58 ∉ mP b n /\ 46 ∉ mP b n := by
  constructor <;> intro h <;> obtain ⟨k, hk, e⟩ := BI hb.1 n _ h
  · exact (Xu k (by omega)).1 e.symm
  · exact (Xu k (by omega)).2 e.symm
def wL (a : Ad) (i j : Nat) : List Str := (List.range' i (j - i)).map fun k => mP 16 (wd a k)
theorem Je (a : Ad) {i k : Nat} (h : i <= k) : wL a i (k + 1) = wL a i k ++ [mP 16 (wd a k)] := by
  unfold wL
  rw [show k + 1 - i = (k - i) + 1 by omega, List.range'_1_concat, List.map_append, show i + (k - i) = k by omega]; rfl
theorem L8 (a : Ad) {i j : Nat} (h : j <= i) : wL a i j = [] := by unfold wL; rw [show j - i = 0 by omega]; rfl
theorem PH (a : Ad) (i j : Nat) : (wL a i j).length = j - i := by simp [wL]
theorem yA (a : Ad) (i j : Nat) : ∀ x ∈ wL a i j, x ≠ [] /\ (58 : UInt8) ∉ x /\ x.length <= 4 := by
  intro x hx
  obtain ⟨k, _, rfl⟩ := List.mem_map.1 hx
  exact ⟨FI _ _, (P8 (by decide) _).1, Hg (by decide) 4 _ (by decide) (Tq a k)⟩
theorem Et (a : Ad) (i j : Nat) : (fA (wL a i j) [58]).length <= (j - i) * 5 := by
  have := Ij (c := 58) (m := 4) fun x hx => (yA a i j x hx).2.2
  rw [PH] at this; exact this
def oL (a : Ad) (i : Nat) : List Str := (List.range i).map fun k => mP 10 (by8 a k)
theorem P6 (a : Ad) (i : Nat) : oL a (i + 1) = oL a i ++ [mP 10 (by8 a i)] := by unfold oL; rw [List.range_succ, List.map_append]; rfl
theorem Nr (a : Ad) (i : Nat) : (oL a i).length = i := by simp [oL]
theorem P7 (a : Ad) (i : Nat) : ∀ x ∈ oL a i, x ≠ [] /\ (46 : UInt8) ∉ x /\ (58 : UInt8) ∉ x /\ x.length <= 3 := by
  intro x hx
  obtain ⟨k, _, rfl⟩ := List.mem_map.1 hx
  have := CB a k
  exact ⟨FI _ _, (P8 (by decide) _).2, (P8 (by decide) _).1, Hg (by decide) 3 _ (by decide) (by omega)⟩
theorem Su (a : Ad) (i : Nat) : (fA (oL a i) [46]).length <= i * 4 := by
  have := Ij (c := 46) (m := 3) fun x hx => (P7 a i x hx).2.2.2
  rw [Nr] at this; exact this
def txt (a : Ad) : Str :=
  if a.1 = true then (if (rowOf a).2 < 2 then fA (wL a 0 8) [58] else fA (wL a 0 (rowOf a).1.toNat) [58] ++ [58, 58] ++ fA (wL a ((rowOf a).1 + (rowOf a).2).toNat 8) [58])
  else fA (oL a 4) [46]
theorem AX (a : Ad) : (txt a).length <= 100 := by
  unfold txt
  have h1 := Et a 0 8
  have h2 := Et a 0 (rowOf a).1.toNat
  have h3 := Et a ((rowOf a).1 + (rowOf a).2).toNat 8
  have h4 := Su a 4
  obtain ⟨_, _, r1, r2, r3⟩ := Jo a
  split
  · split
    · omega
    · simp only [List.length_append, List.length_cons, List.length_nil]; omega
  · omega
theorem P9 {a : Ad} {i j : Nat} (hj : j <= 8) (hi : i <= 8) {Q : Str -> Prop} (h : Q (fA (wL a i j) [58])) : y7 a (i : Int) (j : Int) Q := by
  refine Ii (fun s => s.2) i (max i j) (fun k s => i <= k /\ s.1 = wL a i k) rfl (by omega) ⟨Nat.le_refl _, (L8 a (Nat.le_refl _)).symm⟩ ?_
  rintro K k ⟨l, _⟩ rfl hk ⟨hik, hl'⟩ hK
  dsimp only at hl' ⊢
  subst hl'
  have hl := PH a i k
  unfold Dp
  refine ⟨fun c => Tn (by omega) (Xc (Tq a k) ⟨by simp only [List.length_cons, List.length_nil]; omega, by unfold I64; omega, hK (k + 1) _ (by dsimp only; omega) (by omega) (by omega) ⟨by omega, (Je a hik).symm⟩⟩), fun c => ?_⟩
  have e : wL a i k = wL a i j := by
    by_cases hij : i <= j
    · rw [show k = j by omega]
    · rw [L8 a (by omega), L8 a (by omega)]
  have := Et a i k
  refine ⟨⟨by omega, by omega⟩, ?_⟩
  rw [e]; exact h
theorem LP {a : Ad} {Q : Str -> Prop} (h : Q (txt a)) : BM a Q := by
  refine ⟨fun c => ?_, fun c => ?_⟩
  · have hv : a.1 = false := by simpa using c
    have hc : (cut a.2.1 0 4).length = 4 := by unfold cut; have := a.2.2; simp; omega
    refine yG 4 (fun i l => l = oL a i) rfl fun K i l hi hl hK => ?_
    have hlen := Nr a i
    rw [← hl] at hlen
    show Aa a Q _ l (i : Int)
    unfold Aa
    rw [hc]
    refine ⟨fun d => ?_, fun d => ?_⟩
    · have i4 : i < (cut a.2.1 0 4).length := by omega
      have hg : (((gi (cut a.2.1 0 4) (i : Int)).toNat : Nat) : Int) = ((by8 a i : Nat) : Int) := by
        rw [iP i4]
        unfold by8 cut
        have hl : i < a.2.1.length := by have := a.2.2; omega
        simp [List.getD_eq_getElem?_getD, hl]
      have h8 := CB a i
      rw [hg, Vh]
      exact ⟨by omega, by unfold I64; omega, by simp only [List.length_cons, List.length_nil]; omega, by unfold I64; omega, hK (i + 1) _ (by omega) (by omega) (by rw [P6, hl])⟩
    · have i4 : i = 4 := by omega
      subst i4
      have := Su a 4
      rw [hl]
      refine ⟨⟨by rw [Nr]; decide, by omega⟩, ?_⟩
      unfold txt at h
      rw [if_neg (by rw [hv]; decide)] at h; exact h
  · have hv : a.1 = true := by simpa using c
    obtain ⟨_, _, r1, r2, r3⟩ := Jo a
    unfold txt at h
    rw [if_pos hv] at h
    refine ZE ⟨fun d => P9 (i := 0) (j := 8) (by omega) (by omega) ?_, fun d => ⟨by unfold I64; omega, ?_⟩⟩
    · rw [if_pos d] at h; exact h
    · rw [if_neg d] at h
      have e1 : (rowOf a).1 = ((rowOf a).1.toNat : Int) := by omega
      have e2 : (rowOf a).1 + (rowOf a).2 = (((rowOf a).1 + (rowOf a).2).toNat : Int) := by omega
      have l1 := Et a 0 (rowOf a).1.toNat
      have l2 := Et a ((rowOf a).1 + (rowOf a).2).toNat 8
      generalize ((rowOf a).1 + (rowOf a).2).toNat = q at *
      generalize (rowOf a).1.toNat = p at *
      rw [e2, e1]
      exact P9 (i := 0) (by omega) (by omega) ⟨by simp only [List.length_cons, List.length_nil]; omega, P9 (j := 8) (by omega) (by omega) ⟨by simp only [List.length_append, List.length_cons, List.length_nil]; omega, h⟩⟩
theorem Uf {s : Str} {c : UInt8} (h : s.getLast? = some c) : s ≠ [] /\ gi s ((s.length : Int) - 1) = c := by
  have hne : s ≠ [] := by rintro rfl; cases h
  have hp := List.length_pos_iff.2 hne
  refine ⟨hne, ?_⟩
  rw [show (s.length : Int) - 1 = ((s.length - 1 : Nat) : Int) by omega, iP (by omega)]
  rw [List.getLast?_eq_getElem?, List.getElem?_eq_getElem (by omega)] at h
  exact Option.some.inj h
theorem YX {a : Ad} {i : Nat} (hi : i < 8) {K : Str -> Int -> Prop} {s : Str} (hs : s.length <= 1000) (h : K (s ++ mP 16 (wd a i)) ((i : Int) + 1)) : kF a (i : Int) K s := by
  have e1 : (2 * (i : Int)) = ((2 * i : Nat) : Int) := by omega
  have e2 : (2 * (i : Int)) + 1 = ((2 * i + 1 : Nat) : Int) := by omega
  have h1 := CB a (2 * i)
  have h2 := CB a (2 * i + 1)
  have hw : 256 * ((by8 a (2 * i) : Nat) : Int) + ((by8 a (2 * i + 1) : Nat) : Int) = ((wd a i : Nat) : Int) := by unfold wd; omega
  unfold kF
  rw [e2, e1, Og a (by omega), Og a (by omega), hw]
  have hwl := Tq a i
  have hnl := Hg (b := 16) (by decide) 4 _ (by decide) hwl
  exact ⟨by unfold I64; omega, by omega, by unfold I64; omega, by unfold I64; omega, by unfold I64; omega, by omega, by unfold I64; omega, by unfold I64; omega, Sv (b := 16) (by decide) (by omega) ⟨by omega, by unfold I64; omega, h⟩⟩
theorem Tc {a : Ad} {i : Nat} (hi : i < 8) {K : Str -> Int -> Prop} {P : Str} {l : List Str} (hP : P = [] ∨ P.getLast? = some 58) (hl : ∀ x ∈ l, x ≠ [] /\ (58 : UInt8) ∉ x) (hlen : (P ++ fA l [58]).length <= 900)
    (h : K (P ++ fA (l ++ [mP 16 (wd a i)]) [58]) ((i : Int) + 1)) :
    (¬ ((P ++ fA l [58] : Str) = []) -> (I64 (((P ++ fA l [58]).length : Int) - 1)) /\ (((0 : Int) <= ((P ++ fA l [58]).length : Int) - 1 /\ ((P ++ fA l [58]).length : Int) - 1 < ((P ++ fA l [58]).length : Int)) /\ ((¬ (((gi (P ++ fA l [58]) (((P ++ fA l [58]).length : Int) - 1)).toNat : Int) = 58) -> (((P ++ fA l [58]).length : Int) + ((([58] : Str)).length : Int) <= 9223372036854775807) /\ (kF a (i : Int) K ((P ++ fA l [58]) ++ ([58] : Str)))) /\ (((gi (P ++ fA l [58]) (((P ++ fA l [58]).length : Int) - 1)).toNat : Int) = 58 -> kF a (i : Int) K (P ++ fA l [58]))))) /\ ((P ++ fA l [58] : Str) = [] -> kF a (i : Int) K (P ++ fA l [58])) := by
  by_cases hn : l = []
  · subst hn
    rw [Kr, List.append_nil] at *
    rw [List.nil_append, pz] at h
    have hj : kF a (i : Int) K P := YX hi (by omega) h
    refine ⟨fun c => ?_, fun c => hj⟩
    have hp := List.length_pos_iff.2 c
    refine ⟨by unfold I64; omega, by omega, fun d => ?_, fun d => hj⟩
    rcases hP with rfl | hP
    · exact absurd rfl c
    · exact absurd (by rw [(Uf hP).2]; rfl) d
  · obtain ⟨x, hx, c, hc, hlast⟩ := SC (s := [58]) hn fun x hx => (hl x hx).1
    have ac8 : c ≠ 58 := fun e => (hl x hx).2 (e ▸ hc)
    have ZV : (P ++ fA l [58]).getLast? = some c := by rw [List.getLast?_append, hlast]; rfl
    obtain ⟨hne, hg⟩ := Uf ZV
    have hp := List.length_pos_iff.2 hne
    have hj : kF a (i : Int) K ((P ++ fA l [58]) ++ [58]) := by
      refine YX hi (by rw [List.length_append]; simp only [List.length_cons, List.length_nil]; omega) ?_
      rw [FO hn] at h
      simpa [List.append_assoc] using h
    refine ⟨fun _ => ⟨by unfold I64; omega, by omega, fun _ => ⟨by simp only [List.length_cons, List.length_nil]; omega, hj⟩, fun d => ?_⟩, fun q => absurd q hne⟩
    rw [hg] at d
    exact absurd (UInt8.toNat_inj.1 (by show c.toNat = 58; omega)) ac8
theorem UZ {a : Ad} {Q : Str -> Prop} (hv : a.1 = true) (h : Q (txt a)) : kG (fun (Vz : (Str × Int) -> Prop) (s : Str × Int) => qX a Q (OX a).1 (OX a).2 (fun pI nG => Vz (pI, nG)) s.1 s.2) ([], 0) := by
  obtain ⟨r0, rn, r1, r2, r3⟩ := Jo a
  unfold txt at h
  rw [if_pos hv] at h
  by_cases hc : (rowOf a).2 < 2
  · rw [r0 hc]
    rw [if_pos hc] at h
    refine yG 8 (fun i s => s = fA (wL a 0 i) [58]) rfl fun K i s hi hs hK => ?_
    show qX a Q (-1) 1 _ s (i : Int)
    unfold qX
    have hl := Et a 0 i
    refine ⟨fun d => ⟨fun q => by omega, fun _ => ?_⟩, fun d => ?_⟩
    · have := Tc (a := a) (i := i) (by omega) (K := fun pI nG => K (pI, nG)) (P := []) (l := wL a 0 i) (.inl rfl) (fun x hx => ⟨(yA a 0 i x hx).1, (yA a 0 i x hx).2.1⟩) (by rw [List.nil_append]; omega)
        (hK (i + 1) _ (by omega) (by omega) (by rw [List.nil_append, ← Je a (Nat.zero_le _)]))
      rw [List.nil_append, ← hs] at this
      exact this
    · have : i = 8 := by omega
      subst this; rw [hs]; exact h
  · rw [rn hc]
    rw [if_neg hc] at h
    obtain ⟨p, hp⟩ : ∃ p : Nat, (rowOf a).1 = p := ⟨_, (Int.toNat_of_nonneg r1).symm⟩
    obtain ⟨n, hn⟩ : ∃ n : Nat, (rowOf a).2 = n := ⟨_, (Int.toNat_of_nonneg (by omega)).symm⟩
    rw [hp, hn] at h r3 ⊢
    rw [show ((p : Int) + (n : Int)).toNat = p + n by omega, Int.toNat_natCast] at h
    have lH := Et a 0 p
    refine ⟨fun s => ∃ i : Nat, s.2 = i /\ ((i <= p /\ s.1 = fA (wL a 0 i) [58]) ∨ (p + n <= i /\ i <= 8 /\ s.1 = fA (wL a 0 p) [58] ++ [58, 58] ++ fA (wL a (p + n) i) [58])), fun s => (9 - s.2).toNat, ⟨0, rfl, .inl ⟨Nat.zero_le _, rfl⟩⟩, ?_⟩
    rintro ⟨s, _⟩ ⟨i, rfl, hI⟩
    dsimp only at hI ⊢
    unfold qX
    rcases hI with ⟨hi, rfl⟩ | ⟨hi, hi8, rfl⟩
    · have hl := Et a 0 i
      refine ⟨fun d => ⟨fun q => ?_, fun q => ?_⟩, fun d => by omega⟩
      · have : i = p := by omega
        subst this
        refine ⟨by simp only [List.length_cons, List.length_nil]; omega, by unfold I64; omega, by unfold I64; omega, by unfold I64; omega, ⟨i + n, by omega, .inr ⟨Nat.le_refl _, by omega, ?_⟩⟩, by omega⟩
        rw [L8 a (Nat.le_refl _), Kr, List.append_nil]
      · have := Tc (a := a) (i := i) (by omega) (K := fun pI nG => (∃ Vj : Nat, nG = Vj /\ ((Vj <= p /\ pI = fA (wL a 0 Vj) [58]) ∨ (p + n <= Vj /\ Vj <= 8 /\ pI = fA (wL a 0 p) [58] ++ [58, 58] ++ fA (wL a (p + n) Vj) [58]))) /\ (9 - nG).toNat < (9 - (i : Int)).toNat) (P := []) (l := wL a 0 i) (.inl rfl) (fun x hx => ⟨(yA a 0 i x hx).1, (yA a 0 i x hx).2.1⟩) (by rw [List.nil_append]; omega)
          ⟨⟨i + 1, by omega, .inl ⟨by omega, by rw [List.nil_append, ← Je a (Nat.zero_le _)]⟩⟩, by omega⟩
        rw [List.nil_append] at this
        exact this
    · have hl := Et a (p + n) i
      refine ⟨fun d => ⟨fun q => by omega, fun q => ?_⟩, fun d => ?_⟩
      · exact Tc (a := a) (i := i) (by omega) (K := fun pI nG => (∃ Vj : Nat, nG = Vj /\ ((Vj <= p /\ pI = fA (wL a 0 Vj) [58]) ∨ (p + n <= Vj /\ Vj <= 8 /\ pI = fA (wL a 0 p) [58] ++ [58, 58] ++ fA (wL a (p + n) Vj) [58]))) /\ (9 - nG).toNat < (9 - (i : Int)).toNat) (P := fA (wL a 0 p) [58] ++ [58, 58]) (l := wL a (p + n) i) (.inr (by simp)) (fun x hx => ⟨(yA a _ i x hx).1, (yA a _ i x hx).2.1⟩) (by simp only [List.length_append, List.length_cons, List.length_nil]; omega)
          ⟨⟨i + 1, by omega, .inr ⟨by omega, by omega, by rw [← Je a hi]⟩⟩, by omega⟩
      · have : i = 8 := by omega
        subst this; exact h
theorem EP {a : Ad} {Q : Str -> Prop} (h : Q (txt a)) : su a Q := by
  refine ⟨fun c => ?_, fun c => ?_⟩
  · have hv : a.1 = false := by simpa using c
    refine yG 4 (fun i s => s = fA (oL a i) [46]) rfl fun K i s hi hs hK => ?_
    have hl := Su a i
    rw [← hs] at hl
    have h8 := CB a i
    have j1 : ∀ t : Str, t.length <= 100 -> t ++ mP 10 (by8 a i) = fA (oL a (i + 1)) [46] -> i < 4 -> tJ a (i : Int) (fun dE bU => K (dE, bU)) t := by
      intro t ht he i4
      have hnl := Hg (b := 10) (by decide) 3 (by8 a i) (by decide) (by omega)
      unfold tJ
      rw [Og a (by omega)]
      exact ⟨by omega, by unfold I64; omega, Sv (b := 10) (by decide) (by omega) ⟨by omega, by unfold I64; omega, hK (i + 1) _ (by omega) (by omega) he⟩⟩
    show wF a Q _ s (i : Int)
    unfold wF
    refine ⟨fun d => ⟨fun q => ⟨by simp only [List.length_cons, List.length_nil]; omega, j1 _ (by simp only [List.length_append, List.length_cons, List.length_nil]; omega) ?_ (by omega)⟩, fun q => j1 _ (by omega) ?_ (by omega)⟩, fun d => ?_⟩
    · have hne : oL a i ≠ [] := by intro e; have := congrArg List.length e; rw [Nr] at this; simp at this; omega
      rw [P6, FO hne, hs]
    · have : i = 0 := by omega
      subst this
      rw [hs, P6]
      show _ = fA [mP 10 (by8 a 0)] [46]
      rw [pz]; rfl
    · have : i = 4 := by omega
      subst this
      unfold txt at h
      rw [if_neg (by rw [hv]; decide)] at h
      rw [hs]; exact h
  · have hv : a.1 = true := by simpa using c
    have hp := UZ (Q := Q) hv h
    refine ⟨fun s => ∃ f i : Nat, s.2.2 = i /\ 8 <= i + f /\ i <= 9 /\ RP (zs a) f (s.1, s.2.1) i = OX a, fun s => (9 - s.2.2).toNat, ⟨8, 0, rfl, by omega, by omega, rfl⟩, ?_⟩
    rintro ⟨at_, most, _⟩ ⟨f, i, rfl, hf, hi9, he⟩
    dsimp only at he ⊢
    unfold zB
    refine ⟨fun c => ?_, fun c => ?_⟩
    · have i8 : i < 8 := by omega
      have hr := TD (zs a) i
      rw [II] at hr
      refine ⟨fun k => ∃ j : Nat, k = j /\ i + j <= 8 /\ Fj (zs a) i = j + Fj (zs a) (i + j), fun k => (9 - k).toNat, ⟨0, rfl, by omega, by simp⟩, ?_⟩
      rintro _ ⟨j, rfl, hj, hjr⟩
      have fin : j = Fj (zs a) i -> tH at_ most (i : Int) (fun bn iM bU => (∃ f i : Nat, bU = i /\ 8 <= i + f /\ i <= 9 /\ RP (zs a) f (bn, iM) i = OX a) /\ (9 - bU).toNat < (9 - (i : Int)).toNat) (j : Int) := by
        intro ej
        have ef : ∃ f', f = f' + 1 := ⟨f - 1, by omega⟩
        obtain ⟨f', rfl⟩ := ef
        rw [RP, if_neg (by omega), ← ej] at he
        refine ⟨fun cm => ⟨by unfold I64; omega, ⟨f', i + 1, by omega, by omega, by omega, ?_⟩, by omega⟩, fun cm => ⟨by unfold I64; omega, ⟨f', i + 1, by omega, by omega, by omega, ?_⟩, by omega⟩⟩
        · rw [if_pos cm] at he; exact he
        · rw [if_neg cm] at he; exact he
      unfold zA
      refine ⟨by unfold I64; omega, fun c2 => ?_, fun c2 => fin ?_⟩
      · have i2 : i + j < (zs a).length := by rw [II]; omega
        have e1 : 2 * ((i : Int) + (j : Int)) = ((2 * (i + j) : Nat) : Int) := by omega
        have e2 : 2 * ((i : Int) + (j : Int)) + 1 = ((2 * (i + j) + 1 : Nat) : Int) := by omega
        rw [e2, e1, Og a (by omega), Og a (by omega)]
        have hz : wd a (i + j) = 0 ↔ by8 a (2 * (i + j)) = 0 /\ by8 a (2 * (i + j) + 1) = 0 := by unfold wd; omega
        have no : ¬ wd a (i + j) = 0 -> j = Fj (zs a) i := by
          intro q
          rw [hjr, Ig i2, LY, if_neg (by simpa using q)]; omega
        refine ⟨by unfold I64; omega, by omega, fun c3 => ⟨by unfold I64; omega, by omega, fun c4 => ⟨by unfold I64; omega, ⟨j + 1, by omega, by omega, ?_⟩, (by show (9 - ((j : Int) + 1)).toNat < (9 - (j : Int)).toNat; omega)⟩, fun c4 => fin (no fun q => ?_)⟩, fun c3 => fin (no fun q => ?_)⟩
        · rw [hjr, Ig i2, LY, if_pos (decide_eq_true (hz.2 ⟨by omega, by omega⟩)), Nat.add_assoc i j 1]; omega
        · have := (hz.1 q).2; omega
        · have := (hz.1 q).1; omega
      · rw [hjr, QB (by rw [II]; omega)]; omega
    · rw [X5 _ (by omega)] at he
      rw [← he] at hp; exact hp
theorem WE {l : Str} (h : l.length = 16) : l = [l.getD 0 0, l.getD 1 0, l.getD 2 0, l.getD 3 0, l.getD 4 0, l.getD 5 0, l.getD 6 0, l.getD 7 0, l.getD 8 0, l.getD 9 0, l.getD 10 0, l.getD 11 0, l.getD 12 0, l.getD 13 0, l.getD 14 0, l.getD 15 0] := by
  match l, h with
  | [_, _, _, _, _, _, _, _, _, _, _, _, _, _, _, _], _ => rfl
theorem VM (x : UInt8) : jh (x.toNat : Int) = x := by
  have h := jJ (x.toNat : Int)
  have := x.toNat_lt
  exact UInt8.toNat_inj.1 (by omega)
theorem JL (a : Ad) (i : Nat) : jh ((by8 a i : Nat) : Int) = a.2.1.getD i 0 := VM _
theorem ZL (a : Ad) (k : Nat) : [jh (((wd a k : Nat) : Int).fdiv 256), jh ((wd a k : Nat) : Int)] = [a.2.1.getD (2 * k) 0, a.2.1.getD (2 * k + 1) 0] := by
  have h1 := CB a (2 * k)
  have h2 := CB a (2 * k + 1)
  have e1 : ((wd a k : Nat) : Int).fdiv 256 = ((by8 a (2 * k) : Nat) : Int) := by
    rw [Int.fdiv_eq_ediv_of_nonneg _ (by decide)]; unfold wd; omega
  have e2 : jh ((wd a k : Nat) : Int) = jh ((by8 a (2 * k + 1) : Nat) : Int) := by
    have q1 := jJ ((wd a k : Nat) : Int)
    have q2 := jJ ((by8 a (2 * k + 1) : Nat) : Int)
    refine UInt8.toNat_inj.1 ?_
    unfold wd at *; omega
  rw [e1, e2, JL, JL]
def bOf (a : Ad) : Str := if a.1 = true then a.2.1 else a.2.1.take 4
def RI (a : Ad) (i j : Nat) : Str := (List.range' i (j - i)).flatMap fun k => [a.2.1.getD (2 * k) 0, a.2.1.getD (2 * k + 1) 0]
theorem TA (a : Ad) : RI a 0 8 = a.2.1 := (WE a.2.2).symm
theorem Tz (a : Ad) {i j k : Nat} (h : i <= j) (h2 : j <= k) : RI a i j ++ RI a j k = RI a i k := by
  unfold RI
  rw [← List.flatMap_append]
  congr 1
  have : List.range' i (j - i) ++ List.range' (i + 1 * (j - i)) (k - j) = List.range' i ((j - i) + (k - j)) := List.range'_append
  rw [show i + 1 * (j - i) = j by omega, show (j - i) + (k - j) = k - i by omega] at this
  exact this
theorem PS (a : Ad) (i j : Nat) : (RI a i j).length = 2 * (j - i) := by
  unfold RI
  generalize j - i = m
  induction m generalizing i with
  | zero => rfl
  | succ m ih => rw [List.range'_succ, List.flatMap_cons, List.length_append, ih]; simp only [List.length_cons, List.length_nil]; omega
theorem J5 (n : Nat) : Ox [0] (n : Int) = List.replicate n 0 := by
  unfold Ox
  rw [Int.toNat_natCast]
  induction n with
  | zero => rfl
  | succ n ih => rw [Lib.repeatL, ih]; rfl
theorem V3 (a : Ad) {i j : Nat} (h : ∀ k, i <= k -> k < j -> wd a k = 0) : RI a i j = List.replicate (2 * (j - i)) 0 := by
  rw [List.eq_replicate_iff]
  refine ⟨PS a i j, fun x hx => ?_⟩
  unfold RI at hx
  obtain ⟨k, hk, hx⟩ := List.mem_flatMap.1 hx
  rw [List.mem_range'_1] at hk
  have hw := h k hk.1 (by omega)
  unfold wd by8 at hw
  simp only [List.mem_cons, List.not_mem_nil, or_false] at hx
  rcases hx with rfl | rfl
  · exact UInt8.toNat_inj.1 (by show _ = 0; omega)
  · exact UInt8.toNat_inj.1 (by show _ = 0; omega)
theorem UU : ∀ a b c d e f g h : Bool, let Z := [a, b, c, d, e, f, g, h]; let p := QC Z 8 (0, 1) 0;
    ¬ p.2 < 2 -> ∀ k < 8, p.1 <= ((k : Nat) : Int) -> ((k : Nat) : Int) < p.1 + p.2 -> Z.getD k false = true := by decide +kernel
theorem PV (a : Ad) (h : ¬ (rowOf a).2 < 2) {k : Nat} (h1 : (rowOf a).1 <= (k : Int)) (h2 : (k : Int) < (rowOf a).1 + (rowOf a).2) : wd a k = 0 := by
  obtain ⟨_, _, r1, r2, r3⟩ := Jo a
  have hk : k < 8 := by omega
  have := UU _ _ _ _ _ _ _ _ h k hk h1 h2
  have hl : k < (zs a).length := by rw [II]; exact hk
  have e : (zs a).getD k false = decide (wd a k = 0) := by rw [List.getD_eq_getElem?_getD, List.getElem?_eq_getElem hl]; exact LY a hl
  have : (zs a).getD k false = true := this
  rw [e] at this
  exact of_decide_eq_true this
theorem aa5 {s : Str} (hl : s.length <= 800) {Q : Str -> Bool -> Prop} (h : ∀ (r : Str) (ok : Bool), r.length <= 2 * (s.length + 1) -> (∀ (a : Ad) (i j : Nat), s = fA (wL a i j) [58] -> r = RI a i j /\ ok = true) -> Q r ok) : ru s [58] 16 2 Q := by
  refine Ns (b := 16) (w := 16) (.inr ⟨rfl, by decide, rfl, rfl⟩) (by decide) (fun v => [jh (v.fdiv 256), jh v]) (fun v Q h => Yc h) (fun v => by simp) (by omega) fun r ok hr h0 hns => h r ok hr fun a i j hs => ?_
  by_cases hij : i < j
  · have hne : wL a i j ≠ [] := by intro e; have := congrArg List.length e; rw [PH] at this; simp at this; omega
    have hg := yA a i j
    have e3 : ((List.range' i (j - i)).map (wd a)).flatMap (fun (n : Nat) => [jh ((n : Int).fdiv 256), jh (n : Int)]) = RI a i j := by
      rw [List.flatMap_map]
      unfold RI
      exact congrArg (fun f => List.flatMap f (List.range' i (j - i))) (funext fun k => ZL a k)
    rw [← e3]
    exact hns ((List.range' i (j - i)).map (wd a)) (by intro n hn; obtain ⟨k, _, rfl⟩ := List.mem_map.1 hn; exact Tq a k) (by rw [hs]; exact QO hne fun x hx => (hg x hx).1) (by rw [hs, Fh hne fun x hx => (hg x hx).2.1]; unfold wL; rw [List.map_map]; rfl)
  · have e0 : wL a i j = [] := L8 a (by omega)
    have e3 : RI a i j = [] := by unfold RI; rw [show j - i = 0 by omega]; rfl
    rw [e3]
    exact h0 (by rw [hs, e0]; rfl)
theorem Q8 (s sep : Str) : (kC s sep).1.length <= s.length /\ (kC s sep).2.1.length <= s.length := by
  unfold kC Lib.cut
  split
  · simp only [List.length_take, List.length_drop]; omega
  · simp
theorem KT {c : UInt8} : ∀ {h : Str}, Yg c h -> Lib.index h [c, c] = -1
  | [], _ => rfl
  | [a], k => by rw [yQ]; simp [List.isPrefixOf, Lib.index]
  | a :: b :: r, k => by
    rw [yQ, KT k.2]
    have : ([c, c].isPrefixOf (a :: b :: r)) = false := by
      simp [List.isPrefixOf]
      intro e1 e2
      exact k.1 ⟨e1.symm, e2.symm⟩
    rw [this]; rfl
theorem Q7 {c : UInt8} {h : Str} (k : Yg c h) : kC h [c, c] = (h, [], false) := by
  unfold kC Lib.cut
  rw [KT k, if_neg (by omega)]
theorem VP (a : Ad) (h : a.1 = true) : (58 : UInt8) ∈ txt a := by
  unfold txt
  rw [if_pos h]
  split
  · have hne : wL a 0 7 ≠ [] := by intro e; have := congrArg List.length e; rw [PH] at this; simp at this
    rw [Je a (k := 7) (Nat.zero_le _), FO hne]; simp
  · simp
theorem XW (a : Ad) (h : a.1 = false) : (58 : UInt8) ∉ txt a := by
  unfold txt
  rw [if_neg (by rw [h]; decide)]
  intro q
  rcases yY q with q | ⟨x, hx, q⟩
  · simp at q
  · exact (P7 a 4 x hx).2.2.1 q
theorem Sl {s : Str} (hl : s.length <= 800) {Q : Ad -> Int -> Prop} (h : ∀ b ok, (∀ a, s = txt a -> b = bOf a /\ ok = true) -> sF s Q b ok) : uC s Q := by
  refine Ns (b := 10) (w := 8) (.inl ⟨rfl, by decide, rfl, rfl⟩) (by decide) (fun v => [jh v]) (fun v Q h => Yd h) (fun v => by simp) (by omega) fun r ok hr _ hns => ⟨by omega, fun c => ?_, fun c => h _ _ fun a e => ?_⟩
  · rw [abm] at c
    have c := of_decide_eq_true c
    obtain ⟨cl1, cl2⟩ := Q8 s [58, 58]
    refine ⟨by omega, aa5 (by omega) fun r1 ok1 l1 p1 => aa5 (by omega) fun r2 ok2 l2 p2 => ?_⟩
    have fin : ∀ (b : Str) (ok : Bool), (ok1 = true -> ok = ok2) -> ((kC s [58, 58]).2.2 = false -> b = r1 ++ r2) -> ((kC s [58, 58]).2.2 = true -> 0 < 16 - (r1.length : Int) - (r2.length : Int) -> b = (r1 ++ Ox [0] (16 - (r1.length : Int) - (r2.length : Int))) ++ r2) -> sF s Q b ok := by
      intro b ok hok hb0 hb1
      refine h _ _ fun a e => ?_
      have hv : a.1 = true := by
        cases hv : a.1
        · exact absurd (e ▸ c) (XW a hv)
        · rfl
      have ht : txt a = (if (rowOf a).2 < 2 then fA (wL a 0 8) [58] else fA (wL a 0 (rowOf a).1.toNat) [58] ++ [58, 58] ++ fA (wL a ((rowOf a).1 + (rowOf a).2).toNat 8) [58]) := by unfold txt; rw [if_pos hv]
      rw [← e] at ht
      unfold bOf
      rw [if_pos hv]
      obtain ⟨_, _, q1, q2, q3⟩ := Jo a
      by_cases hr2 : (rowOf a).2 < 2
      · rw [if_pos hr2] at ht
        have hc := Q7 (Nj fun x hx => ⟨(yA a 0 8 x hx).1, (yA a 0 8 x hx).2.1⟩)
        rw [← ht] at hc
        obtain ⟨e1, o1⟩ := p1 a 0 8 (by rw [hc]; exact ht)
        obtain ⟨e2, o2⟩ := p2 a 8 8 (by rw [hc]; rfl)
        have e8 : RI a 8 8 = [] := rfl
        rw [hb0 (by rw [hc]), hok o1, o2, e1, e2, e8, List.append_nil, TA]
        exact ⟨rfl, rfl⟩
      · rw [if_neg hr2] at ht
        obtain ⟨p, hp⟩ : ∃ p : Nat, (rowOf a).1 = p := ⟨_, (Int.toNat_of_nonneg q1).symm⟩
        obtain ⟨n, hn⟩ : ∃ n : Nat, (rowOf a).2 = n := ⟨_, (Int.toNat_of_nonneg (by omega)).symm⟩
        have hz : ∀ k, p <= k -> k < p + n -> wd a k = 0 := fun k h1 h2 => PV a hr2 (by omega) (by omega)
        rw [hp, hn] at ht q3
        rw [show ((p : Int) + (n : Int)).toNat = p + n by omega, Int.toNat_natCast] at ht
        have hc := aay (t := fA (wL a (p + n) 8) [58]) (Nj fun x hx => ⟨(yA a 0 p x hx).1, (yA a 0 p x hx).2.1⟩)
        rw [show fA (wL a 0 p) [58] ++ 58 :: 58 :: fA (wL a (p + n) 8) [58] = s by rw [ht]; simp] at hc
        obtain ⟨e1, o1⟩ := p1 a 0 p (by rw [hc])
        obtain ⟨e2, o2⟩ := p2 a (p + n) 8 (by rw [hc])
        have f1 := PS a 0 p
        have f2 := PS a (p + n) 8
        have hb := hb1 (by rw [hc]) (by rw [e1, e2, f1, f2]; omega)
        rw [hok o1, o2]
        refine ⟨?_, rfl⟩
        rw [hb, e1, e2, f1, f2]
        have ez : (16 - ((2 * (p - 0) : Nat) : Int) - ((2 * (8 - (p + n)) : Nat) : Int)) = ((2 * ((p + n) - p) : Nat) : Int) := by omega
        rw [ez, J5, ← V3 a (i := p) (j := p + n) hz, Tz a (Nat.zero_le _) (by omega), Tz a (Nat.zero_le _) (by omega), TA]
    have j1 : ∀ x : Str, x.length <= 10000 -> ((kC s [58, 58]).2.2 = false -> x = r1) -> ((kC s [58, 58]).2.2 = true -> 0 < 16 - (r1.length : Int) - (r2.length : Int) -> x = r1 ++ Ox [0] (16 - (r1.length : Int) - (r2.length : Int))) -> wV (fun jH rD => sF s Q jH rD) ok1 r2 ok2 x := by
      intro x hx h0 h1
      refine ⟨by omega, fun o => fin _ _ (fun _ => rfl) (fun q => by rw [h0 q]) (fun q q2 => by rw [h1 q q2]), fun o => fin _ _ (fun q => by rw [o] at q; cases q) (fun q => by rw [h0 q]) (fun q q2 => by rw [h1 q q2])⟩
    refine ⟨by unfold I64; omega, by unfold I64; omega, fun cf => ⟨fun d => ⟨by have := of_decide_eq_true d; simp only [List.length_cons, List.length_nil]; omega, ?_, ?_⟩, fun d => j1 _ (by omega) (fun q => absurd (cf.symm.trans q) (by decide)) (fun _ q => by have := of_decide_eq_false d; omega)⟩, fun cf => ⟨fun d => (by cases d), fun _ => j1 _ (by omega) (fun _ => rfl) (fun q => absurd (cf.symm.trans q) (by decide))⟩⟩
    · have d := of_decide_eq_true d
      obtain ⟨k, hk⟩ : ∃ k : Nat, 16 - (r1.length : Int) - (r2.length : Int) = k := ⟨_, (Int.toNat_of_nonneg (by omega)).symm⟩
      rw [hk, J5, List.length_replicate]; omega
    · have d := of_decide_eq_true d
      refine j1 _ ?_ (fun q => absurd (cf.symm.trans q) (by decide)) (fun _ _ => rfl)
      obtain ⟨k, hk⟩ : ∃ k : Nat, 16 - (r1.length : Int) - (r2.length : Int) = k := ⟨_, (Int.toNat_of_nonneg (by omega)).symm⟩
      rw [hk, J5, List.length_append, List.length_replicate]; omega
  · rw [abm] at c
    have c := of_decide_eq_false c
    have hv : a.1 = false := by
      cases hv : a.1
      · rfl
      · exact absurd (e ▸ VP a hv) c
    have ht : txt a = fA (oL a 4) [46] := by unfold txt; rw [if_neg (by rw [hv]; decide)]
    have hg := P7 a 4
    have hne : oL a 4 ≠ [] := by intro e; have := congrArg List.length e; rw [Nr] at this; simp at this
    unfold bOf
    rw [if_neg (by rw [hv]; decide)]
    have e3 : ((List.range 4).map (by8 a)).flatMap (fun (n : Nat) => [jh (n : Int)]) = a.2.1.take 4 := by
      rw [WE a.2.2, List.flatMap_map]
      show [jh _, jh _, jh _, jh _] = _
      rw [JL, JL, JL, JL]; rfl
    rw [← e3]
    exact hns ((List.range 4).map (by8 a)) (by intro n hn; obtain ⟨k, _, rfl⟩ := List.mem_map.1 hn; exact CB a k) (by rw [e, ht]; exact QO hne fun x hx => (hg x hx).1) (by rw [e, ht, Fh hne fun x hx => (hg x hx).2.1]; unfold oL; rw [List.map_map]; rfl)
def Hu (a : Ad) : Prop := a.1 = true ∨ a.2.1.drop 4 = List.replicate 12 0
def rdA (b : Str) : Ad := (decide ((b.length : Int) = 16), JF (default : Ba 16) b)
theorem Xv : (default : Ba 16).1 = List.replicate 16 0 := rfl
theorem We {b : Str} (h : b.length = 4 ∨ b.length = 16) : Hu (rdA b) := by
  unfold Hu rdA
  rcases h with h | h
  · right
    show (b.take 16 ++ (default : Ba 16).1.drop (b.take 16).length).drop 4 = _
    rw [Xv, List.take_of_length_le (by omega), h, List.drop_left' h]; rfl
  · left
    exact decide_eq_true (by omega)
theorem RQ {a : Ad} (h : Hu a) : rdA (bOf a) = a /\ ((bOf a).length = 4 ∨ (bOf a).length = 16) := by
  obtain ⟨v, X⟩ := a
  have hX := X.2
  cases v
  · have hd : X.1.drop 4 = List.replicate 12 0 := by rcases h with h | h; cases h; exact h
    have hl : (X.1.take 4).length = 4 := by rw [List.length_take]; omega
    refine ⟨?_, .inl hl⟩
    show (decide (((X.1.take 4).length : Int) = 16), JF (default : Ba 16) (X.1.take 4)) = _
    rw [hl]
    refine Prod.ext rfl (Subtype.ext ?_)
    show (X.1.take 4).take 16 ++ (default : Ba 16).1.drop ((X.1.take 4).take 16).length = X.1
    rw [List.take_of_length_le (by omega), hl, Xv]
    conv => rhs; rw [← List.take_append_drop 4 X.1, hd]
    rfl
  · refine ⟨?_, .inr hX⟩
    show (decide ((X.1.length : Int) = 16), JF (default : Ba 16) X.1) = _
    refine Prod.ext (decide_eq_true (by omega)) (Subtype.ext ?_)
    show X.1.take 16 ++ (default : Ba 16).1.drop (X.1.take 16).length = X.1
    rw [List.take_of_length_le (by omega), List.drop_eq_nil_of_le (by rw [Xv, List.length_replicate]; omega), List.append_nil]
theorem X7 {b : Str} {Q : Ad -> Int -> Prop} (h1 : b.length = 4 ∨ b.length = 16 -> Q (rdA b) 0) (h2 : ¬ (b.length = 4 ∨ b.length = 16) -> Q (false, (default : Ba 16)) 2) : Es b Q := by
  refine ⟨fun c => ⟨fun d => h2 (by omega), fun d => h1 (by omega)⟩, fun c => h1 (by omega)⟩
theorem xe (a b : UInt8) (x y : Str) : AB (a :: x) (b :: y) = if a < b then -1 else if b < a then 1 else AB x y := by
  unfold AB; rw [Lib.compareBytes]
theorem J4 : ∀ a : Str, AB a a = 0
  | [] => rfl
  | a :: x => by rw [xe, if_neg (UInt8.lt_irrefl a), if_neg (UInt8.lt_irrefl a), J4 x]
theorem PK {a b : UInt8} (h : ¬ a < b) (k : ¬ b < a) : a = b := by
  rw [UInt8.lt_iff_toNat_lt] at h k; exact UInt8.toNat_inj.1 (by omega)
theorem TB : ∀ a b : Str, AB a b = 0 -> a = b
  | [], [], _ => rfl
  | [], _ :: _, h => by simp [AB, Lib.compareBytes] at h
  | _ :: _, [], h => by simp [AB, Lib.compareBytes] at h
  | a :: x, b :: y, h => by
    rw [xe] at h
    split at h
    · omega
    · split at h
      · omega
      · rename_i p q; rw [PK p q, TB x y h]
theorem OV : ∀ a b : Str, AB b a = - AB a b
  | [], [] => rfl
  | [], _ :: _ => rfl
  | _ :: _, [] => rfl
  | a :: x, b :: y => by
    rw [xe, xe, OV x y]
    have : a < b -> ¬ b < a := fun h k => by rw [UInt8.lt_iff_toNat_lt] at h k; omega
    by_cases p : a < b
    · rw [if_pos p, if_neg (this p), if_pos p]; rfl
    · by_cases q : b < a
      · rw [if_pos q, if_neg p, if_pos q]
      · rw [if_neg q, if_neg p, if_neg p, if_neg q]
theorem MO : ∀ a b c : Str, AB a b < 0 -> AB b c < 0 -> AB a c < 0
  | [], [], _, h, _ => absurd h (by decide)
  | _, [], [], _, h => absurd h (by decide)
  | [], _ :: _, [], _, h => by simp [AB, Lib.compareBytes] at h
  | [], _ :: _, _ :: _, _, _ => by simp [AB, Lib.compareBytes]
  | _ :: _, [], _, h, _ => by simp [AB, Lib.compareBytes] at h
  | _ :: _, _ :: _, [], _, h => by simp [AB, Lib.compareBytes] at h
  | a :: x, b :: y, c :: z, h, k => by
    rw [xe] at h k ⊢
    by_cases p : a < b
    · by_cases q : b < c
      · rw [if_pos (by rw [UInt8.lt_iff_toNat_lt] at *; omega)]; decide
      · rw [if_neg q] at k
        by_cases r : c < b
        · rw [if_pos r] at k; omega
        · have := PK q r; subst this; rw [if_pos p]; decide
    · rw [if_neg p] at h
      by_cases q : b < a
      · rw [if_pos q] at h; omega
      · rw [if_neg q] at h
        have := PK p q; subst this
        by_cases r : a < c
        · rw [if_pos r]; decide
        · rw [if_neg r] at k ⊢
          by_cases s : c < a
          · rw [if_pos s] at k; omega
          · rw [if_neg s] at k ⊢; exact MO x y z h k
theorem OU : ∀ (i : Nat) (x y : Str), x.take i = y.take i -> i <= x.length -> i <= y.length -> AB x y = AB (x.drop i) (y.drop i)
  | 0, _, _, _, _, _ => rfl
  | i + 1, [], _, _, h, _ => by simp at h
  | i + 1, _ :: _, [], _, _, h => by simp at h
  | i + 1, a :: x, b :: y, h, h1, h2 => by
    simp only [List.take_succ_cons, List.cons.injEq] at h
    obtain ⟨rfl, h⟩ := h
    rw [xe, if_neg (UInt8.lt_irrefl a), if_neg (UInt8.lt_irrefl a)]
    exact OU i x y h (by simpa using h1) (by simpa using h2)
def aw (a : Ad) : Nat := if a.1 then 16 else 4
def ak (a : Ad) : Str := (if a.1 then 1 else 0) :: a.2.1.take (aw a)
def uZ (a b : Ad) : Int := AB (ak a) (ak b)
def qh (a : Ad) : Bool := a.1 || decide (a.2.1.drop 4 = List.replicate 12 0)
def Ti (a b : Ad) : Prop := uZ a b < 0
theorem Tf (a : Ad) : ¬ Ti a a := by unfold Ti uZ; rw [J4]; omega
theorem Io (a b c : Ad) : Ti a b -> Ti b c -> Ti a c := MO _ _ _
theorem Vy (a b : Ad) : uZ b a = - uZ a b := OV _ _
theorem YE {a b : Ad} (ha : qh a = true) (hb : qh b = true) (h : uZ a b = 0) : a = b := by
  have h := TB _ _ h
  unfold ak aw at h
  rw [List.cons.injEq] at h
  obtain ⟨h1, h2⟩ := h
  obtain ⟨va, ⟨la, ac1⟩⟩ := a
  obtain ⟨vb, ⟨lb, ac0⟩⟩ := b
  simp only at h1 h2
  have hv : va = vb := by cases va <;> cases vb <;> simp_all
  subst hv
  cases va
  · simp only [qh, Bool.false_or, decide_eq_true_eq] at ha hb
    simp only [Bool.false_eq_true, if_false] at h2
    have : la = lb := by rw [← List.take_append_drop 4 la, ← List.take_append_drop 4 lb, h2, ha, hb]
    subst this; rfl
  · simp only [if_true] at h2
    rw [List.take_of_length_le (by omega), List.take_of_length_le (by omega)] at h2
    subst h2; rfl
theorem UA {a b : Ad} {Q : Int -> Prop} (h : Q (uZ a b)) : AU a b Q := by
  obtain ⟨va, ⟨la, ac1⟩⟩ := a
  obtain ⟨vb, ⟨lb, ac0⟩⟩ := b
  unfold uZ ak aw at h
  unfold AU BO BP Af
  cases va <;> cases vb <;> simp [xe, cut] at h ⊢ <;> exact h
theorem X3 {x y : Str} {i : Nat} (h : x.take i = y.take i) (h1 : i < x.length) (h2 : i < y.length) : AB x y = if x[i] < y[i] then -1 else if y[i] < x[i] then 1 else AB (x.drop (i + 1)) (y.drop (i + 1)) := by
  rw [OU i x y h (by omega) (by omega), List.drop_eq_getElem_cons h1, List.drop_eq_getElem_cons h2, xe]
theorem Rk {n : Nat} (x : Ba n) {i : Nat} (h : i < n) : b8 x (i : Int) = ((x.1[i]'(by rw [x.2]; exact h)).toNat : Int) := by
  unfold b8; rw [iP (by rw [x.2]; exact h)]
theorem VN {a b : UInt8} : ((a.toNat : Nat) : Int) < (b.toNat : Int) ↔ a < b := by rw [UInt8.lt_iff_toNat_lt]; omega
theorem YA {a b : Ad} {Q : Int -> Prop} (h : Q (uZ a b)) : BG a b Q := by
  unfold BG
  refine ⟨fun c => ⟨fun d => ?_, fun d => ?_⟩, fun c => ?_⟩
  · have : a.1 = false := by simp [d] at c; exact c
    have e : uZ a b = -1 := by unfold uZ ak; rw [this, d]; rfl
    rw [e] at h; exact h
  · have : a.1 = true := by simp [d] at c; exact c
    have e : uZ a b = 1 := by unfold uZ ak; rw [this, d]; rfl
    rw [e] at h; exact h
  · have hv : a.1 = b.1 := by simpa using c
    have e : uZ a b = AB (a.2.1.take (aw a)) (b.2.1.take (aw b)) := by
      unfold uZ ak; rw [hv, xe, if_neg (UInt8.lt_irrefl _), if_neg (UInt8.lt_irrefl _)]
    have hw : aw b = aw a := by unfold aw; rw [hv]
    have hw16 : aw a <= 16 := by unfold aw; split <;> omega
    have hla : (a.2.1.take (aw a)).length = aw a := by rw [List.length_take, a.2.2]; omega
    have hlb : (b.2.1.take (aw a)).length = aw a := by rw [List.length_take, b.2.2]; omega
    rw [e, hw] at h
    have hend : ∀ i, i = aw a -> a.2.1.take i = b.2.1.take i -> Q 0 := by
      rintro i rfl hi
      rw [hi, J4] at h; exact h
    refine yt (aw a) (fun i => a.2.1.take i = b.2.1.take i) (by simp) fun K i hi hI hK => ?_
    show zF _ _ _ _ _
    have step : i < aw a -> xq a b Q (i : Int) K := by
      intro hlt
      have h16 : i < 16 := by omega
      unfold xq
      rw [Rk a.2 h16, Rk b.2 h16]
      have hx : (a.2.1.take (aw a)).take i = (b.2.1.take (aw a)).take i := by rw [List.take_take, List.take_take, Nat.min_eq_left (by omega)]; exact hI
      have hc := X3 hx (by omega) (by omega)
      rw [List.getElem_take, List.getElem_take] at hc
      refine ⟨by (first | omega | (unfold I64; omega) | (simp only [List.length_append, List.length_cons, List.length_nil, List.length_take, List.length_drop] at *; omega) | (unfold I64; simp only [List.length_append, List.length_cons, List.length_nil, List.length_take, List.length_drop] at *; omega)), fun q => ?_, fun q => ⟨fun r => ?_, fun r => ⟨by (first | omega | (unfold I64; omega) | (simp only [List.length_append, List.length_cons, List.length_nil, List.length_take, List.length_drop] at *; omega) | (unfold I64; simp only [List.length_append, List.length_cons, List.length_nil, List.length_take, List.length_drop] at *; omega)), hK (i + 1) (by omega) (by omega) ?_⟩⟩⟩
      · rw [hc, if_pos (VN.1 q)] at h; exact h
      · rw [hc, if_neg (fun k => q (VN.2 k)), if_pos (VN.1 r)] at h; exact h
      · rw [List.take_succ_eq_append_getElem (by rw [a.2.2]; omega), List.take_succ_eq_append_getElem (by rw [b.2.2]; omega), hI, PK (fun k => q (VN.2 k)) (fun k => r (VN.2 k))]
    unfold zF
    have hwt : a.1 = true -> aw a = 16 := fun q => by unfold aw; rw [q]; rfl
    have hwf : a.1 = false -> aw a = 4 := fun q => by unfold aw; rw [q]; rfl
    refine ⟨fun q => ⟨fun r => step (by have := hwt r; omega), fun r => ⟨fun s => step (by have := hwf r; omega), fun s => hend i (by have := hwf r; omega) hI⟩⟩, fun q => hend i (by omega) hI⟩
theorem ND {a : Ad} {Q : Bool -> Prop} (h : Q (qh a)) : xn a Q := by
  refine Ii (s0 := (4 : Int)) (fun s => s) 4 16 (fun i _ => 4 <= i /\ (a.1 = false -> ∀ k (hk : k < 16), 4 <= k -> k < i -> a.2.1[k]'(by rw [a.2.2]; exact hk) = 0)) rfl (by omega) ⟨by omega, fun _ k _ h1 h2 => by omega⟩ ?_
  rintro K i _ rfl hi ⟨h4, hz⟩ hK
  show yg _ _ _ _
  unfold yg
  refine ⟨fun c => ⟨fun d => ⟨by (first | omega | (unfold I64; omega) | (simp only [List.length_append, List.length_cons, List.length_nil, List.length_take, List.length_drop] at *; omega) | (unfold I64; simp only [List.length_append, List.length_cons, List.length_nil, List.length_take, List.length_drop] at *; omega)), fun q => ?_, fun q => ⟨by (first | omega | (unfold I64; omega) | (simp only [List.length_append, List.length_cons, List.length_nil, List.length_take, List.length_drop] at *; omega) | (unfold I64; simp only [List.length_append, List.length_cons, List.length_nil, List.length_take, List.length_drop] at *; omega)), hK (i + 1) _ rfl (by omega) (by omega) ⟨by omega, fun v k hk h1 h2 => ?_⟩⟩⟩, fun d => ⟨by (first | omega | (unfold I64; omega) | (simp only [List.length_append, List.length_cons, List.length_nil, List.length_take, List.length_drop] at *; omega) | (unfold I64; simp only [List.length_append, List.length_cons, List.length_nil, List.length_take, List.length_drop] at *; omega)), hK (i + 1) _ rfl (by omega) (by omega) ⟨by omega, fun v => by simp [v] at d⟩⟩⟩, fun c => ?_⟩
  · have abk : i < 16 := by omega
    rw [Rk a.2 abk] at q
    have : qh a = false := by
      have hv : a.1 = false := by simpa using d
      unfold qh; rw [hv, Bool.false_or, decide_eq_false_iff_not]
      intro e
      have h5 : (a.2.1.drop 4)[i - 4]? = (List.replicate 12 (0 : UInt8))[i - 4]? := by rw [e]
      rw [List.getElem?_drop, show 4 + (i - 4) = i by omega, List.getElem?_eq_getElem (by rw [a.2.2]; exact abk), List.getElem?_replicate, if_pos (by omega)] at h5
      simp only [Option.some.injEq] at h5
      rw [h5] at q; exact q rfl
    rw [this] at h; exact h
  · by_cases e : k < i
    · exact hz v k hk h1 e
    · have : k = i := by omega
      subst this
      rw [Rk a.2 hk] at q
      exact UInt8.toNat_inj.1 (by show _ = 0; omega)
  · have : qh a = true := by
      unfold qh
      cases hv : a.1 with
      | true => rfl
      | false =>
        rw [Bool.false_or, decide_eq_true_eq]
        apply List.ext_getElem
        · rw [List.length_drop, a.2.2, List.length_replicate]
        · intro k h1 h2
          rw [List.length_replicate] at h2
          rw [List.getElem_drop, List.getElem_replicate]
          exact hz hv (4 + k) (by omega) (by omega) (by omega)
    rw [this] at h; exact h
structure yz (l : List Ad) : Prop where
  rise : l.Pairwise Ti
  good : ∀ x ∈ l, qh x = true
theorem yz.nil : yz [] := ⟨List.Pairwise.nil, by simp⟩
theorem yz.ext {l m : List Ad} (hl : yz l) (hm : yz m) (h : ∀ x, x ∈ l ↔ x ∈ m) : l = m := QD Tf Io hl.rise hm.rise h
def ins (l : List Ad) (a : Ad) : List Ad := if a ∈ l ∨ qh a = false then l else (l.takeWhile fun x => decide (uZ x a < 0)) ++ a :: l.dropWhile fun x => decide (uZ x a < 0)
theorem Uc {l : List Ad} {a x : Ad} : x ∈ ins l a ↔ x ∈ l ∨ (x = a /\ qh a = true) := by
  unfold ins
  split
  · rename_i h
    constructor
    · exact .inl
    · rintro (q | ⟨rfl, q⟩)
      · exact q
      · rcases h with h | h
        · exact h
        · rw [h] at q; cases q
  · rename_i h
    have hg : qh a = true := by cases hq : qh a with
      | true => rfl
      | false => exact absurd (.inr hq) h
    have ht : l = (l.takeWhile fun x => decide (uZ x a < 0)) ++ l.dropWhile fun x => decide (uZ x a < 0) := (List.takeWhile_append_dropWhile).symm
    rw [List.mem_append, List.mem_cons]
    constructor
    · rintro (q | rfl | q)
      · left; rw [ht]; exact List.mem_append_left _ q
      · exact .inr ⟨rfl, hg⟩
      · left; rw [ht]; exact List.mem_append_right _ q
    · rintro (q | ⟨rfl, _⟩)
      · rw [ht, List.mem_append] at q
        rcases q with q | q
        · exact .inl q
        · exact .inr (.inr q)
      · exact .inr (.inl rfl)
theorem Ym (l : List Ad) (a : Ad) : (ins l a).length <= l.length + 1 := by
  unfold ins
  split
  · omega
  · have := congrArg List.length (List.takeWhile_append_dropWhile (p := fun x => decide (uZ x a < 0)) (l := l))
    rw [List.length_append] at this ⊢; rw [List.length_cons]; omega
theorem yz.ins {l : List Ad} (hl : yz l) (a : Ad) : yz (ins l a) := by
  refine ⟨?_, fun x hx => ?_⟩
  · unfold Wk.ins
    split
    · exact hl.rise
    · rename_i h
      have ht : (l.takeWhile fun x => decide (uZ x a < 0)) ++ (l.dropWhile fun x => decide (uZ x a < 0)) = l := List.takeWhile_append_dropWhile
      have hr := hl.rise
      rw [← ht, List.pairwise_append] at hr
      have hg : qh a = true := by cases hq : qh a with
        | true => rfl
        | false => exact absurd (.inr hq) h
      have hd : ∀ y ∈ (l.dropWhile fun x => decide (uZ x a < 0)), Ti a y := by
        intro y hy
        have hyl : y ∈ l := by rw [← ht]; exact List.mem_append_right _ hy
        have hne : uZ y a ≠ 0 := fun e => h (.inl (by rw [← YE (hl.good y hyl) hg e]; exact hyl))
        have hfirst : ¬ uZ y a < 0 := by
          rcases hd : (l.dropWhile fun x => decide (uZ x a < 0)) with _ | ⟨z, r⟩
          · rw [hd] at hy; cases hy
          · have hz : ¬ uZ z a < 0 := by
              have := List.head_dropWhile_not (p := fun x => decide (uZ x a < 0)) (l := l) (by rw [hd]; simp)
              simp only [hd, List.head_cons, decide_eq_false_iff_not] at this; exact this
            rw [hd] at hy
            rcases List.mem_cons.1 hy with rfl | hy
            · exact hz
            · have h1 := hr.2.1; rw [hd, List.pairwise_cons] at h1
              have h2 := h1.1 y hy
              intro h3
              exact hz (Io _ _ _ h2 h3)
        have := Vy y a
        show uZ a y < 0
        omega
      have htk : ∀ x ∈ (l.takeWhile fun x => decide (uZ x a < 0)), Ti x a := fun x hx => by
        have := List.all_eq_true.1 (List.all_takeWhile (p := fun x => decide (uZ x a < 0)) (l := l)) x hx
        show uZ x a < 0
        exact of_decide_eq_true this
      rw [List.pairwise_append, List.pairwise_cons]
      refine ⟨hr.1, ⟨hd, hr.2.1⟩, fun x hx y hy => ?_⟩
      rcases List.mem_cons.1 hy with rfl | hy
      · exact htk x hx
      · exact hr.2.2 x hx y hy
  · rcases Uc.1 hx with hx | ⟨rfl, hx⟩
    · exact hl.good x hx
    · exact hx
def VA (l : List Ad) : List Ad := l.foldl ins []
theorem Nk (l : List Ad) (a : Ad) : VA (l ++ [a]) = ins (VA l) a := by unfold VA; rw [List.foldl_append]; rfl
theorem TR (l : List Ad) : yz (VA l) := by
  induction l using MN with
  | h0 => exact yz.nil
  | h1 l a ih => rw [Nk]; exact ih.ins a
theorem Yj {l : List Ad} {x : Ad} : x ∈ VA l ↔ x ∈ l /\ qh x = true := by
  induction l using MN with
  | h0 => simp [VA]
  | h1 l a ih =>
    rw [Nk, Uc, ih, List.mem_append, List.mem_singleton]
    constructor
    · rintro (⟨p, q⟩ | ⟨rfl, q⟩)
      · exact ⟨.inl p, q⟩
      · exact ⟨.inr rfl, q⟩
    · rintro ⟨p | rfl, q⟩
      · exact .inl ⟨p, q⟩
      · exact .inr ⟨rfl, q⟩
theorem TU (l : List Ad) : (VA l).length <= l.length := by
  induction l using MN with
  | h0 => exact Nat.le_refl _
  | h1 l a ih => rw [Nk, List.length_append]; have := Ym (VA l) a; simp only [List.length_cons, List.length_nil]; omega
theorem ZQ {l : List Ad} (h : yz l) : VA l = l := (TR l).ext h fun x => by rw [Yj]; exact ⟨fun q => q.1, fun q => ⟨q, h.good x q⟩⟩
def aIn (b : List Ad) (x : Ad) : Bool := decide (x ∈ b)
theorem Yt {l : List Ad} {a : Ad} {Q : Bool -> Prop} (hl : l.length <= 1000000) (h : Q (aIn l a)) : Ee l a Q := by
  refine yt l.length (fun i => a ∉ l.take i) (by simp) fun K i hi hI hK => ?_
  show zx _ _ _ _ _
  unfold zx
  refine ⟨fun c => ⟨by (first | omega | (unfold I64; omega) | (simp only [List.length_append, List.length_cons, List.length_nil, List.length_take, List.length_drop] at *; omega) | (unfold I64; simp only [List.length_append, List.length_cons, List.length_nil, List.length_take, List.length_drop] at *; omega)), ?_⟩, fun c => ?_⟩
  · have hi' : i < l.length := by omega
    rw [iP hi']
    refine ⟨fun q => ?_, fun q => ⟨by (first | omega | (unfold I64; omega) | (simp only [List.length_append, List.length_cons, List.length_nil, List.length_take, List.length_drop] at *; omega) | (unfold I64; simp only [List.length_append, List.length_cons, List.length_nil, List.length_take, List.length_drop] at *; omega)), hK (i + 1) (by omega) (by omega) ?_⟩⟩
    · have : aIn l a = true := decide_eq_true (q ▸ List.getElem_mem hi')
      rw [this] at h; exact h
    · rw [List.take_succ_eq_append_getElem hi', List.mem_append, List.mem_singleton]
      rintro (k | k)
      · exact hI k
      · exact q k.symm
  · rw [List.take_of_length_le (by omega)] at hI
    have : aIn l a = false := decide_eq_false hI
    rw [this] at h; exact h
theorem YD {l : List Ad} {a : Ad} {Q : List Ad -> Prop} (hl : l.length <= 1000000) (h : Q (ins l a)) : BF l a Q := by
  unfold BF
  refine Yt hl ?_
  have hj : ∀ b, (b = true ↔ (a ∈ l ∨ qh a = false)) -> xk l a Q b := by
    intro b hb
    unfold xk
    refine ⟨fun c => ?_, fun c => ?_⟩
    · unfold ins at h; rw [if_pos (hb.1 c)] at h; exact h
    · have hn : ¬ (a ∈ l ∨ qh a = false) := fun q => by rw [hb.2 q] at c; cases c
      unfold ins at h; rw [if_neg hn] at h
      have hend : ∀ i : Nat, i <= l.length -> (∀ x ∈ l.take i, uZ x a < 0) -> (∀ (hi : i < l.length), ¬ uZ l[i] a < 0) -> xh l a Q (i : Int) := by
        intro i hi h1 h2
        have ht : (l.takeWhile fun x => decide (uZ x a < 0)) = l.take i /\ (l.dropWhile fun x => decide (uZ x a < 0)) = l.drop i := by
          have hsp : l = l.take i ++ l.drop i := (List.take_append_drop i l).symm
          constructor
          · conv => lhs; rw [hsp]
            rw [List.takeWhile_append_of_pos (fun x hx => decide_eq_true (h1 x hx))]
            rcases hd : l.drop i with _ | ⟨z, r⟩
            · simp
            · have hlt : i < l.length := by
                rcases Nat.lt_or_ge i l.length with q | q
                · exact q
                · rw [List.drop_of_length_le q] at hd; cases hd
              rw [List.drop_eq_getElem_cons hlt] at hd; injection hd with hd1 hd2
              rw [List.takeWhile_cons_of_neg (by simpa [← hd1] using h2 hlt), List.append_nil]
          · conv => lhs; rw [hsp]
            rw [List.dropWhile_append_of_pos (fun x hx => decide_eq_true (h1 x hx))]
            rcases hd : l.drop i with _ | ⟨z, r⟩
            · rfl
            · have hlt : i < l.length := by
                rcases Nat.lt_or_ge i l.length with q | q
                · exact q
                · rw [List.drop_of_length_le q] at hd; cases hd
              rw [List.drop_eq_getElem_cons hlt] at hd; injection hd with hd1 hd2
              rw [List.dropWhile_cons_of_neg (by simpa [← hd1] using h2 hlt)]
        unfold xh
        rw [aco, acm]
        rw [ht.1, ht.2] at h
        refine ⟨by (first | omega | (unfold I64; omega) | (simp only [List.length_append, List.length_cons, List.length_nil, List.length_take, List.length_drop] at *; omega) | (unfold I64; simp only [List.length_append, List.length_cons, List.length_nil, List.length_take, List.length_drop] at *; omega)), by (first | omega | (unfold I64; omega) | (simp only [List.length_append, List.length_cons, List.length_nil, List.length_take, List.length_drop] at *; omega) | (unfold I64; simp only [List.length_append, List.length_cons, List.length_nil, List.length_take, List.length_drop] at *; omega)), by (first | omega | (unfold I64; omega) | (simp only [List.length_append, List.length_cons, List.length_nil, List.length_take, List.length_drop] at *; omega) | (unfold I64; simp only [List.length_append, List.length_cons, List.length_nil, List.length_take, List.length_drop] at *; omega)), by (first | omega | (unfold I64; omega) | (simp only [List.length_append, List.length_cons, List.length_nil, List.length_take, List.length_drop] at *; omega) | (unfold I64; simp only [List.length_append, List.length_cons, List.length_nil, List.length_take, List.length_drop] at *; omega)), ?_⟩
        simpa using h
      refine yt l.length (fun i => ∀ x ∈ l.take i, uZ x a < 0) (by simp) fun K i hi hI hK => ?_
      show zy _ _ _ _ _
      unfold zy
      refine ⟨fun c => ⟨by (first | omega | (unfold I64; omega) | (simp only [List.length_append, List.length_cons, List.length_nil, List.length_take, List.length_drop] at *; omega) | (unfold I64; simp only [List.length_append, List.length_cons, List.length_nil, List.length_take, List.length_drop] at *; omega)), ?_⟩, fun c => hend i hi hI (fun q => by omega)⟩
      have hi' : i < l.length := by omega
      rw [iP hi']
      refine YA ⟨fun q => ⟨by (first | omega | (unfold I64; omega) | (simp only [List.length_append, List.length_cons, List.length_nil, List.length_take, List.length_drop] at *; omega) | (unfold I64; simp only [List.length_append, List.length_cons, List.length_nil, List.length_take, List.length_drop] at *; omega)), hK (i + 1) (by omega) (by omega) ?_⟩, fun q => hend i hi hI (fun _ => q)⟩
      intro x hx
      rw [List.take_succ_eq_append_getElem hi', List.mem_append, List.mem_singleton] at hx
      rcases hx with hx | rfl
      · exact hI x hx
      · exact q
  refine ⟨fun c => hj true (by have := of_decide_eq_true c; simp [this]), fun c => ND (hj _ ?_)⟩
  have := of_decide_eq_false c
  simp [this]
theorem ZP {l : List Ad} {Q : List Ad -> Prop} (hl : l.length <= 100000) (h : Q (VA l)) : Fp l Q := by
  refine U8 l ins fun K i s hi hs hK => ?_
  have e : s.length <= i := by rw [hs]; have := TU (l.take i); rw [List.length_take] at this; unfold VA at this; omega
  show BD _ _ _ _ _
  unfold BD
  refine ⟨fun c => ⟨by (first | omega | (unfold I64; omega) | (simp only [List.length_append, List.length_cons, List.length_nil, List.length_take, List.length_drop] at *; omega) | (unfold I64; simp only [List.length_append, List.length_cons, List.length_nil, List.length_take, List.length_drop] at *; omega)), YD (by simp only; omega) ⟨by (first | omega | (unfold I64; omega) | (simp only [List.length_append, List.length_cons, List.length_nil, List.length_take, List.length_drop] at *; omega) | (unfold I64; simp only [List.length_append, List.length_cons, List.length_nil, List.length_take, List.length_drop] at *; omega)), ?_⟩⟩, fun c => ?_⟩
  · rw [iP (by omega)]; exact hK (by omega)
  · rw [List.take_of_length_le (by omega)] at hs; rw [hs]; exact h
theorem V5 {a b : List Ad} {Q : Bool -> Prop} (ha : a.length <= 100000) (h : Q (decide (a = b))) : zu a b Q := by
  unfold zu
  refine ⟨fun c => ?_, fun c => ?_⟩
  · have : a ≠ b := fun e => by subst e; exact c rfl
    rw [decide_eq_false this] at h; exact h
  · have c : a.length = b.length := by omega
    refine yt a.length (fun i => a.take i = b.take i) (by simp) fun K i hi hI hK => ?_
    show x8 _ _ _ _ _
    unfold x8
    refine ⟨fun d => ⟨by (first | omega | (unfold I64; omega) | (simp only [List.length_append, List.length_cons, List.length_nil, List.length_take, List.length_drop] at *; omega) | (unfold I64; simp only [List.length_append, List.length_cons, List.length_nil, List.length_take, List.length_drop] at *; omega)), by (first | omega | (unfold I64; omega) | (simp only [List.length_append, List.length_cons, List.length_nil, List.length_take, List.length_drop] at *; omega) | (unfold I64; simp only [List.length_append, List.length_cons, List.length_nil, List.length_take, List.length_drop] at *; omega)), ?_⟩, fun d => ?_⟩
    · have h1 : i < a.length := by omega
      have h2 : i < b.length := by omega
      rw [iP h1, iP h2]
      refine ⟨fun q => ?_, fun q => ⟨by (first | omega | (unfold I64; omega) | (simp only [List.length_append, List.length_cons, List.length_nil, List.length_take, List.length_drop] at *; omega) | (unfold I64; simp only [List.length_append, List.length_cons, List.length_nil, List.length_take, List.length_drop] at *; omega)), hK (i + 1) (by omega) (by omega) ?_⟩⟩
      · have : a ≠ b := fun e => by subst e; exact q rfl
        rw [decide_eq_false this] at h; exact h
      · rw [List.take_succ_eq_append_getElem h1, List.take_succ_eq_append_getElem h2, hI, q]
    · have hab : a = b := by
        have h3 : i = a.length := by omega
        subst h3
        rw [List.take_length, c, List.take_length] at hI; exact hI
      rw [decide_eq_true hab] at h; exact h
theorem yz.tail {x : Ad} {a : List Ad} (h : yz (x :: a)) : yz a := ⟨(List.pairwise_cons.1 h.rise).2, fun y hy => h.good y (by simp [hy])⟩
theorem aaz {α : Type} {x : α} {a : List α} : cut (x :: a) 1 ((x :: a).length : Int) = a := by
  have := acm (x :: a) 1; simpa using this
theorem aaw : ∀ k < 16, Dw k ≠ 44 /\ Dw k ≠ 45 /\ Dw k ≠ 32 := by decide
theorem TV {b : Nat} (hb : 2 <= b /\ b <= 16) (n : Nat) : ∀ c ∈ mP b n, c ≠ 44 /\ c ≠ 45 /\ c ≠ 32 := by
  intro c h
  obtain ⟨k, hk, rfl⟩ := BI hb.1 n _ h
  exact aaw k (by omega)
theorem Mc (a : Ad) : ∀ c ∈ txt a, c ≠ 44 /\ c ≠ 45 /\ c ≠ 32 := by
  have w : ∀ i j, ∀ c ∈ fA (wL a i j) [58], c ≠ 44 /\ c ≠ 45 /\ c ≠ 32 := by
    intro i j c h
    rcases yY h with h | ⟨x, hx, h⟩
    · simp at h; subst h; decide
    · obtain ⟨k, _, rfl⟩ := List.mem_map.1 hx
      exact TV (by decide) _ c h
  intro c h
  unfold txt at h
  split at h
  · split at h
    · exact w _ _ c h
    · rcases List.mem_append.1 h with h | h
      · rcases List.mem_append.1 h with h | h
        · exact w _ _ c h
        · simp at h; subst h; decide
      · exact w _ _ c h
  · rcases yY h with h | ⟨x, hx, h⟩
    · simp at h; subst h; decide
    · obtain ⟨k, _, rfl⟩ := List.mem_map.1 hx
      exact TV (by decide) _ c h
def Ld (l : List Ad) : Str := if l = [] then [45] else fA (l.map txt) [44]
theorem Md {l : List Ad} (h : l ≠ []) : Ld l = fA (l.map txt) [44] := by unfold Ld; rw [if_neg h]
theorem Zw {l : List Ad} (h : l ≠ []) : fA (l.map txt) [44] ≠ [45] := by
  intro e
  have q : (45 : UInt8) ∈ fA (l.map txt) [44] := by rw [e]; simp
  rcases yY q with q | ⟨x, hx, q⟩
  · simp at q
  · obtain ⟨a, _, rfl⟩ := List.mem_map.1 hx
    exact (Mc a _ q).2.1 rfl
theorem UJ {l : List Ad} (h : l ≠ []) : df (fA (l.map txt) [44]) [44] = l.map txt := by
  refine Fh (by simpa using h) fun x hx => ?_
  obtain ⟨a, _, rfl⟩ := List.mem_map.1 hx
  exact fun q => (Mc a _ q).1 rfl
theorem PN {l : List Ad} : (Ld l).length <= l.length * 101 + 1 := by
  unfold Ld
  split
  · simp
  · have := Ij (c := 44) (m := 100) (l := l.map txt) (by intro x hx; obtain ⟨a, _, rfl⟩ := List.mem_map.1 hx; exact AX a)
    rw [List.length_map] at this; omega
theorem Zv {l : List Ad} : (32 : UInt8) ∉ Ld l := by
  unfold Ld
  split
  · simp
  · intro q
    rcases yY q with q | ⟨x, hx, q⟩
    · simp at q
    · obtain ⟨a, _, rfl⟩ := List.mem_map.1 hx
      exact (Mc a _ q).2.2 rfl
theorem Ip {a : Ad} : qh a = true ↔ Hu a := by
  unfold qh Hu
  simp only [Bool.or_eq_true, decide_eq_true_eq]
theorem J8 {s : Str} (hl : s.length <= 800) {Q : Ad -> Int -> Prop} (h1 : ∀ a, Hu a -> txt a = s -> (∀ a', Hu a' -> txt a' = s -> a' = a) -> Q a 0) (h2 : (∀ a, Hu a -> txt a ≠ s) -> Q (false, (default : Ba 16)) 2) : uC s Q := by
  refine Sl hl fun b ok hb => X7 (fun h4 => ⟨fun c => ⟨fun _ => h2 fun a ha e => ?_, fun q => (by cases q)⟩, fun c => ⟨fun q => absurd rfl q, fun _ => LP ?_⟩⟩) (fun h4 => ⟨fun c => ⟨fun _ => h2 fun a ha e => ?_, fun q => (by cases q)⟩, fun c => ⟨fun _ => ⟨fun _ => h2 fun a ha e => ?_, fun q => (by cases q)⟩, fun q => absurd q (by decide)⟩⟩)
  · rw [(hb a e.symm).2] at c; cases c
  · refine ⟨fun d => h2 fun a ha e => ?_, fun d => h1 _ (We h4) (by simpa using d) fun a' ha' e' => by rw [(hb a' e'.symm).1, (RQ ha').1]⟩
    have d : txt (rdA b) ≠ s := by simpa using d
    rw [(hb a e.symm).1, (RQ ha).1] at d
    exact d e
  · rw [(hb a e.symm).2] at c; cases c
  · rw [(hb a e.symm).1] at h4; exact h4 (RQ ha).2
theorem VR {l : List Ad} {i : Nat} (h : i < l.length) : fA ((l.take (i + 1)).map txt) [44] = (if 0 < i then fA ((l.take i).map txt) [44] ++ [44] else []) ++ txt l[i] := by
  rw [List.take_succ_eq_append_getElem h, List.map_append]
  split
  · rename_i hi
    have : (l.take i).map txt ≠ [] := by intro e; have := congrArg List.length e; rw [List.length_map, List.length_take] at this; simp only [List.length_nil] at this; omega
    exact FO this _ _
  · have : i = 0 := by omega
    subst this
    exact pz _ _
theorem Tu (l : List Ad) : (fA (l.map txt) [44]).length <= l.length * 101 := by
  have := Ij (c := 44) (m := 100) (l := l.map txt) (by intro x hx; obtain ⟨a, _, rfl⟩ := List.mem_map.1 hx; exact AX a)
  rw [List.length_map] at this; exact this
theorem Nb {l : List Ad} {Q : Str -> Prop} (hl : l.length <= 1000) (h : Q (Ld l)) : x9 l Q := by
  refine ⟨fun c => ?_, fun c => ?_⟩
  · have e : l = [] := List.eq_nil_of_length_eq_zero (by omega)
    unfold Ld at h; rw [if_pos e] at h; exact h
  · have e : l ≠ [] := by rintro rfl; exact c rfl
    rw [Md e] at h
    refine yG l.length (fun i s => s = fA ((l.take i).map txt) [44]) rfl fun K i s hi hs hK => ?_
    show wC l Q _ s (i : Int)
    unfold wC wE
    have hJ := Tu (l.take i)
    rw [List.length_take] at hJ
    rw [← hs] at hJ
    refine ⟨fun d => ?_, fun d => ?_⟩
    · have hi1 : i < l.length := by omega
      have ht := AX l[i]
      have hS := VR hi1
      rw [iP hi1]
      refine ⟨fun q => ⟨?_, by omega, EP ⟨?_, by unfold I64; omega, hK (i + 1) _ (by omega) (by omega) ?_⟩⟩, fun q => ⟨by omega, EP ⟨?_, by unfold I64; omega, hK (i + 1) _ (by omega) (by omega) ?_⟩⟩⟩
      · simp only [List.length_cons, List.length_nil]; omega
      · simp only [List.length_append, List.length_cons, List.length_nil]; omega
      · rw [hS, if_pos (by omega), ← hs]
      · omega
      · have i0 : i = 0 := by omega
        subst i0
        rw [hS, if_neg (by omega), hs]; rfl
    · have : i = l.length := by omega
      subst this
      rw [List.take_length] at hs; rw [hs]; exact h
theorem OL {l : List Ad} {Q : Str -> Prop} (hl : l.length <= 1000) (h : Q (Ld l)) : Eb l Q := by
  refine ⟨fun c => ?_, fun c => ?_⟩
  · have e : l = [] := List.eq_nil_of_length_eq_zero (by omega)
    unfold Ld at h; rw [if_pos e] at h; exact h
  · have e : l ≠ [] := by rintro rfl; exact c rfl
    rw [Md e] at h
    refine yG l.length (fun i s => s = (l.take i).map txt) rfl fun K i s hi hs hK => ?_
    show zi l Q _ s (i : Int)
    unfold zi
    have hsl : s.length = i := by rw [hs, List.length_map, List.length_take]; omega
    refine ⟨fun d => ?_, fun d => ?_⟩
    · have hi1 : i < l.length := by omega
      rw [iP hi1]
      refine ⟨by omega, LP ⟨?_, by unfold I64; omega, hK (i + 1) _ (by omega) (by omega) ?_⟩⟩
      · simp only [List.length_cons, List.length_nil]; omega
      · rw [hs, List.take_succ_eq_append_getElem hi1, List.map_append]; rfl
    · have : i = l.length := by omega
      subst this
      rw [List.take_length] at hs; rw [hs]
      have := Tu l
      refine ⟨⟨by rw [List.length_map]; omega, by omega⟩, h⟩
theorem Sr {s : Str} (hl : s.length <= 1000) {Q : List Ad -> Int -> Prop} (hp : ∀ x ∈ df s [44], x.length <= 800)
    (h1 : ∀ l, yz l -> l.length <= s.length + 1 -> Ld l = s -> (∀ l', yz l' -> Ld l' = s -> l' = l) -> Q l 0) (h2 : (∀ l, yz l -> Ld l ≠ s) -> Q [] 2) : CZ s Q := by
  refine ⟨fun c => ?_, fun c => ⟨⟨by omega, by decide⟩, ?_⟩⟩
  · subst c
    refine h1 [] yz.nil (by simp) rfl fun l' _ e => ?_
    by_cases q : l' = []
    · exact q
    · rw [Md q] at e; exact absurd e (Zw q)
  · have key : ∀ l, yz l -> Ld l = s -> l ≠ [] /\ l.map txt = df s [44] := by
      intro l _ e
      have hl : l ≠ [] := by rintro rfl; exact c e.symm
      rw [Md hl] at e
      exact ⟨hl, by rw [← e, UJ hl]⟩
    have hsl := JQ s 44
    have hne := MM s 44
    refine Ii (fun st => st.2.2) 0 (df s [44]).length (fun i st => st.2.1.map txt = (df s [44]).take i /\ yz st.2.1 /\ ∀ l, yz l -> l.map txt = df s [44] -> st.2.1 = l.take i) rfl (by omega) ⟨rfl, yz.nil, fun _ _ _ => rfl⟩ ?_
    rintro K i ⟨l1, out, _⟩ rfl hi ⟨hm, hA, hU⟩ hK
    dsimp only at hm hA hU ⊢
    unfold AY
    have hol : out.length = i := by have := congrArg List.length hm; rw [List.length_map, List.length_take] at this; omega
    refine ⟨fun d => ⟨by omega, ?_⟩, fun d => ?_⟩
    · have hi1 : i < (df s [44]).length := by omega
      rw [iP hi1]
      have acr : ∀ l, yz l -> l.map txt = df s [44] -> ∃ h : i < l.length, txt l[i] = (df s [44])[i] /\ Hu l[i] := by
        intro l hA' hm'
        have hlen : l.length = (df s [44]).length := by rw [← hm', List.length_map]
        refine ⟨by omega, ?_, Ip.1 (hA'.good _ (List.getElem_mem _))⟩
        have : (l.map txt)[i]'(by rw [List.length_map]; omega) = (df s [44])[i] := by simp only [hm']
        rw [← this, List.getElem_map]
      refine J8 (hp _ (List.getElem_mem _)) (fun a ha e ua => ⟨fun q => absurd rfl q, fun _ => ?_⟩) (fun hno => ⟨fun _ => h2 fun l hA' e => ?_, fun q => (by cases q)⟩)
      · have abe : ∀ l, (hA' : yz l) -> l.map txt = df s [44] -> ∃ h : i < l.length, l[i] = a := by
          intro l hA' hm'
          obtain ⟨h, e1, g1⟩ := acr l hA' hm'
          exact ⟨h, ua _ g1 e1⟩
        have next : (∀ x ∈ out, Ti x a) -> xP l1 out i (fun oq bK bn => K (oq, bK, bn)) a := by
          intro hlt
          refine ⟨?_, by unfold I64; omega, hK (i + 1) _ (by simp) (by omega) (by omega) ⟨?_, ?_, ?_⟩⟩
          · simp only [List.length_cons, List.length_nil]; omega
          · dsimp only; rw [List.map_append, hm, List.take_succ_eq_append_getElem hi1, List.map_singleton, e]
          · refine ⟨List.pairwise_append.2 ⟨hA.rise, List.pairwise_singleton _ _, fun x hx y hy => ?_⟩, fun x hx => ?_⟩
            · simp at hy; subst hy; exact hlt x hx
            · rcases List.mem_append.1 hx with hx | hx
              · exact hA.good x hx
              · simp at hx; subst hx; exact Ip.2 ha
          · intro l hA' hm'
            obtain ⟨h, el⟩ := abe l hA' hm'
            dsimp only
            rw [List.take_succ_eq_append_getElem h, el, ← hU l hA' hm']
        refine ⟨fun d0 => ⟨by unfold I64; omega, by omega, UA ⟨fun q => h2 fun l hA' e' => ?_, fun q => next fun x hx => ?_⟩⟩, fun d0 => next fun x hx => ?_⟩
        · have hm' := (key l hA' e').2
          obtain ⟨h, el⟩ := abe l hA' hm'
          have hu := hU l hA' hm'
          have i1 : i - 1 < out.length := by omega
          rw [show (out.length : Int) - 1 = ((i - 1 : Nat) : Int) by omega, iP i1] at q
          have eo : out[i - 1] = l[i - 1]'(by omega) := by simp only [hu, List.getElem_take]
          have := List.pairwise_iff_getElem.1 hA'.rise (i - 1) i (by omega) h (by omega)
          rw [← eo, el] at this
          unfold Ti at this
          have q' : 0 <= uZ out[i - 1] a := q
          omega
        · have i1 : i - 1 < out.length := by omega
          rw [show (out.length : Int) - 1 = ((i - 1 : Nat) : Int) by omega, iP i1] at q
          have q' : Ti out[i - 1] a := by
            have q' : ¬ 0 <= uZ out[i - 1] a := q
            unfold Ti; omega
          obtain ⟨k, hk, rfl⟩ := List.mem_iff_getElem.1 hx
          by_cases hki : k = i - 1
          · subst hki; exact q'
          · exact Io _ _ _ (List.pairwise_iff_getElem.1 hA.rise k (i - 1) hk i1 (by omega)) q'
        · have : out = [] := List.eq_nil_of_length_eq_zero (by omega)
          rw [this] at hx; cases hx
      · have hm' := (key l hA' e).2
        obtain ⟨_, e1, g1⟩ := acr l hA' hm'
        exact hno _ g1 e1
    · have hie : i = (df s [44]).length := by omega
      rw [hie, List.take_length] at hm
      have hon : out ≠ [] := by rintro rfl; exact hne hm.symm
      refine h1 out hA (by omega) (by rw [Md hon, hm, SB]) fun l' hA' e' => ?_
      have hm' := (key l' hA' e').2
      rw [hU l' hA' hm', hie, ← hm', List.length_map, List.take_length]
theorem Yy {c : UInt8} {x r : Str} (h : c ∉ x) : kC (x ++ c :: r) [c] = (x, r, true) := by
  unfold kC Lib.cut
  rw [Qd h, if_pos (by omega)]
  simp
def mode (e : Bool) : Str := if e = true then [101, 120] else [105, 110]
theorem TZ (e : Bool) : (32 : UInt8) ∉ mode e := by cases e <;> decide
theorem Ua (e : Bool) : decide ((mode e : Str) = [101, 120]) = e := by cases e <;> rfl
def Rw (e : Bool) (l : List Ad) : Str := mode e ++ 32 :: Ld l
theorem Ru (l : List Ad) : Rw true l = [101, 120, 32] ++ Ld l := rfl
theorem Rt (l : List Ad) : Rw false l = [105, 110, 32] ++ Ld l := rfl
theorem XX (e : Bool) (l : List Ad) : kC (Rw e l) [32] = (mode e, Ld l, true) := Yy (TZ e)
theorem PO (e : Bool) (l : List Ad) : (Rw e l).length <= l.length * 101 + 4 := by
  have := PN (l := l)
  cases e
  · rw [Rt, List.length_append]; simp only [List.length_cons, List.length_nil]; omega
  · rw [Ru, List.length_append]; simp only [List.length_cons, List.length_nil]; omega
theorem Sj {e : Bool} {l : List Ad} {Q : Str -> Prop} (hl : l.length <= 1000) (h : Q (Rw e l)) : Bh e l Q := by
  have hb := PN (l := l)
  refine ⟨fun c => Nb hl ⟨?_, ?_⟩, fun c => Nb hl ⟨?_, ?_⟩⟩
  · simp only [List.length_cons, List.length_nil]; omega
  · rw [c, Ru] at h; exact h
  · simp only [List.length_cons, List.length_nil]; omega
  · rw [c, Rt] at h; exact h
theorem OM {e : Bool} {l : List Ad} {Q : Str -> Prop} (hl : l.length <= 1000) (h : Q (Rw e l)) : zM e l Q := by
  have hb := PN (l := l)
  refine ⟨fun c => OL hl ⟨?_, ?_⟩, fun c => OL hl ⟨?_, ?_⟩⟩
  · simp only [List.length_cons, List.length_nil]; omega
  · rw [c, Ru] at h; exact h
  · simp only [List.length_cons, List.length_nil]; omega
  · rw [c, Rt] at h; exact h
theorem Uz (s : Str) : (kC s [32]).2.1.length <= s.length := (Q8 s [32]).2
theorem Nh {s : Str} (hl : s.length <= 900) {Q : Bool -> List Ad -> Int -> Prop} (hp : ∀ x ∈ df (kC s [32]).2.1 [44], x.length <= 800)
    (h1 : ∀ e l, yz l -> l.length <= s.length + 1 -> Rw e l = s -> (∀ e' l', yz l' -> Rw e' l' = s -> e' = e /\ l' = l) -> Q e l 0) (h2 : (∀ e l, yz l -> Rw e l ≠ s) -> Q false [] 2) : Bl s Q := by
  have hc := Uz s
  have of : ∀ e l, Rw e l = s -> (kC s [32]).1 = mode e /\ (kC s [32]).2.1 = Ld l := by
    rintro e l rfl; rw [XX]; exact ⟨rfl, rfl⟩
  refine ⟨by omega, Sr (by omega) hp (fun l hA hn ht hu => ⟨fun q => absurd rfl q, fun _ => OM (by omega) ⟨fun q => h2 fun e' l' hA' e => ?_, fun q => h1 _ l hA (by omega) (by simpa using q) fun e' l' hA' e => ?_⟩⟩) (fun hno => ⟨fun _ => ⟨fun _ => h2 fun e' l' hA' e => ?_, fun q => (by cases q)⟩, fun q => absurd q (by decide)⟩)⟩
  · have q' : Rw (decide (((kC s [32]).1 : Str) = [101, 120])) l ≠ s := by simpa using q
    obtain ⟨k1, k2⟩ := of e' l' e
    rw [hu l' hA' k2.symm] at e
    rw [k1, Ua] at q'
    exact q' e
  · obtain ⟨k1, k2⟩ := of e' l' e
    exact ⟨by rw [k1, Ua], hu l' hA' k2.symm⟩
  · exact hno l' hA' (of e' l' e).2.symm
theorem ack : ∀ k < 10, (Dw k).toNat = 48 + k := by decide
theorem QQ (n : Nat) : jo (n : Int) = mP 10 n := by unfold jo; rw [Lib.itoa_nonneg, NR]
theorem WL (n : Nat) (h : 1 <= n) : jo (-(n : Int)) = 45 :: mP 10 n := by unfold jo; rw [Lib.itoa_neg n h, NR]
theorem I7 (n : Int) : (∃ m : Nat, n = m /\ jo n = mP 10 m) ∨ ∃ m : Nat, 1 <= m /\ n = -(m : Int) /\ jo n = 45 :: mP 10 m := by
  by_cases h : 0 <= n
  · obtain ⟨m, rfl⟩ := Int.eq_ofNat_of_zero_le h
    exact .inl ⟨m, rfl, QQ m⟩
  · obtain ⟨m, hm⟩ : ∃ m : Nat, n = -(m : Int) := ⟨n.natAbs, by omega⟩
    have h1 : 1 <= m := by omega
    subst hm
    exact .inr ⟨m, h1, rfl, WL m h1⟩
theorem zO {n : Int} (h : I64 n) : (jo n).length <= 21 := Lib.itoa_length_le n h.1 h.2
theorem Ny {n : Int} {c : UInt8} (hc : c ∈ jo n) : c = 45 ∨ ∃ k < 10, c = Dw k := by
  rcases I7 n with ⟨m, _, e⟩ | ⟨m, _, _, e⟩
  · rw [e] at hc; exact .inr (BI (by decide) m c hc)
  · rw [e] at hc
    rcases List.mem_cons.1 hc with hc | hc
    · exact .inl hc
    · exact .inr (BI (by decide) m c hc)
theorem SS : ∀ k < 10, Dw k ≠ 32 /\ Dw k ≠ 62 /\ Dw k ≠ 45 /\ Dw k ≠ 43 := by decide
theorem LV {n : Int} : (32 : UInt8) ∉ jo n /\ (62 : UInt8) ∉ jo n := by
  constructor <;> intro h <;> rcases Ny h with h | ⟨k, hk, h⟩
  · exact absurd h (by decide)
  · exact (SS k hk).1 h.symm
  · exact absurd h (by decide)
  · exact (SS k hk).2.1 h.symm
theorem Yn (x : Int) : I64 (IntKind.i64.wrap x) := by
  unfold I64 IntKind.wrap
  simp only [IntKind.signed, IntKind.bits]
  have h1 := Int.emod_nonneg x (b := 18446744073709551616) (by decide)
  have h2 := Int.emod_lt_of_pos x (b := 18446744073709551616) (by decide)
  simp
  split <;> omega
theorem Uw {s s0 : Str} (hl : s.length <= 18) (h0 : s0 ≠ []) {Q : Int -> Int -> Prop} (hbad : ∀ e : Int, e = 2 -> (∀ m, s ≠ mP 10 m) -> Q 0 e)
    (hgood : ∀ n : Nat, n < 10 ^ 18 -> (∀ m, s = mP 10 m -> n = m) -> (s0.head? = some 45 -> Q (-(n : Int)) 0) /\ (s0.head? ≠ some 45 -> Q (n : Int) 0)) : nC s0 Q s := by
  refine ⟨by omega, ?_⟩
  refine yG s.length (fun i v => ∃ n : Nat, v = n /\ n < 10 ^ i /\ ∀ m, s = mP 10 m -> n = val 10 (s.take i)) ⟨0, rfl, by decide, fun _ _ => rfl⟩ fun K i v hi ⟨n, hv, hn, hm⟩ hK => ?_
  subst hv
  show ni _ _ _ _ ((n : Nat) : Int) (i : Int)
  unfold ni
  have h10 : (10 : Nat) ^ i <= 10 ^ 18 := Nat.pow_le_pow_right (by decide) (by omega)
  refine ⟨fun c => ⟨by omega, ?_⟩, fun c => ?_⟩
  · have i1 : i < s.length := by omega
    have hlt := s[i].toNat_lt
    have h17 : (10 : Nat) ^ i * 10 <= 10 ^ 18 := by rw [← Nat.pow_succ]; exact Nat.pow_le_pow_right (by decide) (by omega)
    rw [iP i1]
    have ew := jJ (((s[i].toNat : Nat) : Int) - 48)
    have hmem : ∀ m, s = mP 10 m -> ∃ k < 10, s[i] = Dw k /\ n * 10 + k = val 10 (s.take (i + 1)) := by
      intro m e
      obtain ⟨k, hk, ek⟩ := BI (b := 10) (by decide) m s[i] (by rw [← e]; exact List.getElem_mem i1)
      refine ⟨k, hk, ek, ?_⟩
      rw [List.take_succ_eq_append_getElem i1, Jf, ← hm m e, ek, Hy k (by omega)]
    refine ⟨fun b => hbad 2 rfl fun m e => ?_, fun b => ?_⟩
    · obtain ⟨k, hk, ek, _⟩ := hmem m e
      have := ack k hk
      rw [ek, this] at ew b
      omega
    · obtain ⟨d, hd, hdk⟩ : ∃ d : Nat, ((jh (((s[i].toNat : Nat) : Int) - 48)).toNat : Int) = (d : Int) /\ d <= 9 := ⟨_, rfl, by omega⟩
      rw [hd]
      refine ⟨by unfold I64; omega, by unfold I64; omega, by unfold I64; omega, by unfold I64; omega, hK (i + 1) _ (by omega) i1 ⟨n * 10 + d, by omega, ?_, fun m e => ?_⟩⟩
      · rw [Nat.pow_succ]; omega
      · obtain ⟨k, hk, ek, ev⟩ := hmem m e
        have hq := ack k hk
        rw [ek, hq] at ew hd
        have : d = k := by omega
        subst this; exact ev
  · have i1 : i = s.length := by omega
    subst i1
    have hfin : ∀ m, s = mP 10 m -> n = m := by
      intro m e
      have := hm m e
      rw [List.take_length, e, GH ⟨by decide, by decide⟩] at this; exact this
    obtain ⟨g1, g2⟩ := hgood n (by omega) hfin
    obtain ⟨a, r, rfl⟩ : ∃ a r, s0 = a :: r := by cases s0 with
      | nil => exact absurd rfl h0
      | cons a r => exact ⟨a, r, rfl⟩
    have hg : gi (a :: r) (0 : Int) = a := by
      have := iP (l := a :: r) (i := 0) (by simp)
      simpa using this
    refine ⟨by simp only [List.length_cons]; omega, fun b => ⟨by unfold I64; omega, ?_⟩, fun b => ?_⟩
    · rw [hg] at b
      have ha : a = 45 := UInt8.toNat_inj.1 (by have : (45 : UInt8).toNat = 45 := rfl; omega)
      have := g1 (by rw [ha]; rfl)
      unfold ny
      rwa [show (0 : Int) - (n : Int) = -(n : Int) by omega]
    · rw [hg] at b
      exact g2 (fun e => b (by injection e with e; rw [e]; rfl))
theorem aa8 : IntKind.u64.wrap ((IntKind.u64.wrap ((1 : Int) * 2 ^ (min (IntKind.u64.wrap (64 : Int)).toNat IntKind.u64.bits))) - 1) = 18446744073709551615 := by decide +kernel
theorem Zr : IntKind.u64.wrap 10 = 10 := by decide +kernel
theorem aaU : ((jh 10).toNat : Int) = 10 := by decide +kernel
theorem ZU {Q : Int -> Int -> Prop} {K : Bool -> Int -> Int -> Prop} {i : Int} {n d : Nat} (hn : n < 18446744073709551616) (hd : d < 256) (hi : I64 (i + 1))
    (e2 : 10 <= d -> Q 0 2) (e1 : d < 10 -> 18446744073709551616 <= n * 10 + d -> Q 18446744073709551615 1) (ok : d < 10 -> n * 10 + d < 18446744073709551616 -> K false ((n * 10 + d : Nat) : Int) (i + 1)) :
    fP Q 10 64 1844674407370955162 false (n : Int) i K (d : Int) := by
  unfold fP jl
  rw [aaU, aa8, Zr]
  refine ⟨fun c => e2 (by omega), fun c => ⟨fun c2 => e1 (by omega) (by omega), fun c2 => ?_⟩⟩
  have eB : IntKind.u64.wrap ((n : Int) * 10) = ((n * 10 : Nat) : Int) := by
    rw [show (n : Int) * 10 = ((n * 10 : Nat) : Int) by omega]
    exact XR (by omega)
  rw [eB, XR (n := d) (by omega), show ((n * 10 : Nat) : Int) + (d : Int) = ((n * 10 + d : Nat) : Int) by omega]
  by_cases hov : n * 10 + d < 18446744073709551616
  · rw [XR hov]
    exact ⟨fun c3 => by omega, fun _ => ⟨fun c3 => by have := of_decide_eq_true c3; omega, fun _ => ⟨hi, ok (by omega) hov⟩⟩⟩
  · have e : IntKind.u64.wrap ((n * 10 + d : Nat) : Int) = ((n * 10 + d - 18446744073709551616 : Nat) : Int) := by
      rw [IntKind.wrap_u64]; omega
    rw [e]
    exact ⟨fun c3 => ⟨fun _ => e1 (by omega) (by omega), fun q => (by cases q)⟩, fun c3 => by omega⟩
theorem UY {s s1 : Str} {Q : Int -> Int -> Prop} (hl : s.length <= 1000)
    (h : ∀ (v e : Int), (e = 0 ∨ e = 1 ∨ e = 2) -> (∀ n : Nat, n < 18446744073709551616 -> s = mP 10 n -> v = n /\ e = 0) -> Q v e) :
    kG (fun (eY : (Bool × Int × Int) -> Prop) (q : Bool × Int × Int) => iO s1 10 Q s 10 64 1844674407370955162 (fun cO bn gJ => eY (cO, bn, gJ)) q.1 q.2.1 q.2.2) (false, 0, 0) := by
  refine FM (fun q => q.2.2) s.length (fun i q => q.1 = false /\ ∃ n : Nat, q.2.1 = n /\ n < 18446744073709551616 /\ ∀ m, m < 18446744073709551616 -> s = mP 10 m -> n = val 10 (s.take i)) rfl ⟨rfl, 0, rfl, by decide, fun _ _ _ => rfl⟩ ?_
  rintro K i ⟨_, _, _⟩ rfl hi ⟨rfl, n, rfl, hn, hv⟩ hK
  simp only at hv ⊢
  unfold iO
  refine ⟨fun c => ⟨by omega, ?_⟩, fun c => ⟨fun q => (by cases q), fun _ => ⟨fun q => (by cases q), fun _ => h _ _ (.inl rfl) fun m hm e => ⟨?_, rfl⟩⟩⟩⟩
  · have i1 : i < s.length := by omega
    have hg : ((gi s (i : Int)).toNat : Int) = ((s[i].toNat : Nat) : Int) := by rw [iP i1]
    have h9 : gY Q s 10 64 1844674407370955162 false (n : Int) (i : Int) (fun cO bn gJ => K (cO, bn, gJ)) false := by
      have hmem : ∀ m, m < 18446744073709551616 -> s = mP 10 m -> ∃ k < 10, s[i] = Dw k /\ n * 10 + k = val 10 (s.take (i + 1)) /\ n * 10 + k <= m := by
        intro m hm e
        obtain ⟨k, hk, ek⟩ := BI (b := 10) (by decide) m s[i] (by rw [← e]; exact List.getElem_mem i1)
        have e1 : val 10 (s.take (i + 1)) = n * 10 + k := by
          rw [List.take_succ_eq_append_getElem i1, Jf, ← hv m hm e, ek, Hy k (by omega)]
        have e2 := Qs (b := 10) (by omega) s (i + 1)
        have e3 : val 10 s = m := by rw [e]; exact GH ⟨by decide, by decide⟩ m
        exact ⟨k, hk, ek, e1.symm, by omega⟩
      refine Xy s[i].toNat_lt hg (fun d hd hdk => ZU hn hd (by unfold I64; omega) (fun hbd => h _ _ (.inr (.inr rfl)) fun m hm e => ?_) (fun hdb hov => h _ _ (.inr (.inl rfl)) fun m hm e => ?_) (fun hdb hok => hK (i + 1) _ (by simp) (by omega) (by omega) ⟨rfl, n * 10 + d, rfl, hok, fun m hm e => ?_⟩)) (fun hno => h _ _ (.inr (.inr rfl)) fun m hm e => ?_)
      · obtain ⟨k, hk, ek, _, _⟩ := hmem m hm e
        have := hdk k (by omega) (by rw [ek]); omega
      · obtain ⟨k, hk, ek, _, _⟩ := hmem m hm e
        have := hdk k (by omega) (by rw [ek]); subst this; omega
      · obtain ⟨k, hk, ek, ev, _⟩ := hmem m hm e
        have := hdk k (by omega) (by rw [ek]); subst this; exact ev
      · obtain ⟨k, hk, ek, _, _⟩ := hmem m hm e
        exact absurd (by rw [ek]) (hno k (by omega))
    refine ⟨fun _ => ?_, fun _ => h9⟩
    rw [decide_eq_false (by decide)]; exact h9
  · have i1 : i = s.length := by omega
    rw [hv m hm e, i1, List.take_length, e, GH ⟨by decide, by decide⟩]
theorem Ye {s : Str} (hl : s.length <= 1000) {K : Int -> Int -> Prop} (h : ∀ (v e : Int), (e = 0 ∨ e = 1 ∨ e = 2) -> (∀ n : Nat, n < 18446744073709551616 -> s = mP 10 n -> v = n /\ e = 0) -> K v e) : jc s 10 0 K := by
  unfold jc
  refine ⟨fun c => h _ _ (.inr (.inr rfl)) fun n _ es => absurd (es.symm.trans c) (FI _ _), fun c => ?_⟩
  exact ⟨fun _ => ⟨fun _ => ⟨fun _ => ⟨fun _ => ⟨by decide +kernel, by omega, UY hl h⟩, fun q => absurd rfl q⟩, fun q => absurd rfl q⟩, fun q => absurd q (by decide)⟩, fun q => absurd (by decide) q⟩
theorem adK : IntKind.u64.wrap ((1 : Int) * 2 ^ (min (IntKind.u64.wrap ((64 : Int) - 1)).toNat IntKind.u64.bits)) = 9223372036854775808 := by decide +kernel
theorem WR {x : Int} (h : I64 x) : IntKind.i64.wrap x = x := wrap_i64 h.1 h.2
theorem ZM {Q : Int -> Int -> Prop} {neg : Bool} {v : Int} (h : ∀ x : Int, I64 x -> (∀ m : Nat, v = m -> (neg = false -> m < 9223372036854775808 -> x = m) /\ (neg = true -> m <= 9223372036854775808 -> x = -(m : Int))) -> Q x 0) : jA Q neg v := by
  refine ⟨fun hn => h _ (Yn _) fun m hm => ⟨fun c => (by rw [hn] at c; cases c), fun _ hle => ?_⟩, fun hn => h _ (Yn _) fun m hm => ⟨fun _ hlt => ?_, fun c => (by rw [hn] at c; cases c)⟩⟩
  · subst hm
    by_cases hlt : m < 9223372036854775808
    · rw [WR (x := (m : Int)) (by unfold I64; omega), show (0 : Int) - (m : Int) = -(m : Int) by omega]
      exact WR (by unfold I64; omega)
    · have : m = 9223372036854775808 := by omega
      subst this; decide +kernel
  · subst hm; exact WR (by unfold I64; omega)
theorem ZN {Q : Int -> Int -> Prop} {neg : Bool} {v : Int} (h : ∀ x e : Int, I64 x -> (e = 0 ∨ e = 1) -> (∀ m : Nat, v = m -> (neg = false -> m < 9223372036854775808 -> x = m /\ e = 0) /\ (neg = true -> m <= 9223372036854775808 -> x = -(m : Int) /\ e = 0)) -> Q x e) : jB 0 Q neg v := by
  have h5 : jA Q neg v := ZM fun x hx hm => h x 0 hx (.inl rfl) fun m e => ⟨fun a b => ⟨(hm m e).1 a b, rfl⟩, fun a b => ⟨(hm m e).2 a b, rfl⟩⟩
  refine ⟨fun _ => ?_, fun q => absurd rfl q⟩
  unfold kJ kH
  rw [adK]
  refine ⟨by unfold I64; omega, by decide +kernel, fun hn => ⟨fun c => h _ _ (Yn _) (.inr rfl) fun m hm => ⟨fun _ b => ?_, fun a => ?_⟩, fun c => ⟨fun a => ?_, fun _ => h5⟩⟩, fun hn => ⟨fun a => ⟨fun c => h _ _ (Yn _) (.inr rfl) fun m hm => ⟨fun a' => ?_, fun _ b => ?_⟩, fun _ => h5⟩, fun _ => h5⟩⟩
  · omega
  · rw [a] at hn; cases hn
  · rw [a] at hn; cases hn
  · rw [a'] at hn; cases hn
  · omega
theorem gi0 (a : UInt8) (r : Str) : gi (a :: r) (0 : Int) = a := by
  have := iP (l := a :: r) (i := 0) (by simp)
  simpa using this
theorem Ht {a : UInt8} {c : UInt8} : ((a.toNat : Int) = (c.toNat : Int)) ↔ a = c := by
  constructor
  · intro h; exact UInt8.toNat_inj.1 (by omega)
  · rintro rfl; rfl
theorem EX {n : Int} {a : UInt8} {r : Str} (h : a :: r = jo n) : (a = 45 /\ ∃ m : Nat, 1 <= m /\ n = -(m : Int) /\ r = mP 10 m) ∨ (a ≠ 45 /\ a ≠ 43 /\ ∃ m : Nat, n = m /\ a :: r = mP 10 m) := by
  rcases I7 n with ⟨m, hn, e⟩ | ⟨m, h1, hn, e⟩
  · obtain ⟨k, hk, ek⟩ := BI (b := 10) (by decide) m a (by rw [← e, ← h]; simp)
    have := SS k hk
    exact .inr ⟨by rw [ek]; exact this.2.2.1, by rw [ek]; exact this.2.2.2, m, hn, h.trans e⟩
  · rw [e] at h; injection h with h1' h2'
    exact .inl ⟨h1', m, h1, hn, h2'⟩
theorem Yf {s : Str} (hl : s.length <= 1000) {Q : Int -> Int -> Prop} (h : ∀ v e : Int, I64 v -> (e = 0 ∨ e = 1 ∨ e = 2) -> (∀ n, I64 n -> s = jo n -> v = n /\ e = 0) -> Q v e) : nK s 10 0 Q := by
  refine ⟨fun c => h 0 2 (by unfold I64; omega) (.inr (.inr rfl)) fun n _ e => ?_, fun c => ?_⟩
  · rcases I7 n with ⟨m, _, e'⟩ | ⟨m, _, _, e'⟩
    · exact absurd (e'.symm.trans (e.symm.trans c)) (FI _ _)
    · rw [c, e'] at e; cases e
  · obtain ⟨a, r, rfl⟩ : ∃ a r, s = a :: r := by cases s with
      | nil => exact absurd rfl c
      | cons a r => exact ⟨a, r, rfl⟩
    rw [gi0, aaz]
    have tail : ∀ (neg : Bool) (s1 : Str), s1.length <= 1000 -> (∀ n, I64 n -> a :: r = jo n -> ∃ m : Nat, s1 = mP 10 m /\ (neg = false /\ n = m ∨ neg = true /\ n = -(m : Int))) -> jC 10 0 Q s1 neg := by
      intro neg s1 h1 hs
      refine Ye h1 fun v e he hv => ?_
      have go : (e = 0 ∨ e = 1) -> jB 0 Q neg v := fun he' => ZN fun x e' hx hx' hm => h x e' hx (by omega) fun n hn es => ?_
      · refine ⟨fun c0 => ⟨fun c1 => h 0 e (by unfold I64; omega) he fun n hn es => ?_, fun c1 => go (.inr c1)⟩, fun c0 => go (.inl c0)⟩
        obtain ⟨m, e1, e2⟩ := hs n hn es
        unfold I64 at hn
        exact absurd (hv m (by omega) e1).2 c0
      · obtain ⟨m, e1, e2⟩ := hs n hn es
        unfold I64 at hn
        obtain ⟨v1, v2⟩ := hv m (by omega) e1
        rcases e2 with ⟨q, e2⟩ | ⟨q, e2⟩
        · rw [e2]; exact (hm m v1).1 q (by omega)
        · rw [e2]; exact (hm m v1).2 q (by omega)
    refine ⟨by simp only [List.length_cons]; omega, fun b => ⟨by simp only [List.length_cons]; omega, tail false r (by simp at hl; omega) fun n hn es => ?_⟩, fun b => ⟨fun b' => ⟨by simp only [List.length_cons]; omega, tail true r (by simp at hl; omega) fun n hn es => ?_⟩, fun b' => tail false _ hl fun n hn es => ?_⟩⟩
    · have ha : a = 43 := Ht.1 b
      rcases EX es with ⟨e1, _⟩ | ⟨_, e1, _⟩
      · rw [ha] at e1; exact absurd e1 (by decide)
      · exact absurd ha e1
    · have ha : a = 45 := Ht.1 b'
      rcases EX es with ⟨_, m, _, e1, e2⟩ | ⟨e1, _⟩
      · exact ⟨m, e2, .inr ⟨rfl, e1⟩⟩
      · exact absurd ha e1
    · rcases EX es with ⟨e1, _⟩ | ⟨_, _, m, e1, e2⟩
      · exact absurd (Ht.2 e1) b'
      · exact ⟨m, e2, .inl ⟨rfl, e1⟩⟩
theorem WO {s : Str} (hl : s.length <= 1000) {Q : Int -> Int -> Prop} (h : ∀ v e : Int, I64 v -> (e = 0 ∨ e = 1 ∨ e = 2) -> (∀ n, I64 n -> s = jo n -> v = n /\ e = 0) -> Q v e) : qf s Q := by
  have slow : nD s Q false := ⟨fun q => (by cases q), fun _ => Yf hl h⟩
  refine ⟨fun c => ?_, fun _ => slow⟩
  by_cases hs : (s.length : Int) < 19
  · rw [decide_eq_true hs]
    obtain ⟨a, r, rfl⟩ : ∃ a r, s = a :: r := by cases s with
      | nil => simp at c
      | cons a r => exact ⟨a, r, rfl⟩
    have hlr : r.length <= 17 := by simp only [List.length_cons] at hs; omega
    have two : (∀ n, I64 n -> a :: r ≠ jo n) -> Q 0 2 := fun hno => h 0 2 (by unfold I64; omega) (.inr (.inr rfl)) fun n hn es => absurd es (hno n hn)
    have sgn : (a = 45 ∨ a = 43) -> kM (a :: r) Q true := by
      intro ha
      refine ⟨fun _ => ?_, fun q => (by cases q)⟩
      rw [aaz]
      have hno : ∀ (n : Int), a :: r = jo n -> a = 45 /\ ∃ m : Nat, n = -(m : Int) /\ r = mP 10 m := by
        intro n es
        rcases EX es with ⟨e1, m, _, e2, e3⟩ | ⟨e1, e2, _⟩
        · exact ⟨e1, m, e2, e3⟩
        · exact absurd ha (by simp [e1, e2])
      refine ⟨by simp only [List.length_cons]; omega, fun b => two fun n hn es => ?_, fun b => Uw (by omega) (by simp) (fun e he hb => he ▸ two fun n hn es => ?_) fun n hn hm => ⟨fun e => ?_, fun e => ?_⟩⟩
      · obtain ⟨_, m, _, e3⟩ := hno n es
        have := List.length_pos_iff.2 (FI 10 m)
        rw [← e3] at this; omega
      · obtain ⟨_, m, _, e3⟩ := hno n es
        exact hb m e3
      · refine h _ _ (by unfold I64; omega) (.inl rfl) fun n' hn' es => ?_
        obtain ⟨_, m, e2, e3⟩ := hno n' es
        have := hm m e3
        exact ⟨by rw [e2, this], rfl⟩
      · refine h _ _ (by unfold I64; omega) (.inl rfl) fun n' hn' es => ?_
        obtain ⟨e1, _⟩ := hno n' es
        exact absurd (by rw [e1]; rfl) e
    have pls : (a ≠ 45 /\ a ≠ 43) -> kM (a :: r) Q false := by
      intro ha
      have hno : ∀ (n : Int), a :: r = jo n -> ∃ m : Nat, n = (m : Int) /\ a :: r = mP 10 m := by
        intro n es
        rcases EX es with ⟨e1, _⟩ | ⟨_, _, m, e2, e3⟩
        · exact absurd e1 ha.1
        · exact ⟨m, e2, e3⟩
      refine ⟨fun q => (by cases q), fun _ => Uw (by simp only [List.length_cons]; omega) (by simp) (fun e he hb => he ▸ two fun n hn es => ?_) fun n hn hm => ⟨fun e => ?_, fun e => ?_⟩⟩
      · obtain ⟨m, _, e3⟩ := hno n es
        exact hb m e3
      · injection e with e
        exact absurd e ha.1
      · refine h _ _ (by unfold I64; omega) (.inl rfl) fun n' hn' es => ?_
        obtain ⟨m, e2, e3⟩ := hno n' es
        have := hm m e3
        exact ⟨by rw [e2, this], rfl⟩
    refine ⟨fun _ => ?_, fun q => (by cases q)⟩
    rw [gi0]
    refine ⟨by simp only [List.length_cons]; omega, fun b => sgn (.inl (Ht.1 b)), fun b => ?_⟩
    by_cases h43 : a = 43
    · rw [decide_eq_true (p := ((a.toNat : Nat) : Int) = 43) (by rw [h43]; rfl)]; exact sgn (.inr h43)
    · rw [decide_eq_false (p := ((a.toNat : Nat) : Int) = 43) (fun q => h43 (Ht.1 q))]; exact pls ⟨fun q => b (by rw [q]; rfl), h43⟩
  · rw [decide_eq_false hs]; exact slow
theorem LX {s : Str} (hl : s.length <= 1000) {Q : Int -> Bool -> Prop} (h : ∀ (v : Int) (e : Bool), I64 v -> (∀ n, I64 n -> s = jo n -> v = n /\ e = false) -> Q v e) : zh s Q :=
  WO hl fun v e hv he hn => ⟨fun c => ⟨⟨by omega, by omega⟩, h v true hv fun n hn' es => absurd (hn n hn' es).2 c⟩, fun c => h v false hv fun n hn' es => ⟨(hn n hn' es).1, rfl⟩⟩
theorem sh4 {x : Int} : x.fdiv (2 ^ (min (4 : Int).toNat IntKind.u8.bits)) = x / 16 := by
  rw [show (2 : Int) ^ (min (4 : Int).toNat IntKind.u8.bits) = 16 by decide +kernel]; exact Int.fdiv_eq_ediv_of_nonneg _ (by decide)
def gG (a : Ad) : Bool := if a.1 = true then decide (b8 a.2 0 = 255) else decide (224 <= b8 a.2 0 /\ b8 a.2 0 <= 239)
theorem Uk {a : Ad} {Q : Bool -> Prop} (h : Q (gG a)) : Dq a Q := by
  unfold gG at h
  have r := Oe a.2 0
  refine ⟨fun c => ?_, fun c => ?_⟩
  · rw [if_pos c] at h; exact h
  · rw [if_neg (by rw [c]; decide)] at h
    rw [sh4, jJ]
    refine ⟨by omega, ?_⟩
    rw [show decide (b8 a.2 0 / 16 % 256 = 14) = decide (224 <= b8 a.2 0 /\ b8 a.2 0 <= 239) from decide_eq_decide.2 (by omega)]
    exact h
theorem Uj {a : Ad} {Q : Bool -> Prop} (h : Q (gG a)) : yf a Q := by
  unfold gG at h
  refine ⟨fun c => ?_, fun c => ?_⟩
  · rw [if_pos c] at h
    refine ⟨fun d => ?_, fun d => ⟨fun e => (by rw [c] at e; cases e), fun _ => ?_⟩⟩
    · rw [decide_eq_true d] at h; exact h
    · rw [decide_eq_false d] at h; exact h
  · rw [if_neg (by rw [c]; decide)] at h
    refine ⟨fun _ => ⟨fun d => ?_, fun d => ?_⟩, fun e => (by rw [c] at e; cases e)⟩
    · rw [show decide (b8 a.2 0 <= 239) = decide (224 <= b8 a.2 0 /\ b8 a.2 0 <= 239) from decide_eq_decide.2 (by omega)]; exact h
    · rw [decide_eq_false (by omega)] at h; exact h
def zZ (a : Ad) : Bool := decide (a.2 = Js 16 [0, 0, 0, 0, 0, 0, 0, 0, 0, 0, 0, 0, 0, 0, 0, 0])
theorem VC {a : Ad} {Q : Bool -> Prop} (h : Q (zZ a)) : Dc a Q := by
  have h16 := a.2.2
  have z : (Js 16 [0, 0, 0, 0, 0, 0, 0, 0, 0, 0, 0, 0, 0, 0, 0, 0]).1 = List.replicate 16 0 := by decide +kernel
  refine yt 16 (fun i => a.2.1.take i = List.replicate i 0) rfl fun K i hi hI hK => ?_
  show yc a Q _ (i : Int)
  unfold yc
  refine ⟨fun c => ⟨by omega, fun d => ?_, fun d => ⟨by unfold I64; omega, hK (i + 1) (by omega) (by omega) ?_⟩⟩, fun c => ?_⟩
  · have : zZ a = false := decide_eq_false fun e => d (by
      unfold b8; rw [e, z, iP (by simp; omega), List.getElem_replicate]; rfl)
    rw [this] at h; exact h
  · have e0 : a.2.1[i]'(by omega) = 0 := by
      have : b8 a.2 (i : Int) = 0 := d
      unfold b8 at this; rw [iP (by omega)] at this
      exact UInt8.toNat_inj.1 (by show _ = 0; omega)
    rw [List.take_succ_eq_append_getElem (by omega), hI, e0, List.replicate_succ']
  · have : i = 16 := by omega
    subst this
    rw [List.take_of_length_le (by omega)] at hI
    have : zZ a = true := decide_eq_true (Subtype.ext (by rw [hI, z]))
    rw [this] at h; exact h
theorem NF {a : Ad} {Q : Bool -> Prop} (h : Q (qh a)) : wW a Q := by
  unfold wW
  refine ⟨fun v => ?_, fun v => ?_⟩
  · unfold qh at h; rw [v] at h; exact h
  · refine ⟨Oe _ _, Oe _ _, Oe _ _, Oe _ _, ?_⟩
    have e : decide ((a : ay) = (false, Js 16 [b8 a.2 0, b8 a.2 1, b8 a.2 2, b8 a.2 3, 0, 0, 0, 0, 0, 0, 0, 0, 0, 0, 0, 0])) = qh a := by
      have hm : (Js 16 [b8 a.2 0, b8 a.2 1, b8 a.2 2, b8 a.2 3, 0, 0, 0, 0, 0, 0, 0, 0, 0, 0, 0, 0]).1 = a.2.1.take 4 ++ List.replicate 12 0 := by
        have hl := a.2.2
        apply List.ext_getElem
        · rw [(Js 16 _).2, List.length_append, List.length_take, hl, List.length_replicate]; rfl
        · intro i h1 h2
          rw [(Js 16 _).2] at h1
          have k0 : ∀ j, j < 4 -> ∀ (hj : j < a.2.1.length), UInt8.ofNat (b8 a.2 (j : Int)).toNat = a.2.1[j] := by
            intro j hj hj'
            rw [Rk a.2 (by omega), Int.toNat_natCast, UInt8.ofNat_toNat]
          simp only [Js, List.getElem_map, List.getElem_range]
          by_cases hi : i < 4
          · rw [List.getElem_append_left (by rw [List.length_take, hl]; omega), List.getElem_take]
            rw [← k0 i hi (by omega)]
            congr 2
            rcases i with _ | _ | _ | _ | i
            · rfl
            · rfl
            · rfl
            · rfl
            · omega
          · rw [List.getElem_append_right (by rw [List.length_take, hl]; omega), List.getElem_replicate]
            have : ([b8 a.2 0, b8 a.2 1, b8 a.2 2, b8 a.2 3, 0, 0, 0, 0, 0, 0, 0, 0, 0, 0, 0, 0] : List Int).getD i 0 = 0 := by
              rw [show i = 4 + (i - 4) by omega]
              rcases hq : i - 4 with _ | _ | _ | _ | _ | _ | _ | _ | _ | _ | _ | _ | q
              all_goals first | rfl | omega
            rw [this]; rfl
      unfold qh
      rw [v, Bool.false_or]
      apply decide_eq_decide.2
      constructor
      · intro e
        have h2 : a.2.1 = a.2.1.take 4 ++ List.replicate 12 0 := by rw [← hm]; exact congrArg (fun x : Ad => x.2.1) e
        have h3 : (a.2.1.take 4).length = 4 := by rw [List.length_take, a.2.2]; rfl
        rw [h2, List.drop_append, h3, List.drop_of_length_le (by omega)]; rfl
      · intro e
        have h2 : a.2.1 = a.2.1.take 4 ++ List.replicate 12 0 := by rw [← e, List.take_append_drop]
        exact Prod.ext v (Subtype.ext (h2.trans hm.symm))
    show Q _
    rw [e]; exact h
theorem Qb {l : List Ad} {p : Ad -> Bool} {Q : Int -> Prop} (hl : l.length <= 1000000) (h0 : (∀ x ∈ l, p x = false) -> Q (-1)) (h1 : ∀ (i : Nat) (hi : i < l.length), p l[i] = true -> (∀ x ∈ l.take i, p x = false) -> Q (i : Int)) : jD l p Q := by
  refine yt l.length (fun i => ∀ x ∈ l.take i, p x = false) (by simp) fun K i hi hI hK => ?_
  show iH _ _ _ _ _
  unfold iH
  refine ⟨fun c => ⟨by (first | omega | (unfold I64; omega) | (simp only [List.length_append, List.length_cons, List.length_nil, List.length_take, List.length_drop] at *; omega) | (unfold I64; simp only [List.length_append, List.length_cons, List.length_nil, List.length_take, List.length_drop] at *; omega)), ?_⟩, fun c => ?_⟩
  · have hi' : i < l.length := by omega
    rw [iP hi']
    refine ⟨fun q => h1 i hi' q hI, fun q => ⟨by (first | omega | (unfold I64; omega) | (simp only [List.length_append, List.length_cons, List.length_nil, List.length_take, List.length_drop] at *; omega) | (unfold I64; simp only [List.length_append, List.length_cons, List.length_nil, List.length_take, List.length_drop] at *; omega)), hK (i + 1) (by omega) (by omega) ?_⟩⟩
    intro x hx
    rw [List.take_succ_eq_append_getElem hi'] at hx
    rcases List.mem_append.1 hx with hx | hx
    · exact hI x hx
    · rw [List.mem_singleton] at hx; subst hx; exact q
  · rw [List.take_of_length_le (by omega)] at hI; exact h0 hI
theorem Xd {a b : List Ad} {Q : Bool -> Prop} (hl : a.length <= 1000000) (h : Q (decide (a = b))) : ku a b Q := by
  refine ⟨fun c => ?_, fun c => ?_⟩
  · have : a ≠ b := fun e => by subst e; exact c rfl
    rw [decide_eq_false this] at h; exact h
  · have c : a.length = b.length := by omega
    refine yt a.length (fun i => a.take i = b.take i) (by simp) fun K i hi hI hK => ?_
    show jg _ _ _ _ _
    unfold jg
    refine ⟨fun d => ⟨by (first | omega | (unfold I64; omega) | (simp only [List.length_append, List.length_cons, List.length_nil, List.length_take, List.length_drop] at *; omega) | (unfold I64; simp only [List.length_append, List.length_cons, List.length_nil, List.length_take, List.length_drop] at *; omega)), by (first | omega | (unfold I64; omega) | (simp only [List.length_append, List.length_cons, List.length_nil, List.length_take, List.length_drop] at *; omega) | (unfold I64; simp only [List.length_append, List.length_cons, List.length_nil, List.length_take, List.length_drop] at *; omega)), ?_⟩, fun d => ?_⟩
    · have h1 : i < a.length := by omega
      have h2 : i < b.length := by omega
      rw [iP h1, iP h2]
      refine ⟨fun q => ?_, fun q => ⟨by (first | omega | (unfold I64; omega) | (simp only [List.length_append, List.length_cons, List.length_nil, List.length_take, List.length_drop] at *; omega) | (unfold I64; simp only [List.length_append, List.length_cons, List.length_nil, List.length_take, List.length_drop] at *; omega)), hK (i + 1) (by omega) (by omega) ?_⟩⟩
      · have : a ≠ b := fun e => by subst e; exact q rfl
        rw [decide_eq_false this] at h; exact h
      · rw [List.take_succ_eq_append_getElem h1, List.take_succ_eq_append_getElem h2, hI, q]
    · have hab : a = b := by
        have h3 : i = a.length := by omega
        subst h3
        rw [List.take_length, c, List.take_length] at hI; exact hI
      rw [decide_eq_true hab] at h; exact h
theorem X0 {l : List Ad} {Q : Bool -> Prop} (hl : l.length <= 1000000) (h : ∀ b, (b = true ↔ yz l) -> Q b) : Ec l Q := by
  refine yt l.length (fun i => yz (l.take i)) (by simpa using yz.nil) fun K i hi hI hK => ?_
  show zk _ _ _ _
  unfold zk
  refine ⟨fun c => ⟨by (first | omega | (unfold I64; omega) | (simp only [List.length_append, List.length_cons, List.length_nil, List.length_take, List.length_drop] at *; omega) | (unfold I64; simp only [List.length_append, List.length_cons, List.length_nil, List.length_take, List.length_drop] at *; omega)), NF ⟨fun q => ?_, fun q => ⟨fun d => ⟨by (first | omega | (unfold I64; omega) | (simp only [List.length_append, List.length_cons, List.length_nil, List.length_take, List.length_drop] at *; omega) | (unfold I64; simp only [List.length_append, List.length_cons, List.length_nil, List.length_take, List.length_drop] at *; omega)), by (first | omega | (unfold I64; omega) | (simp only [List.length_append, List.length_cons, List.length_nil, List.length_take, List.length_drop] at *; omega) | (unfold I64; simp only [List.length_append, List.length_cons, List.length_nil, List.length_take, List.length_drop] at *; omega)), UA ⟨fun r => ?_, fun r => ⟨by (first | omega | (unfold I64; omega) | (simp only [List.length_append, List.length_cons, List.length_nil, List.length_take, List.length_drop] at *; omega) | (unfold I64; simp only [List.length_append, List.length_cons, List.length_nil, List.length_take, List.length_drop] at *; omega)), hK (i + 1) (by omega) (by omega) ?_⟩⟩⟩, fun d => ⟨by (first | omega | (unfold I64; omega) | (simp only [List.length_append, List.length_cons, List.length_nil, List.length_take, List.length_drop] at *; omega) | (unfold I64; simp only [List.length_append, List.length_cons, List.length_nil, List.length_take, List.length_drop] at *; omega)), hK (i + 1) (by omega) (by omega) ?_⟩⟩⟩⟩, fun c => ?_⟩
  · refine h false ⟨fun q => (by cases q), fun hs => ?_⟩
    rw [iP (show i < l.length by omega)] at q
    have := hs.good l[i] (List.getElem_mem _)
    rw [this] at q; cases q
  · refine h false ⟨fun q => (by cases q), fun hs => ?_⟩
    have e1 : ((i : Int) - 1) = ((i - 1 : Nat) : Int) := by omega
    rw [e1, iP (show i - 1 < l.length by omega), iP (show i < l.length by omega)] at r
    have := List.pairwise_iff_getElem.1 hs.rise (i - 1) i (by omega) (by omega) (by omega)
    unfold Ti at this; omega
  · have hi' : i < l.length := by omega
    have e1 : ((i : Int) - 1) = ((i - 1 : Nat) : Int) := by omega
    rw [e1, iP (show i - 1 < l.length by omega), iP hi'] at r
    rw [iP hi'] at q
    have hg : qh l[i] = true := by simpa using q
    rw [List.take_succ_eq_append_getElem hi']
    refine ⟨?_, fun x hx => ?_⟩
    · rw [List.pairwise_append]
      refine ⟨hI.rise, by simp, fun x hx y hy => ?_⟩
      rw [List.mem_singleton] at hy; subst hy
      obtain ⟨k, hk, rfl⟩ := List.mem_iff_getElem.1 hx
      rw [List.length_take] at hk
      rw [List.getElem_take]
      have hlast : Ti l[i - 1] l[i] := by unfold Ti; omega
      by_cases e : k = i - 1
      · subst e; exact hlast
      · have := List.pairwise_iff_getElem.1 hI.rise k (i - 1) (by rw [List.length_take]; omega) (by rw [List.length_take]; omega) (by omega)
        rw [List.getElem_take, List.getElem_take] at this
        exact Io _ _ _ this hlast
    · rw [List.mem_append, List.mem_singleton] at hx
      rcases hx with hx | rfl
      · exact hI.good x hx
      · exact hg
  · have hi' : i < l.length := by omega
    rw [iP hi'] at q
    have hg : qh l[i] = true := by simpa using q
    have : i = 0 := by omega
    subst this
    rw [List.take_succ_eq_append_getElem hi', List.take_zero, List.nil_append]
    exact ⟨by simp, by simpa using hg⟩
  · rw [List.take_of_length_le (by omega)] at hI
    exact h true ⟨fun _ => hI, fun _ => rfl⟩
theorem UT {e e2 : Bool} {s t : List Ad} {Q : Bool -> Prop} (hl : s.length <= 1000) (h : Q (decide ((e, s) = (e2, t)))) : Di e s e2 t Q := by
  refine ⟨fun c => Xd (by omega) ?_, fun c => ?_⟩
  · have c : e = e2 := by simpa using c
    subst c; simpa using h
  · have c : e ≠ e2 := by simpa using c
    have : decide ((e, s) = (e2, t)) = false := decide_eq_false fun q => c (congrArg Prod.fst q)
    rw [this] at h; exact h
end Go.Wk
