/- Plain words for one law: what it needs. -/
import Derived.Test.YtamiodnbinhmhaaDoorAdrL
set_option linter.unusedSimpArgs false
set_option linter.unusedVariables false
set_option linter.unusedSectionVars false
namespace Go.Wk
open Go.HL
variable [DM]
/-! ### The order of texts -/
theorem scmp_cons (a b : UInt8) (x y : Str) : scmp (a :: x) (b :: y) = if a < b then -1 else if b < a then 1 else scmp x y := by
  unfold scmp; rw [Lib.compareBytes]
theorem scmp_refl : ∀ a : Str, scmp a a = 0
  | [] => rfl
  | a :: x => by rw [scmp_cons, if_neg (UInt8.lt_irrefl a), if_neg (UInt8.lt_irrefl a), scmp_refl x]
theorem u8_tri {a b : UInt8} (h : ¬ a < b) (k : ¬ b < a) : a = b := by
  rw [UInt8.lt_iff_toNat_lt] at h k; exact UInt8.toNat_inj.1 (by omega)
theorem scmp_eq : ∀ a b : Str, scmp a b = 0 → a = b
  | [], [], _ => rfl
  | [], _ :: _, h => by simp [scmp, Lib.compareBytes] at h
  | _ :: _, [], h => by simp [scmp, Lib.compareBytes] at h
  | a :: x, b :: y, h => by
    rw [scmp_cons] at h
    split at h
    · omega
    · split at h
      · omega
      · rename_i p q; rw [u8_tri p q, scmp_eq x y h]
theorem scmp_flip : ∀ a b : Str, scmp b a = - scmp a b
  | [], [] => rfl
  | [], _ :: _ => rfl
  | _ :: _, [] => rfl
  | a :: x, b :: y => by
    rw [scmp_cons, scmp_cons, scmp_flip x y]
    have : a < b → ¬ b < a := fun h k => by rw [UInt8.lt_iff_toNat_lt] at h k; omega
    by_cases p : a < b
    · rw [if_pos p, if_neg (this p), if_pos p]; rfl
    · by_cases q : b < a
      · rw [if_pos q, if_neg p, if_pos q]
      · rw [if_neg q, if_neg p, if_neg p, if_neg q]
theorem scmp_take : ∀ (i : Nat) (x y : Str), x.take i = y.take i → i ≤ x.length → i ≤ y.length → scmp x y = scmp (x.drop i) (y.drop i)
  | 0, _, _, _, _, _ => rfl
  | i + 1, [], _, _, h, _ => by simp at h
  | i + 1, _ :: _, [], _, _, h => by simp at h
  | i + 1, a :: x, b :: y, h, h1, h2 => by
    simp only [List.take_succ_cons, List.cons.injEq] at h
    obtain ⟨rfl, h⟩ := h
    rw [scmp_cons, if_neg (UInt8.lt_irrefl a), if_neg (UInt8.lt_irrefl a)]
    exact scmp_take i x y h (by simpa using h1) (by simpa using h2)
/-! ### Addresses -/
def aw (a : Ad) : Nat := if a.1 then 16 else 4
def ak (a : Ad) : Str := (if a.1 then 1 else 0) :: a.2.1.take (aw a)
/-- Which of two addresses stands first. -/
def aCmp (a b : Ad) : Int := scmp (ak a) (ak b)
def aGood (a : Ad) : Bool := a.1 || decide (a.2.1.drop 4 = List.replicate 12 0)
theorem aCmp_flip (a b : Ad) : aCmp b a = - aCmp a b := scmp_flip _ _
theorem aCmp_refl (a : Ad) : aCmp a a = 0 := scmp_refl _
theorem aCmp_eq {a b : Ad} (ha : aGood a = true) (hb : aGood b = true) (h : aCmp a b = 0) : a = b := by
  have h := scmp_eq _ _ h
  unfold ak aw at h
  rw [List.cons.injEq] at h
  obtain ⟨h1, h2⟩ := h
  obtain ⟨va, ⟨la, la16⟩⟩ := a
  obtain ⟨vb, ⟨lb, lb16⟩⟩ := b
  simp only at h1 h2
  have hv : va = vb := by cases va <;> cases vb <;> simp_all
  subst hv
  cases va
  · simp only [aGood, Bool.false_or, decide_eq_true_eq] at ha hb
    simp only [Bool.false_eq_true, if_false] at h2
    have : la = lb := by rw [← List.take_append_drop 4 la, ← List.take_append_drop 4 lb, h2, ha, hb]
    subst this; rfl
  · simp only [if_true] at h2
    rw [List.take_of_length_le (by omega), List.take_of_length_le (by omega)] at h2
    subst h2; rfl
theorem cmpP_ok {a b : Ad} {Q : Int → Prop} (h : Q (aCmp a b)) : addr_Cmp_W a b Q := by
  obtain ⟨va, ⟨la, la16⟩⟩ := a
  obtain ⟨vb, ⟨lb, lb16⟩⟩ := b
  unfold aCmp ak aw at h
  unfold addr_Cmp_W addr_Cmp_j2 addr_Cmp_j1 addr_bytes_W
  cases va <;> cases vb <;> simp [scmp_cons, cut] at h ⊢ <;> exact h
theorem scmp_at {x y : Str} {i : Nat} (h : x.take i = y.take i) (h1 : i < x.length) (h2 : i < y.length) : scmp x y = if x[i] < y[i] then -1 else if y[i] < x[i] then 1 else scmp (x.drop (i + 1)) (y.drop (i + 1)) := by
  rw [scmp_take i x y h (by omega) (by omega), List.drop_eq_getElem_cons h1, List.drop_eq_getElem_cons h2, scmp_cons]
theorem b8_at {n : Nat} (x : Ba n) {i : Nat} (h : i < n) : b8 x (i : Int) = ((x.1[i]'(by rw [x.2]; exact h)).toNat : Int) := by
  unfold b8; rw [gi_nat (by rw [x.2]; exact h)]
theorem u8lt {a b : UInt8} : ((a.toNat : Nat) : Int) < (b.toNat : Int) ↔ a < b := by rw [UInt8.lt_iff_toNat_lt]; omega
theorem cmpR_ok {a b : Ad} {Q : Int → Prop} (h : Q (aCmp a b)) : ref03_Cmp_W a b Q := by
  unfold ref03_Cmp_W
  refine ⟨fun c => ⟨fun d => ?_, fun d => ?_⟩, fun c => ?_⟩
  · have : a.1 = false := by simp [d] at c; exact c
    have e : aCmp a b = -1 := by unfold aCmp ak; rw [this, d]; rfl
    rw [e] at h; exact h
  · have : a.1 = true := by simp [d] at c; exact c
    have e : aCmp a b = 1 := by unfold aCmp ak; rw [this, d]; rfl
    rw [e] at h; exact h
  · have hv : a.1 = b.1 := by simpa using c
    have e : aCmp a b = scmp (a.2.1.take (aw a)) (b.2.1.take (aw b)) := by
      unfold aCmp ak; rw [hv, scmp_cons, if_neg (UInt8.lt_irrefl _), if_neg (UInt8.lt_irrefl _)]
    have hw : aw b = aw a := by unfold aw; rw [hv]
    have hw16 : aw a ≤ 16 := by unfold aw; split <;> omega
    have hla : (a.2.1.take (aw a)).length = aw a := by rw [List.length_take, a.2.2]; omega
    have hlb : (b.2.1.take (aw a)).length = aw a := by rw [List.length_take, b.2.2]; omega
    rw [e, hw] at h
    have hend : ∀ i, i = aw a → a.2.1.take i = b.2.1.take i → Q 0 := by
      rintro i rfl hi
      rw [hi, scmp_refl] at h; exact h
    refine loop_up1 (aw a) (fun i => a.2.1.take i = b.2.1.take i) (by simp) fun K i hi hI hK => ?_
    show ref03_Cmp_l1 _ _ _ _ _
    have step : i < aw a → ref03_Cmp_j1 a b Q (i : Int) K := by
      intro hlt
      have h16 : i < 16 := by omega
      unfold ref03_Cmp_j1
      rw [b8_at a.2 h16, b8_at b.2 h16]
      have hx : (a.2.1.take (aw a)).take i = (b.2.1.take (aw a)).take i := by rw [List.take_take, List.take_take, Nat.min_eq_left (by omega)]; exact hI
      have hc := scmp_at hx (by omega) (by omega)
      rw [List.getElem_take, List.getElem_take] at hc
      refine ⟨by (first | omega | (unfold I64; omega) | (simp only [List.length_append, List.length_cons, List.length_nil, List.length_take, List.length_drop] at *; omega) | (unfold I64; simp only [List.length_append, List.length_cons, List.length_nil, List.length_take, List.length_drop] at *; omega)), fun q => ?_, fun q => ⟨fun r => ?_, fun r => ⟨by (first | omega | (unfold I64; omega) | (simp only [List.length_append, List.length_cons, List.length_nil, List.length_take, List.length_drop] at *; omega) | (unfold I64; simp only [List.length_append, List.length_cons, List.length_nil, List.length_take, List.length_drop] at *; omega)), hK (i + 1) (by omega) (by omega) ?_⟩⟩⟩
      · rw [hc, if_pos (u8lt.1 q)] at h; exact h
      · rw [hc, if_neg (fun k => q (u8lt.2 k)), if_pos (u8lt.1 r)] at h; exact h
      · rw [List.take_succ_eq_append_getElem (by rw [a.2.2]; omega), List.take_succ_eq_append_getElem (by rw [b.2.2]; omega), hI, u8_tri (fun k => q (u8lt.2 k)) (fun k => r (u8lt.2 k))]
    unfold ref03_Cmp_l1
    have hwt : a.1 = true → aw a = 16 := fun q => by unfold aw; rw [q]; rfl
    have hwf : a.1 = false → aw a = 4 := fun q => by unfold aw; rw [q]; rfl
    refine ⟨fun q => ⟨fun r => step (by have := hwt r; omega), fun r => ⟨fun s => step (by have := hwf r; omega), fun s => hend i (by have := hwf r; omega) hI⟩⟩, fun q => hend i (by omega) hI⟩
/-! ### Sets -/
/-! ### The document's functions -/
/-! ### The library's functions -/
theorem scmp_small : ∀ a b : Str, -1 ≤ scmp a b ∧ scmp a b ≤ 1
  | [], [] => by decide
  | [], _ :: _ => by simp [scmp, Lib.compareBytes]
  | _ :: _, [] => by simp [scmp, Lib.compareBytes]
  | a :: x, b :: y => by
    rw [scmp_cons]
    have := scmp_small x y
    split
    · omega
    · split <;> omega
theorem aGood_of {a : Ad} (h : goodA a) : aGood a = true := by
  unfold aGood
  rcases h with h | h
  · rw [h]; rfl
  · rw [show a.2.1.drop 4 = List.replicate 12 0 from h]; simp
theorem aCmp_I64 (a b : Ad) : -1 ≤ aCmp a b ∧ aCmp a b ≤ 1 := by
  unfold aCmp; exact scmp_small _ _
theorem addrOrders_ok {a b : Ad} {Q : Bool → Prop} (h : Q true) : law03_AddrOrders_W a b Q := by
  refine own_ok (own_ok ?_)
  have ha := aGood_of (ownA_good a)
  have hb := aGood_of (ownA_good b)
  generalize ownA a = a at ha
  generalize ownA b = b at hb
  refine cmpP_ok (cmpR_ok ⟨fun _ => cmpP_ok ⟨?_, fun _ => ⟨fun _ => lives03_ok h, fun c => ?_⟩, fun c => absurd (by rw [aCmp_flip]; omega) c⟩, fun c => absurd rfl c⟩)
  · have := aCmp_I64 a b; unfold I64; omega
  · exfalso
    by_cases e : aCmp a b = 0
    · rw [aCmp_eq ha hb e, aCmp_refl] at c; simp at c
    · have n : a ≠ b := fun q => e (by rw [q, aCmp_refl])
      simp [e, n] at c
end Go.Wk
