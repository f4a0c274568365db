/- Plain words: slices.SortFunc at Str: the mirrors sort. -/
import Derived.Test.YtolmcabcmphkpaaSosW2
import Derived.Test.YtolmcabcmphkpaaSorT
set_option linter.unusedSimpArgs false
set_option linter.unusedVariables false
set_option linter.unusedSectionVars false
set_option maxRecDepth 4000
namespace Go.Wk
open Go.HL Go.Sort
variable [DM]
theorem npow_ok {l : Int} {Q : Int → Prop} (h1 : 1 ≤ l) (h2 : l ≤ 2305843009213693952) (h : ∀ m : Nat, 1 ≤ m → (m : Int) ≤ 2 * l → Q m) : slices_nextPowerOfTwo_W l Q := by
  obtain ⟨n, rfl⟩ : ∃ n : Nat, l = n := ⟨l.toNat, by omega⟩
  unfold slices_nextPowerOfTwo_W
  rw [wrap64 (by omega)]
  obtain ⟨r, e, r1, r2⟩ := blen_nat (l := n) (by omega)
  rw [e]
  refine ⟨by omega, by omega, ?_⟩
  have hb : IntKind.u64.bits = 64 := rfl
  have hr := r2 (by omega)
  have hp : 1 ≤ 2 ^ r := Nat.pow_pos (by decide)
  rw [hb, Int.toNat_natCast, Nat.min_eq_left (by omega)]
  have e2 : (1 : Int) * 2 ^ r = ((2 ^ r : Nat) : Int) := by rw [Int.natCast_pow]; simp
  rw [e2, wrap64 (by omega)]
  exact h _ hp (by omega)
theorem xnext_ok {r : Int} {Q : Int → Int → Prop} (h : ∀ X, Q X X) : slices_xorshift_Next_W r Q := h _
section
variable {cf : Str → Str → Int} {d : Array (Str)} {a b : Nat} {Q : List (Str) → Prop}
theorem ins_string (hb : b ≤ d.size) (hn : d.size ≤ 2305843009213693952) (ha : a ≤ b) (h : Q (insertionSort (ltOf cf) d a b).toList) : slices_insertionSortCmpFunc_string_W d.toList a b cf Q := by
  refine ⟨by unfold I64; omega, ?_⟩
  refine loopI (fun s => ∃ (D : Array (Str)) (i : Nat), s.1 = D.toList ∧ s.2 = (i : Int) ∧ insOuter (ltOf cf) a b i D = insertionSort (ltOf cf) d a b ∧ D.size = d.size ∧ a + 1 ≤ i) (fun s => (b - s.2).toNat) ⟨d, a + 1, rfl, by simp, rfl, rfl, Nat.le_refl _⟩ ?_
  rintro K ⟨_, _⟩ ⟨D, i, rfl, rfl, hT, hD, hi⟩ hK
  show slices_insertionSortCmpFunc_string_l1 a b cf Q _ D.toList (i : Int)
  unfold slices_insertionSortCmpFunc_string_l1
  refine ⟨fun c => ?_, fun c => ?_⟩
  · refine loopI (fun s => ∃ (E : Array (Str)) (j : Nat), s.1 = E.toList ∧ s.2 = (j : Int) ∧ insInner (ltOf cf) a j E = insInner (ltOf cf) a i D ∧ E.size = d.size ∧ j ≤ i) (fun s => s.2.toNat) ⟨D, i, rfl, rfl, rfl, hD, Nat.le_refl _⟩ ?_
    rintro K2 ⟨_, _⟩ ⟨E, j, rfl, rfl, hT2, hE, hj⟩ hK2
    show slices_insertionSortCmpFunc_string_l2 a cf (i : Int) _ _ E.toList (j : Int)
    have out : insInner (ltOf cf) a j E = E → (I64 ((i : Int) + 1)) ∧ K (E.toList, (i : Int) + 1) := fun q => by
      rw [q] at hT2
      refine ⟨by unfold I64; omega, hK _ ⟨E, i + 1, rfl, by simp, ?_, hE, by omega⟩ (by simp only; omega)⟩
      rw [hT2, io_go (by omega), hT]
    unfold slices_insertionSortCmpFunc_string_l2 slices_insertionSortCmpFunc_string_j2
    refine ⟨fun c2 => ?_, fun c2 => ⟨fun q => (by cases q), fun _ => out (ii_a (by omega))⟩⟩
    have e1 : ((j : Int) - 1).toNat = j - 1 := by omega
    simp only [gi_arr, swp_arr, List.length_set, Array.length_toList, Int.toNat_natCast, e1]
    refine ⟨by omega, by unfold I64; omega, by omega, fun q => ⟨by unfold I64; omega, by omega, by omega, by omega, ?_⟩, fun q => out (ii_stop q)⟩
    refine hK2 _ ⟨swp E j (j - 1), j - 1, rfl, by simp only; omega, ?_, by rw [swp_sz, hE], by omega⟩ (by simp only; omega)
    rw [ii_go (by omega) q, hT2]
  · rw [io_end (by omega)] at hT; rw [hT]; exact h

theorem sift_string {lo hi first : Nat} (hn : d.size ≤ 2305843009213693952) (hlo : lo ≤ hi) (hhi : first + hi ≤ d.size) (h : Q (siftDown (ltOf cf) hi first lo d).toList) : slices_siftDownCmpFunc_string_W d.toList lo hi first cf Q := by
  refine loopI (fun s => ∃ (D : Array (Str)) (r : Nat), s.1 = D.toList ∧ s.2 = (r : Int) ∧ siftDown (ltOf cf) hi first r D = siftDown (ltOf cf) hi first lo d ∧ D.size = d.size ∧ r ≤ hi) (fun s => (hi - s.2).toNat) ⟨d, lo, rfl, rfl, rfl, rfl, hlo⟩ ?_
  rintro K ⟨_, _⟩ ⟨D, r, rfl, rfl, hT, hD, hr⟩ hK
  show slices_siftDownCmpFunc_string_l1 hi first cf Q _ D.toList (r : Int)
  unfold slices_siftDownCmpFunc_string_l1 slices_siftDownCmpFunc_string_j1
  have e0 : ((first : Int) + r).toNat = first + r := by omega
  have e1 : ((first : Int) + (2 * (r : Int) + 1)).toNat = first + (2 * r + 1) := by omega
  have e2 : (((first : Int) + (2 * (r : Int) + 1)) + 1).toNat = first + (2 * r + 2) := by omega
  have e3 : ((first : Int) + ((2 * (r : Int) + 1) + 1)).toNat = first + (2 * r + 2) := by omega
  simp only [gi_arr, swp_arr, List.length_set, Array.length_toList, Int.toNat_natCast, e0, e1, e2, e3]
  refine ⟨by unfold I64; omega, by unfold I64; omega, fun c => ?_, fun c => ⟨by unfold I64; omega, fun c2 => ⟨by unfold I64; omega, by omega, by unfold I64; omega, by omega, fun c3 => ⟨by unfold I64; omega, by omega, by unfold I64; omega, by omega, fun c4 => ?_, fun c4 => ⟨by omega, ?_⟩⟩, fun c3 => ⟨by unfold I64; omega, by omega, by unfold I64; omega, by omega, fun c4 => ?_, fun c4 => ⟨by omega, ?_⟩⟩⟩, fun c2 => ⟨by unfold I64; omega, by omega, by unfold I64; omega, by omega, fun c4 => ?_, fun c4 => ⟨by omega, ?_⟩⟩⟩⟩
  · rw [sift_stop (by omega)] at hT; rw [hT]; exact h
  · rw [sift_r_stop (by omega) (by omega) (decide_eq_true c3) (decide_eq_false c4)] at hT; rw [hT]; exact h
  · refine hK _ ⟨_, 2 * r + 2, rfl, by simp only; omega, ?_, by rw [swp_sz, hD], by omega⟩ (by simp only; omega)
    rw [sift_r_go (by omega) (by omega) (decide_eq_true c3) (decide_eq_true c4), hT]
  · rw [sift_l_stop (by omega) (by rintro ⟨_, q⟩; exact c3 (of_decide_eq_true q)) (decide_eq_false c4)] at hT; rw [hT]; exact h
  · refine hK _ ⟨_, 2 * r + 1, rfl, by simp only; omega, ?_, by rw [swp_sz, hD], by omega⟩ (by simp only; omega)
    rw [sift_l_go (by omega) (by rintro ⟨_, q⟩; exact c3 (of_decide_eq_true q)) (decide_eq_true c4), hT]
  · rw [sift_l_stop (by omega) (by rintro ⟨q, _⟩; omega) (decide_eq_false c4)] at hT; rw [hT]; exact h
  · refine hK _ ⟨_, 2 * r + 1, rfl, by simp only; omega, ?_, by rw [swp_sz, hD], by omega⟩ (by simp only; omega)
    rw [sift_l_go (by omega) (by rintro ⟨q, _⟩; omega) (decide_eq_true c4), hT]

theorem heap_string (hb : b ≤ d.size) (hn : d.size ≤ 2305843009213693952) (hab : a < b) (h : Q (heapSort (ltOf cf) d a b).toList) : slices_heapSortCmpFunc_string_W d.toList a b cf Q := by
  unfold slices_heapSortCmpFunc_string_W
  have e0 : (b : Int) - a = ((b - a : Nat) : Int) := by omega
  have e1 : ((b - a : Nat) : Int) - 1 = ((b - a - 1 : Nat) : Int) := by omega
  simp only [e0, e1, td2]
  refine ⟨by unfold I64; omega, by unfold I64; omega, by unfold I64; omega, ?_⟩
  refine loopI (fun s => ∃ D : Array (Str), s.1 = D.toList ∧ -1 ≤ s.2 ∧ 2 * s.2 ≤ ((b - a : Nat) : Int) ∧ heapBuild (ltOf cf) (b - a) a (s.2 + 1).toNat D = heapBuild (ltOf cf) (b - a) a ((b - a - 1) / 2 + 1) d ∧ D.size = d.size) (fun s => (s.2 + 1).toNat) ⟨d, rfl, by simp only; omega, by simp only; omega, by simp only; rw [show ((((b - a - 1) / 2 : Nat) : Int) + 1).toNat = (b - a - 1) / 2 + 1 by omega], rfl⟩ ?_
  rintro K ⟨_, i⟩ ⟨D, rfl, hi1, hi2, hT, hD⟩ hK
  simp only at hi1 hi2 hT
  show slices_heapSortCmpFunc_string_l1 a b cf Q _ D.toList i
  unfold slices_heapSortCmpFunc_string_l1
  simp only [e0, e1]
  refine ⟨fun c => ?_, fun c => ⟨by unfold I64; omega, ?_⟩⟩
  · obtain ⟨k, rfl⟩ : ∃ k : Nat, i = k := ⟨i.toNat, by omega⟩
    refine sift_string (by omega) (by omega) (by omega) ⟨by unfold I64; omega, hK _ ⟨_, rfl, by simp only; omega, by simp only; omega, ?_, by rw [sift_sz, hD]⟩ (by simp only; omega)⟩
    simp only
    rw [show ((k : Int) - 1 + 1).toNat = k by omega, build_go, ← hT, show ((k : Int) + 1).toNat = k + 1 by omega]
  · have hi0 : (i + 1).toNat = 0 := by omega
    rw [hi0] at hT
    replace hT : D = heapBuild (ltOf cf) (b - a) a ((b - a - 1) / 2 + 1) d := hT
    refine loopI (fun s => ∃ E : Array (Str), s.1 = E.toList ∧ -1 ≤ s.2 ∧ s.2 < ((b - a : Nat) : Int) ∧ heapPop (ltOf cf) a (s.2 + 1).toNat E = heapSort (ltOf cf) d a b ∧ E.size = d.size) (fun s => (s.2 + 1).toNat) ⟨D, rfl, by simp only; omega, by simp only; omega, by simp only; rw [show (((b - a - 1 : Nat) : Int) + 1).toNat = b - a by omega, hT]; rfl, hD⟩ ?_
    rintro K2 ⟨_, i2⟩ ⟨E, rfl, hj1, hj2, hT2, hE⟩ hK2
    simp only at hj1 hj2 hT2
    show slices_heapSortCmpFunc_string_l2 a cf Q _ E.toList i2
    unfold slices_heapSortCmpFunc_string_l2
    refine ⟨fun c => ?_, fun c => ?_⟩
    · obtain ⟨k, rfl⟩ : ∃ k : Nat, i2 = k := ⟨i2.toNat, by omega⟩
      have e2 : ((a : Int) + k).toNat = a + k := by omega
      simp only [gi_arr, swp_arr, List.length_set, Array.length_toList, Int.toNat_natCast, e2]
      refine ⟨by unfold I64; omega, by omega, by omega, by omega, ?_⟩
      refine sift_string (d := swp E a (a + k)) (lo := 0) (hi := k) (first := a) (by rw [swp_sz]; omega) (by omega) (by rw [swp_sz]; omega) ⟨by unfold I64; omega, hK2 _ ⟨_, rfl, by simp only; omega, by simp only; omega, ?_, by rw [sift_sz, swp_sz, hE]⟩ (by simp only; omega)⟩
      simp only
      rw [show ((k : Int) - 1 + 1).toNat = k by omega, pop_go, ← hT2, show ((k : Int) + 1).toNat = k + 1 by omega]
    · rw [show (i2 + 1).toNat = 0 by omega] at hT2
      replace hT2 : E = heapSort (ltOf cf) d a b := hT2
      rw [hT2]; exact h

theorem reverse_string (hb : b ≤ d.size) (hn : d.size ≤ 2305843009213693952) (hab : a < b) (h : Q (reverseRange d a b).toList) : slices_reverseRangeCmpFunc_string_W d.toList a b cf Q := by
  refine ⟨by unfold I64; omega, ?_⟩
  refine loopI (fun s => ∃ (D : Array (Str)) (i j : Nat), s.1 = D.toList ∧ s.2.1 = (i : Int) ∧ s.2.2 = (j : Int) ∧ reverseLoop i j D = reverseRange d a b ∧ D.size = d.size ∧ j < d.size) (fun s => (s.2.2 - s.2.1).toNat) ⟨d, a, b - 1, rfl, rfl, by simp only; omega, rfl, rfl, by omega⟩ ?_
  rintro K ⟨_, _, _⟩ ⟨D, i, j, rfl, rfl, rfl, hT, hD, hj⟩ hK
  show slices_reverseRangeCmpFunc_string_l1 Q _ D.toList (i : Int) (j : Int)
  unfold slices_reverseRangeCmpFunc_string_l1
  simp only [gi_arr, swp_arr, List.length_set, Array.length_toList, Int.toNat_natCast]
  refine ⟨fun c => ⟨by omega, by omega, by omega, by unfold I64; omega, by unfold I64; omega, ?_⟩, fun c => ?_⟩
  · refine hK _ ⟨_, i + 1, j - 1, rfl, by simp only; omega, by simp only; omega, ?_, by rw [swp_sz, hD], by omega⟩ (by simp only; omega)
    rw [rev_go (by omega), hT]
  · rw [rev_stop (by omega)] at hT; rw [hT]; exact h
end

section
variable {cf : Str → Str → Int} {l : List (Str)}
theorem order2_string {a b s : Int} {Q : Int → Int → Int → Prop} (ha : 0 ≤ a ∧ a < (l.length : Int)) (hb : 0 ≤ b ∧ b < (l.length : Int)) (hs : 0 ≤ s ∧ s ≤ 100) (h : ∀ x y t : Int, (x = a ∧ y = b) ∨ (x = b ∧ y = a) → 0 ≤ t → t ≤ s + 1 → Q x y t) : slices_order2CmpFunc_string_W l a b s cf Q :=
  ⟨hb, ha, fun _ => ⟨by unfold I64; omega, h _ _ _ (.inr ⟨rfl, rfl⟩) (by omega) (by omega)⟩, fun _ => h _ _ _ (.inl ⟨rfl, rfl⟩) (by omega) (by omega)⟩
theorem median_string {a b c s : Int} {Q : Int → Int → Prop} (ha : 0 ≤ a ∧ a < (l.length : Int)) (hb : 0 ≤ b ∧ b < (l.length : Int)) (hc : 0 ≤ c ∧ c < (l.length : Int)) (hs : 0 ≤ s ∧ s ≤ 50) (h : ∀ x t : Int, x = a ∨ x = b ∨ x = c → 0 ≤ t → t ≤ s + 3 → Q x t) : slices_medianCmpFunc_string_W l a b c s cf Q := by
  refine order2_string ha hb ⟨by omega, by omega⟩ fun x y t hx h0 h1 => ?_
  have hx' : 0 ≤ x ∧ x < (l.length : Int) := by omega
  have hy' : 0 ≤ y ∧ y < (l.length : Int) := by omega
  refine order2_string hy' hc ⟨by omega, by omega⟩ fun x2 y2 t2 hx2 h02 h12 => ?_
  have hx2' : 0 ≤ x2 ∧ x2 < (l.length : Int) := by omega
  refine order2_string hx' hx2' ⟨by omega, by omega⟩ fun x3 y3 t3 hx3 h03 h13 => h _ _ (by omega) h03 (by omega)
theorem adjacent_string {a s : Int} {Q : Int → Int → Prop} (hl : (l.length : Int) ≤ 2305843009213693952) (ha : 1 ≤ a ∧ a + 1 < (l.length : Int)) (hs : 0 ≤ s ∧ s ≤ 50) (h : ∀ x t : Int, a - 1 ≤ x → x ≤ a + 1 → 0 ≤ t → t ≤ s + 3 → Q x t) : slices_medianAdjacentCmpFunc_string_W l a s cf Q :=
  ⟨by unfold I64; omega, by unfold I64; omega, median_string ⟨by omega, by omega⟩ ⟨by omega, by omega⟩ ⟨by omega, by omega⟩ hs fun x t hx h0 h1 => h x t (by omega) (by omega) h0 h1⟩
theorem pivot_string {a b : Int} {Q : Int → Int → Prop} (hl : (l.length : Int) ≤ 2305843009213693952) (ha : 0 ≤ a) (hab : a < b) (hb : b ≤ (l.length : Int)) (h : ∀ p t : Int, a ≤ p → p < b → t = 0 ∨ t = 1 ∨ t = 2 → Q p t) : slices_choosePivotCmpFunc_string_W l a b cf Q := by
  unfold slices_choosePivotCmpFunc_string_W
  rw [Int.tdiv_eq_ediv_of_nonneg (by omega)]
  have j2 : ∀ s j : Int, a ≤ j → j < b → slices_choosePivotCmpFunc_string_j2 Q s j := fun s j h1 h2 =>
    ⟨fun _ => h _ _ h1 h2 (by omega), fun _ => ⟨fun _ => h _ _ h1 h2 (by omega), fun _ => h _ _ h1 h2 (by omega)⟩⟩
  have j4 : ∀ s i j k : Int, 0 ≤ s ∧ s ≤ 50 → a ≤ i ∧ i < b → a ≤ j ∧ j < b → a ≤ k ∧ k < b → slices_choosePivotCmpFunc_string_j4 l cf Q s i j k := fun s i j k hs hi hj hk =>
    median_string ⟨by omega, by omega⟩ ⟨by omega, by omega⟩ ⟨by omega, by omega⟩ hs fun x t hx _ _ => j2 _ _ (by omega) (by omega)
  refine ⟨by unfold I64; omega, by unfold I64; omega, by unfold I64; omega, by unfold I64; omega, by unfold I64; omega, by unfold I64; omega, by unfold I64; omega, by unfold I64; omega, fun c => ⟨fun c2 => ?_, fun c2 => ?_⟩, fun c => j2 _ _ (by omega) (by omega)⟩
  · refine adjacent_string hl ⟨by omega, by omega⟩ ⟨by omega, by omega⟩ fun x1 t1 _ _ _ _ => ?_
    refine adjacent_string hl ⟨by omega, by omega⟩ ⟨by omega, by omega⟩ fun x2 t2 _ _ _ _ => ?_
    refine adjacent_string hl ⟨by omega, by omega⟩ ⟨by omega, by omega⟩ fun x3 t3 _ _ _ _ => ?_
    exact j4 _ _ _ _ ⟨by omega, by omega⟩ ⟨by omega, by omega⟩ ⟨by omega, by omega⟩ ⟨by omega, by omega⟩
  · exact j4 _ _ _ _ ⟨by omega, by omega⟩ ⟨by omega, by omega⟩ ⟨by omega, by omega⟩ ⟨by omega, by omega⟩
end

section
variable {cf : Str → Str → Int} {d : Array (Str)} {a b : Nat}
theorem break_string {Q : List (Str) → Prop} (hb : b ≤ d.size) (hn : d.size ≤ 2305843009213693952) (hab : a < b) (h : ∀ D : Array (Str), PermIn a b d D → Q D.toList) : slices_breakPatternsCmpFunc_string_W d.toList a b cf Q := by
  unfold slices_breakPatternsCmpFunc_string_W
  rw [Int.tdiv_eq_ediv_of_nonneg (by omega)]
  refine ⟨by unfold I64; omega, fun c => npow_ok (by omega) (by omega) fun m m1 m2 => ⟨by unfold I64; omega, by unfold I64; omega, by unfold I64; omega, by unfold I64; omega, ?_⟩, fun c => h _ (permIn_refl _ _ _)⟩
  refine loopI (fun s => ∃ D : Array (Str), s.1 = D.toList ∧ D.size = d.size ∧ PermIn a b d D ∧ (a : Int) ≤ s.2.2) (fun s => (b - s.2.2).toNat) ⟨d, rfl, rfl, permIn_refl _ _ _, by simp only; omega⟩ ?_
  rintro K ⟨_, r, i⟩ ⟨D, rfl, hD, hP, hi⟩ hK
  simp only at hi
  show slices_breakPatternsCmpFunc_string_l1 a b Q (m : Int) _ D.toList r i
  unfold slices_breakPatternsCmpFunc_string_l1
  rw [Int.tdiv_eq_ediv_of_nonneg (by omega)]
  refine ⟨by unfold I64; omega, by unfold I64; omega, by unfold I64; omega, by unfold I64; omega, fun c2 => ?_, fun c2 => h _ hP⟩
  refine xnext_ok fun X => ?_
  have hand := and_mask X m (by omega) (by omega)
  have j1 : ∀ o : Int, 0 ≤ o → o < (b : Int) - a → slices_breakPatternsCmpFunc_string_j1 a D.toList i (fun x y z => K (x, y, z)) X o := by
    intro o h1 h2
    unfold slices_breakPatternsCmpFunc_string_j1
    simp only [gi_arr, swp_arr, List.length_set, Array.length_toList]
    refine ⟨by unfold I64; omega, by omega, by omega, by omega, by unfold I64; omega, ?_⟩
    exact hK _ ⟨_, rfl, by rw [swp_sz, hD], permIn_trans _ _ _ a b hP (swp_permIn _ a b _ _ (by omega) (by omega) (by omega) (by omega) (by omega)), by simp only; omega⟩ (by simp only; omega)
  exact ⟨by unfold I64; omega, fun c3 => ⟨by unfold I64; omega, j1 _ (by omega) (by omega)⟩, fun c3 => j1 _ (by omega) (by omega)⟩

theorem partial_string {Q : Bool → List (Str) → Prop} (hb : b ≤ d.size) (hn : d.size ≤ 2305843009213693952) (hab : a < b) (h : Q (partialInsertionSort (ltOf cf) d a b).2 (partialInsertionSort (ltOf cf) d a b).1.toList) : slices_partialInsertionSortCmpFunc_string_W d.toList a b cf Q := by
  refine ⟨by unfold I64; omega, ?_⟩
  refine loopI (fun s => ∃ (D : Array (Str)) (i j : Nat), s.1 = D.toList ∧ s.2.1 = (i : Int) ∧ s.2.2 = (j : Int) ∧ j ≤ 5 ∧ partialIns (ltOf cf) a b (5 - j) i D = partialInsertionSort (ltOf cf) d a b ∧ D.size = d.size ∧ a + 1 ≤ i ∧ i ≤ b) (fun s => (5 - s.2.2).toNat) ⟨d, a + 1, 0, rfl, by simp, rfl, by omega, rfl, rfl, by omega, by omega⟩ ?_
  rintro K ⟨_, _, _⟩ ⟨D, i, j, rfl, rfl, rfl, hj5, hT, hD, hi1, hi2⟩ hK
  show slices_partialInsertionSortCmpFunc_string_l1 a b cf Q _ D.toList (i : Int) (j : Int)
  unfold slices_partialInsertionSortCmpFunc_string_l1
  refine ⟨fun c => ?_, fun c => ?_⟩
  · obtain ⟨s, hs⟩ : ∃ s, 5 - j = s + 1 := ⟨4 - j, by omega⟩
    rw [hs] at hT
    -- behind the scan
    have J3 : ∀ (y : Nat) (E : Array (Str)), i ≤ y → y < b → E.size = d.size → scanSorted (ltOf cf) D b i = y → ¬ b - a < 50 → (if y - a ≥ 2 then Go.Sort.shiftDown (ltOf cf) (y - 1) (swp D y (y - 1)) else swp D y (y - 1)) = E → slices_partialInsertionSortCmpFunc_string_j3 b cf (j : Int) (fun x y z => K (x, y, z)) (y : Int) E.toList := by
      intro y E h1 h2 hE hy h50 hq
      have out : ∀ e2 : Array (Str), e2.size = d.size → (if b - y ≥ 2 then shiftUp (ltOf cf) b (y + 1) E else E) = e2 → (I64 ((j : Int) + 1)) ∧ K (e2.toList, (y : Int), (j : Int) + 1) := by
        intro e2 hz q
        refine ⟨by unfold I64; omega, hK _ ⟨e2, y, j + 1, rfl, rfl, by simp, by omega, ?_, hz, by omega, by omega⟩ (by simp only; omega)⟩
        rw [show 5 - (j + 1) = s by omega, pi_go hy (by omega) h50 hq q, hT]
      unfold slices_partialInsertionSortCmpFunc_string_j3
      refine ⟨by unfold I64; omega, fun c3 => ⟨by unfold I64; omega, ?_⟩, fun c3 => out E hE (if_neg (by omega))⟩
      refine loopI (fun s => ∃ (G : Array (Str)) (t : Nat), s.1 = G.toList ∧ s.2 = (t : Int) ∧ shiftUp (ltOf cf) b t G = shiftUp (ltOf cf) b (y + 1) E ∧ G.size = d.size ∧ y + 1 ≤ t) (fun s => (b - s.2).toNat) ⟨E, y + 1, rfl, by simp, rfl, hE, Nat.le_refl _⟩ ?_
      rintro K4 ⟨_, _⟩ ⟨G, t, rfl, rfl, hT4, hG, ht⟩ hK4
      show slices_partialInsertionSortCmpFunc_string_l4 b cf (j : Int) _ (y : Int) _ G.toList (t : Int)
      unfold slices_partialInsertionSortCmpFunc_string_l4
      have e1 : ((t : Int) - 1).toNat = t - 1 := by omega
      simp only [gi_arr, swp_arr, List.length_set, Array.length_toList, Int.toNat_natCast, e1]
      refine ⟨fun c4 => ⟨by omega, by unfold I64; omega, by omega, fun c5 => out G hG ?_, fun c5 => ⟨by omega, by unfold I64; omega, hK4 _ ⟨_, t + 1, rfl, by simp, ?_, by rw [swp_sz, hG], by omega⟩ (by simp only; omega)⟩⟩, fun c4 => out G hG ?_⟩
      · rw [if_pos (by omega), ← hT4, su_stop (by omega) (decide_eq_false c5)]
      · rw [su_go (by omega) (decide_eq_true c5), hT4]
      · rw [if_pos (by omega), ← hT4, su_end (by omega)]
    have J2 : ∀ y : Nat, i ≤ y → y ≤ b → scanSorted (ltOf cf) D b i = y → slices_partialInsertionSortCmpFunc_string_j2 a b cf Q D.toList (j : Int) (fun x y z => K (x, y, z)) (y : Int) := by
      intro y h1 h2 hy
      unfold slices_partialInsertionSortCmpFunc_string_j2
      refine ⟨fun c2 => ?_, fun c2 => ⟨by unfold I64; omega, fun c3 => ?_, fun c3 => ?_⟩⟩
      · rw [pi_done hy (by omega)] at hT; rw [← hT] at h; exact h
      · rw [pi_small hy (by omega) (by omega)] at hT; rw [← hT] at h; exact h
      · have e1 : ((y : Int) - 1).toNat = y - 1 := by omega
        simp only [gi_arr, swp_arr, List.length_set, Array.length_toList, Int.toNat_natCast, e1]
        refine ⟨by unfold I64; omega, by omega, by omega, by omega, by unfold I64; omega, fun c4 => ?_, fun c4 => J3 y _ h1 (by omega) (by rw [swp_sz, hD]) hy (by omega) (if_neg (by omega))⟩
        refine loopI (fun s => ∃ (G : Array (Str)) (t : Nat), s.1 = G.toList ∧ s.2 = (t : Int) ∧ Go.Sort.shiftDown (ltOf cf) t G = Go.Sort.shiftDown (ltOf cf) (y - 1) (swp D y (y - 1)) ∧ G.size = d.size ∧ t < y) (fun s => s.2.toNat) ⟨_, y - 1, rfl, by simp only; omega, rfl, by rw [swp_sz, hD], by omega⟩ ?_
        rintro K3 ⟨_, _⟩ ⟨G, t, rfl, rfl, hT3, hG, ht⟩ hK3
        show slices_partialInsertionSortCmpFunc_string_l3 b cf (j : Int) _ (y : Int) _ G.toList (t : Int)
        unfold slices_partialInsertionSortCmpFunc_string_l3
        have e1 : ((t : Int) - 1).toNat = t - 1 := by omega
        simp only [gi_arr, swp_arr, List.length_set, Array.length_toList, Int.toNat_natCast, e1]
        refine ⟨fun c5 => ⟨by omega, by unfold I64; omega, by omega, fun c6 => J3 y G h1 (by omega) hG hy (by omega) ?_, fun c6 => ⟨by omega, hK3 _ ⟨_, t - 1, rfl, by simp only; omega, ?_, by rw [swp_sz, hG], by omega⟩ (by simp only; omega)⟩⟩, fun c5 => J3 y G h1 (by omega) hG hy (by omega) ?_⟩
        · rw [if_pos (by omega), ← hT3, sd_stop (by omega) (decide_eq_false c6)]
        · rw [sd_go (by omega) (decide_eq_true c6), hT3]
        · obtain rfl : t = 0 := by omega
          rw [if_pos (by omega), ← hT3]; rfl
    refine loopI (fun s => ∃ t : Nat, s = (t : Int) ∧ scanSorted (ltOf cf) D b t = scanSorted (ltOf cf) D b i ∧ i ≤ t ∧ t ≤ b) (fun s => (b - s).toNat) ⟨i, rfl, rfl, Nat.le_refl _, hi2⟩ ?_
    rintro K2 _ ⟨t, rfl, hT2, ht1, ht2⟩ hK2
    show slices_partialInsertionSortCmpFunc_string_l2 a b cf Q D.toList (j : Int) _ _ (t : Int)
    unfold slices_partialInsertionSortCmpFunc_string_l2
    have e1 : ((t : Int) - 1).toNat = t - 1 := by omega
    simp only [gi_arr, Array.length_toList, Int.toNat_natCast, e1]
    refine ⟨fun c2 => ⟨by omega, by unfold I64; omega, by omega, fun c3 => ⟨by unfold I64; omega, hK2 _ ⟨t + 1, by simp, ?_, by omega, by omega⟩ (by omega)⟩, fun c3 => J2 t ht1 ht2 ?_⟩, fun c2 => J2 t ht1 ht2 ?_⟩
    · rw [scan_go (by omega) (decide_eq_false c3), hT2]
    · rw [← hT2, scan_stop (decide_eq_true c3)]
    · rw [← hT2, scan_end (by omega)]
  · have : 5 - j = 0 := by omega
    rw [this] at hT
    replace hT : (D, false) = partialInsertionSort (ltOf cf) d a b := hT
    rw [← hT] at h; exact h

theorem parteq_string {pivot : Nat} {Q : Int → List (Str) → Prop} (hb : b ≤ d.size) (hn : d.size ≤ 2305843009213693952) (hab : a < b) (hp : pivot < d.size) (h : Q ((partitionEqual (ltOf cf) d a b pivot).1 : Int) (partitionEqual (ltOf cf) d a b pivot).2.toList) : slices_partitionEqualCmpFunc_string_W d.toList a b pivot cf Q := by
  unfold slices_partitionEqualCmpFunc_string_W
  simp only [gi_arr, swp_arr, List.length_set, Array.length_toList, Int.toNat_natCast]
  refine ⟨by omega, by omega, by omega, by unfold I64; omega, by unfold I64; omega, ?_⟩
  refine loopI (fun s => ∃ (D : Array (Str)) (i j : Nat), s.1 = D.toList ∧ s.2.1 = (i : Int) ∧ s.2.2 = (j : Int) ∧ partEqLoop (ltOf cf) a i j D = partitionEqual (ltOf cf) d a b pivot ∧ D.size = d.size ∧ a + 1 ≤ i ∧ j < d.size) (fun s => (s.2.2 + 1 - s.2.1).toNat) ⟨_, a + 1, b - 1, rfl, by simp, by simp only; omega, rfl, by rw [swp_sz], by omega, by omega⟩ ?_
  rintro K ⟨_, _, _⟩ ⟨D, i, j, rfl, rfl, rfl, hT, hD, hi, hj⟩ hK
  show slices_partitionEqualCmpFunc_string_l1 a cf Q _ D.toList (i : Int) (j : Int)
  unfold slices_partitionEqualCmpFunc_string_l1
  have J4 : ∀ y w : Nat, i ≤ y → w ≤ j → scanUp (fun x => !ltOf cf D[a]! x) D j i = y → scanDown (fun x => ltOf cf D[a]! x) D y j = w → slices_partitionEqualCmpFunc_string_j4 Q D.toList (fun x y z => K (x, y, z)) (y : Int) (w : Int) := by
    intro y w h1 h2 hy hw
    unfold slices_partitionEqualCmpFunc_string_j4
    simp only [gi_arr, swp_arr, List.length_set, Array.length_toList, Int.toNat_natCast]
    refine ⟨fun c => ?_, fun c => ⟨by omega, by omega, by omega, by unfold I64; omega, by unfold I64; omega, hK _ ⟨_, y + 1, w - 1, rfl, by simp, by simp only; omega, ?_, by rw [swp_sz, hD], by omega, by omega⟩ (by simp only; omega)⟩⟩
    · rw [pe_stop hy hw (by omega)] at hT; rw [← hT] at h; exact h
    · rw [pe_go hy hw (by omega) h1 h2 (by omega), hT]
  have J2 : ∀ y : Nat, i ≤ y → scanUp (fun x => !ltOf cf D[a]! x) D j i = y → slices_partitionEqualCmpFunc_string_j2 a cf Q D.toList (j : Int) (fun x y z => K (x, y, z)) (y : Int) := by
    intro y h1 hy
    unfold slices_partitionEqualCmpFunc_string_j2
    refine loopI (fun s => ∃ t : Nat, s = (t : Int) ∧ scanDown (fun x => ltOf cf D[a]! x) D y t = scanDown (fun x => ltOf cf D[a]! x) D y j ∧ t ≤ j) (fun s => s.toNat) ⟨j, rfl, rfl, Nat.le_refl _⟩ ?_
    rintro K3 _ ⟨t, rfl, hT3, ht⟩ hK3
    show slices_partitionEqualCmpFunc_string_l3 a cf Q D.toList _ (y : Int) _ (t : Int)
    unfold slices_partitionEqualCmpFunc_string_l3
    simp only [gi_arr, Array.length_toList, Int.toNat_natCast]
    refine ⟨fun c => ⟨by omega, by omega, fun c2 => ⟨by unfold I64; omega, hK3 _ ⟨t - 1, by omega, ?_, by omega⟩ (by omega)⟩, fun c2 => J4 y t h1 ht hy ?_⟩, fun c => J4 y t h1 ht hy ?_⟩
    · rw [dn_go (p := fun x => ltOf cf D[a]! x) (d := D) (j := t) (by omega) (by omega) (decide_eq_true c2), hT3]
    · rw [← hT3, dn_no (p := fun x => ltOf cf D[a]! x) (d := D) (j := t) (decide_eq_false c2)]
    · rw [← hT3, dn_out (by omega)]
  refine loopI (fun s => ∃ t : Nat, s = (t : Int) ∧ scanUp (fun x => !ltOf cf D[a]! x) D j t = scanUp (fun x => !ltOf cf D[a]! x) D j i ∧ i ≤ t) (fun s => (j + 1 - s).toNat) ⟨i, rfl, rfl, Nat.le_refl _⟩ ?_
  rintro K2 _ ⟨t, rfl, hT2, ht⟩ hK2
  show slices_partitionEqualCmpFunc_string_l2 a cf Q D.toList (j : Int) _ _ (t : Int)
  unfold slices_partitionEqualCmpFunc_string_l2
  simp only [gi_arr, Array.length_toList, Int.toNat_natCast]
  refine ⟨fun c => ⟨by omega, by omega, fun c2 => ⟨by unfold I64; omega, hK2 _ ⟨t + 1, by simp, ?_, by omega⟩ (by omega)⟩, fun c2 => J2 t ht ?_⟩, fun c => J2 t ht ?_⟩
  · rw [up_go (p := fun x => !ltOf cf D[a]! x) (d := D) (i := t) (by omega) (nlt_t c2), hT2]
  · rw [← hT2, up_no (p := fun x => !ltOf cf D[a]! x) (d := D) (i := t) (nlt_f c2)]
  · rw [← hT2, up_out (by omega)]

theorem part_string {pivot : Nat} {Q : Int → Bool → List (Str) → Prop} (hb : b ≤ d.size) (hn : d.size ≤ 2305843009213693952) (hab : a < b) (hp : pivot < d.size) (h : Q ((partition (ltOf cf) d a b pivot).1 : Int) (partition (ltOf cf) d a b pivot).2.1 (partition (ltOf cf) d a b pivot).2.2.toList) : slices_partitionCmpFunc_string_W d.toList a b pivot cf Q := by
  unfold slices_partitionCmpFunc_string_W
  obtain ⟨D0, hD0⟩ : ∃ D, D = swp d a pivot := ⟨_, rfl⟩
  have hz0 : D0.size = d.size := by rw [hD0, swp_sz]
  have hset : (d.toList.set (a : Int).toNat (gi d.toList (pivot : Int))).set (pivot : Int).toNat (gi d.toList (a : Int)) = D0.toList := by simp only [gi_arr, swp_arr, Int.toNat_natCast]; rw [hD0]
  have hl1 : (d.toList.set (a : Int).toNat (gi d.toList (pivot : Int))).length = d.size := by simp
  rw [hl1]
  simp only [Array.length_toList]
  refine ⟨by omega, by omega, by omega, by unfold I64; omega, by unfold I64; omega, ?_⟩
  have J3 : ∀ y w : Nat, a + 1 ≤ y → w ≤ b - 1 → scanUp (fun x => ltOf cf x D0[a]!) D0 (b - 1) (a + 1) = y → scanDown (fun x => !ltOf cf x D0[a]!) D0 y (b - 1) = w → slices_partitionCmpFunc_string_j3 d.toList a pivot cf Q (y : Int) (w : Int) := by
    intro y w h1 h2 hy hw
    unfold slices_partitionCmpFunc_string_j3
    rw [hset]
    simp only [gi_arr, swp_arr, List.length_set, Array.length_toList, Int.toNat_natCast]
    refine ⟨fun c => ⟨by omega, by omega, by omega, ?_⟩, fun c => ⟨by omega, by omega, by omega, by unfold I64; omega, by unfold I64; omega, ?_⟩⟩
    · rw [pt_a hD0.symm hy hw (by omega)] at h; exact h
    · obtain ⟨R, hR⟩ : ∃ R, R = partLoop (ltOf cf) a (y + 1) (w - 1) (swp D0 y w) := ⟨_, rfl⟩
      rw [pt_b (x := R.1) (e := R.2) hD0.symm hy hw (by omega) hR.symm] at h
      refine loopI (fun s => ∃ (D : Array (Str)) (i j : Nat), s.1 = D.toList ∧ s.2.1 = (i : Int) ∧ s.2.2 = (j : Int) ∧ partLoop (ltOf cf) a i j D = R ∧ D.size = d.size ∧ a + 1 ≤ i ∧ j < d.size) (fun s => (s.2.2 + 1 - s.2.1).toNat) ⟨_, y + 1, w - 1, rfl, by simp, by simp only; omega, hR.symm, by rw [swp_sz, hz0], by omega, by omega⟩ ?_
      rintro K ⟨_, _, _⟩ ⟨D, i, j, rfl, rfl, rfl, hT, hD, hi, hj⟩ hK
      show slices_partitionCmpFunc_string_l3 a cf Q _ D.toList (i : Int) (j : Int)
      unfold slices_partitionCmpFunc_string_l3
      have J8 : ∀ y w : Nat, i ≤ y → w ≤ j → scanUp (fun x => ltOf cf x D[a]!) D j i = y → scanDown (fun x => !ltOf cf x D[a]!) D y j = w → slices_partitionCmpFunc_string_j8 a Q D.toList (fun x y z => K (x, y, z)) (y : Int) (w : Int) := by
        intro y w h1 h2 hy hw
        unfold slices_partitionCmpFunc_string_j8
        simp only [gi_arr, swp_arr, List.length_set, Array.length_toList, Int.toNat_natCast]
        refine ⟨fun c => ⟨by omega, by omega, by omega, ?_⟩, fun c => ⟨by omega, by omega, by omega, by unfold I64; omega, by unfold I64; omega, hK _ ⟨_, y + 1, w - 1, rfl, by simp, by simp only; omega, ?_, by rw [swp_sz, hD], by omega, by omega⟩ (by simp only; omega)⟩⟩
        · rw [pl_stop hy hw (by omega)] at hT; rw [← hT] at h; exact h
        · rw [pl_go hy hw (by omega) h1 h2 (by omega), hT]
      have J6 : ∀ y : Nat, i ≤ y → scanUp (fun x => ltOf cf x D[a]!) D j i = y → slices_partitionCmpFunc_string_j6 a cf Q D.toList (j : Int) (fun x y z => K (x, y, z)) (y : Int) := by
        intro y h1 hy
        unfold slices_partitionCmpFunc_string_j6
        refine loopI (fun s => ∃ t : Nat, s = (t : Int) ∧ scanDown (fun x => !ltOf cf x D[a]!) D y t = scanDown (fun x => !ltOf cf x D[a]!) D y j ∧ t ≤ j) (fun s => s.toNat) ⟨j, rfl, rfl, Nat.le_refl _⟩ ?_
        rintro K3 _ ⟨t, rfl, hT3, ht⟩ hK3
        show slices_partitionCmpFunc_string_l5 a cf Q D.toList _ (y : Int) _ (t : Int)
        unfold slices_partitionCmpFunc_string_l5
        simp only [gi_arr, Array.length_toList, Int.toNat_natCast]
        refine ⟨fun c => ⟨by omega, by omega, fun c2 => ⟨by unfold I64; omega, hK3 _ ⟨t - 1, by omega, ?_, by omega⟩ (by omega)⟩, fun c2 => J8 y t h1 ht hy ?_⟩, fun c => J8 y t h1 ht hy ?_⟩
        · rw [dn_go (p := fun x => !ltOf cf x D[a]!) (d := D) (j := t) (by omega) (by omega) (nlt_t c2), hT3]
        · rw [← hT3, dn_no (p := fun x => !ltOf cf x D[a]!) (d := D) (j := t) (nlt_f c2)]
        · rw [← hT3, dn_out (by omega)]
      refine loopI (fun s => ∃ t : Nat, s = (t : Int) ∧ scanUp (fun x => ltOf cf x D[a]!) D j t = scanUp (fun x => ltOf cf x D[a]!) D j i ∧ i ≤ t) (fun s => (j + 1 - s).toNat) ⟨i, rfl, rfl, Nat.le_refl _⟩ ?_
      rintro K2 _ ⟨t, rfl, hT2, ht⟩ hK2
      show slices_partitionCmpFunc_string_l4 a cf Q D.toList (j : Int) _ _ (t : Int)
      unfold slices_partitionCmpFunc_string_l4
      simp only [gi_arr, Array.length_toList, Int.toNat_natCast]
      refine ⟨fun c => ⟨by omega, by omega, fun c2 => ⟨by unfold I64; omega, hK2 _ ⟨t + 1, by simp, ?_, by omega⟩ (by omega)⟩, fun c2 => J6 t ht ?_⟩, fun c => J6 t ht ?_⟩
      · rw [up_go (p := fun x => ltOf cf x D[a]!) (d := D) (i := t) (by omega) (decide_eq_true c2), hT2]
      · rw [← hT2, up_no (p := fun x => ltOf cf x D[a]!) (d := D) (i := t) (decide_eq_false c2)]
      · rw [← hT2, up_out (by omega)]
  have J1 : ∀ y : Nat, a + 1 ≤ y → scanUp (fun x => ltOf cf x D0[a]!) D0 (b - 1) (a + 1) = y → slices_partitionCmpFunc_string_j1 d.toList a b pivot cf Q (y : Int) := by
    intro y h1 hy
    unfold slices_partitionCmpFunc_string_j1
    refine loopI (fun s => ∃ t : Nat, s = (t : Int) ∧ scanDown (fun x => !ltOf cf x D0[a]!) D0 y t = scanDown (fun x => !ltOf cf x D0[a]!) D0 y (b - 1) ∧ t ≤ b - 1) (fun s => s.toNat) ⟨b - 1, by omega, rfl, Nat.le_refl _⟩ ?_
    rintro K3 _ ⟨t, rfl, hT3, ht⟩ hK3
    show slices_partitionCmpFunc_string_l2 d.toList a pivot cf Q (y : Int) _ (t : Int)
    unfold slices_partitionCmpFunc_string_l2
    rw [hset]
    simp only [gi_arr, Array.length_toList, Int.toNat_natCast]
    refine ⟨fun c => ⟨by omega, by omega, fun c2 => ⟨by unfold I64; omega, hK3 _ ⟨t - 1, by omega, ?_, by omega⟩ (by omega)⟩, fun c2 => J3 y t h1 ht hy ?_⟩, fun c => J3 y t h1 ht hy ?_⟩
    · rw [dn_go (p := fun x => !ltOf cf x D0[a]!) (d := D0) (j := t) (by omega) (by omega) (nlt_t c2), hT3]
    · rw [← hT3, dn_no (p := fun x => !ltOf cf x D0[a]!) (d := D0) (j := t) (nlt_f c2)]
    · rw [← hT3, dn_out (by omega)]
  refine loopI (fun s => ∃ t : Nat, s = (t : Int) ∧ scanUp (fun x => ltOf cf x D0[a]!) D0 (b - 1) t = scanUp (fun x => ltOf cf x D0[a]!) D0 (b - 1) (a + 1) ∧ a + 1 ≤ t) (fun s => (b - s).toNat) ⟨a + 1, by simp, rfl, Nat.le_refl _⟩ ?_
  rintro K2 _ ⟨t, rfl, hT2, ht⟩ hK2
  show slices_partitionCmpFunc_string_l1 d.toList a b pivot cf Q _ (t : Int)
  unfold slices_partitionCmpFunc_string_l1
  rw [hset]
  simp only [gi_arr, Array.length_toList, Int.toNat_natCast]
  refine ⟨fun c => ⟨by omega, by omega, fun c2 => ⟨by unfold I64; omega, hK2 _ ⟨t + 1, by simp, ?_, by omega⟩ (by omega)⟩, fun c2 => J1 t ht ?_⟩, fun c => J1 t ht ?_⟩
  · rw [up_go (p := fun x => ltOf cf x D0[a]!) (d := D0) (i := t) (by omega) (decide_eq_true c2), hT2]
  · rw [← hT2, up_no (p := fun x => ltOf cf x D0[a]!) (d := D0) (i := t) (decide_eq_false c2)]
  · rw [← hT2, up_out (by omega)]
end

theorem pdq_string {cf : Str → Str → Int} (O : SWO (ltOf cf)) {n : Nat} (hn : n ≤ 2305843009213693952) : ∀ (N : Nat) (d : Array (Str)) (a b : Nat) (lim : Int) (Q : List (Str) → Prop), b - a < N → d.size = n → a ≤ b → b ≤ n → 0 ≤ lim → lim ≤ 1000 → Below (ltOf cf) a b d →
    (∀ D : Array (Str), PermIn a b d D → SortedIn (ltOf cf) a b D → Q D.toList) → slices_pdqsortCmpFunc_string_Wn N d.toList a b lim cf Q := by
  intro N
  induction N with
  | zero => intro d a b lim Q h; omega
  | succ N ih =>
    intro d a b lim Q hN hd hab hbn hl0 hl1 hB hQ
    show slices_pdqsortCmpFunc_string_B (slices_pdqsortCmpFunc_string_Wn N) d.toList a b lim cf Q
    refine loopI (fun s => ∃ (D : Array (Str)) (p q : Nat) (lm : Int) (wb wp : Bool), s = (D.toList, (p : Int), (q : Int), lm, wb, wp) ∧ D.size = n ∧ p ≤ q ∧ q ≤ n ∧ q - p < N + 1 ∧ 0 ≤ lm ∧ lm ≤ 1000 ∧ Below (ltOf cf) p q D ∧ ∀ R : Array (Str), PermIn p q D R → SortedIn (ltOf cf) p q R → Q R.toList) (fun s => (s.2.2.1 - s.2.1).toNat) ⟨d, a, b, lim, true, true, rfl, hd, hab, hbn, hN, hl0, hl1, hB, hQ⟩ ?_
    rintro K _ ⟨D, p, q, lm, wb, wp, rfl, hD, hpq, hqn, hN', hm0, hm1, hB', hF⟩ hK
    show slices_pdqsortCmpFunc_string_l1 cf Q (slices_pdqsortCmpFunc_string_Wn N) _ D.toList (p : Int) (q : Int) lm wb wp
    unfold slices_pdqsortCmpFunc_string_l1
    refine ⟨by unfold I64; omega, fun c => ins_string (by omega) (by omega) (by omega) (hF _ (insertionSort_holds O D p q hpq (by omega)).1 (insertionSort_holds O D p q hpq (by omega)).2), fun c => ⟨fun c2 => heap_string (by omega) (by omega) (by omega) (hF _ (heapSort_holds O D p q hpq (by omega)).1 (heapSort_holds O D p q hpq (by omega)).2), fun c2 => ?_⟩⟩
    have hpq' : p < q := by omega
    -- the partitions
    have J3 : ∀ (x : Nat) (E : Array (Str)) (lm2 : Int), p ≤ x → x < q → PermIn p q D E → 0 ≤ lm2 → lm2 ≤ 1000 → slices_pdqsortCmpFunc_string_j3 cf (slices_pdqsortCmpFunc_string_Wn N) (p : Int) (q : Int) wb wp (fun d2 a1 b1 l1 w1 w2 => K (d2, a1, b1, l1, w1, w2)) lm2 (x : Int) E.toList := by
      intro x E lm2 h1 h2 hP g0 g1
      have hE : E.size = n := by rw [hP.1, hD]
      have hBE : Below (ltOf cf) p q E := hB'.perm (by omega) hP
      have J5 : ∀ bb : Bool, (bb = true → 0 < p ∧ ltOf cf E[p - 1]! E[x]! = false) → slices_pdqsortCmpFunc_string_j5 cf (slices_pdqsortCmpFunc_string_Wn N) (p : Int) (q : Int) wb wp (fun d2 a1 b1 l1 w1 w2 => K (d2, a1, b1, l1, w1, w2)) lm2 (x : Int) E.toList bb := by
        intro bb hbb
        unfold slices_pdqsortCmpFunc_string_j5
        refine ⟨fun cb => ?_, fun cb => ?_⟩
        · obtain ⟨hp0, hnl⟩ := hbb cb
          obtain ⟨r1, r2, r3, r4, r5⟩ := round_eq O (partitionEqual_holds (ltOf cf)) (mid := (partitionEqual (ltOf cf) E p q x).1) (d4 := (partitionEqual (ltOf cf) E p q x).2) hp0 h1 h2 (by omega) hBE hnl rfl
          refine parteq_string (by omega) (by omega) hpq' (by omega) ?_
          refine hK _ ⟨_, _, q, lm2, wb, wp, rfl, by rw [r3, hE], by omega, hqn, by omega, g0, g1, r4, fun R hR hs => ?_⟩ (by simp only; omega)
          obtain ⟨t1, t2⟩ := r5 R hR hs
          exact hF R (permIn_trans _ _ _ p q hP t1) t2
        · obtain ⟨r1, r2, r3, r4, r5, r6, r7⟩ := round_part O (partition_holds (ltOf cf)) (mid := (partition (ltOf cf) E p q x).1) (ap := (partition (ltOf cf) E p q x).2.1) (d4 := (partition (ltOf cf) E p q x).2.2) h1 h2 (by omega) hBE rfl
          refine part_string (by omega) (by omega) hpq' (by omega) ?_
          generalize (partition (ltOf cf) E p q x).1 = mid at *
          generalize (partition (ltOf cf) E p q x).2.2 = D4 at *
          have z4 : D4.size = n := by rw [r3, hE]
          refine ⟨by unfold I64; omega, by unfold I64; omega, by rw [Int.tdiv_eq_ediv_of_nonneg (by omega)]; unfold I64; omega, fun cc => ?_, fun cc => ⟨by unfold I64; omega, ?_⟩⟩
          · refine ih D4 p mid lm2 _ (by omega) z4 r1 (by omega) g0 g1 r4 fun L hL hsL => ⟨by unfold I64; omega, ?_⟩
            obtain ⟨t1, t2⟩ := r6 L hL hsL
            refine hK _ ⟨L, mid + 1, q, lm2, _, _, rfl, by rw [hL.1, z4], by omega, hqn, by omega, g0, g1, t1, fun R hR hs => ?_⟩ (by simp only; omega)
            obtain ⟨u1, u2⟩ := t2 R hR hs
            exact hF R (permIn_trans _ _ _ p q hP u1) u2
          · have e1 : (mid : Int) + 1 = ((mid + 1 : Nat) : Int) := by simp
            rw [e1]
            refine ih D4 (mid + 1) q lm2 _ (by omega) z4 (by omega) hqn g0 g1 r5 fun L hL hsL => ?_
            obtain ⟨t1, t2⟩ := r7 L hL hsL
            refine hK _ ⟨L, p, mid, lm2, _, _, rfl, by rw [hL.1, z4], r1, by omega, by omega, g0, g1, t1, fun R hR hs => ?_⟩ (by simp only; omega)
            obtain ⟨u1, u2⟩ := t2 R hR hs
            exact hF R (permIn_trans _ _ _ p q hP u1) u2
      unfold slices_pdqsortCmpFunc_string_j3
      have e1 : ((p : Int) - 1).toNat = p - 1 := by omega
      simp only [gi_arr, Array.length_toList, Int.toNat_natCast, e1]
      refine ⟨fun c3 => ⟨by unfold I64; omega, by omega, by omega, J5 _ fun cb => ⟨by omega, ?_⟩⟩, fun c3 => J5 _ fun cb => (by cases cb)⟩
      show decide (_ < 0) = false
      simpa using cb
    have J4 : ∀ (x : Nat) (E : Array (Str)) (lm2 : Int) (bb : Bool), p ≤ x → x < q → PermIn p q D E → 0 ≤ lm2 → lm2 ≤ 1000 → slices_pdqsortCmpFunc_string_j4 cf Q (slices_pdqsortCmpFunc_string_Wn N) (p : Int) (q : Int) wb wp (fun d2 a1 b1 l1 w1 w2 => K (d2, a1, b1, l1, w1, w2)) lm2 E.toList (x : Int) bb := by
      intro x E lm2 bb h1 h2 hP g0 g1
      have hE : E.size = n := by rw [hP.1, hD]
      unfold slices_pdqsortCmpFunc_string_j4
      refine ⟨fun cb => partial_string (by omega) (by omega) hpq' ?_, fun cb => J3 x E lm2 h1 h2 hP g0 g1⟩
      obtain ⟨s1, s2⟩ := partialInsertionSort_holds O E p q hpq' (by omega) (hB'.perm (by omega) hP)
      exact ⟨fun q1 => hF _ (permIn_trans _ _ _ p q hP s1) (s2 q1), fun q1 => J3 x _ lm2 h1 h2 (permIn_trans _ _ _ p q hP s1) g0 g1⟩
    have J2 : ∀ (x : Nat) (E : Array (Str)) (lm2 hint : Int), p ≤ x → x < q → PermIn p q D E → 0 ≤ lm2 → lm2 ≤ 1000 → slices_pdqsortCmpFunc_string_j2 cf Q (slices_pdqsortCmpFunc_string_Wn N) (p : Int) (q : Int) wb wp (fun d2 a1 b1 l1 w1 w2 => K (d2, a1, b1, l1, w1, w2)) lm2 E.toList (x : Int) hint := by
      intro x E lm2 hint h1 h2 hP g0 g1
      unfold slices_pdqsortCmpFunc_string_j2
      exact ⟨fun _ => ⟨fun _ => J4 x E lm2 _ h1 h2 hP g0 g1, fun _ => J4 x E lm2 _ h1 h2 hP g0 g1⟩, fun _ => J4 x E lm2 _ h1 h2 hP g0 g1⟩
    have J1 : ∀ (E : Array (Str)) (lm2 : Int), PermIn p q D E → 0 ≤ lm2 → lm2 ≤ 1000 → slices_pdqsortCmpFunc_string_j1 cf Q (slices_pdqsortCmpFunc_string_Wn N) (p : Int) (q : Int) wb wp (fun d2 a1 b1 l1 w1 w2 => K (d2, a1, b1, l1, w1, w2)) E.toList lm2 := by
      intro E lm2 hP g0 g1
      have hE : E.size = n := by rw [hP.1, hD]
      unfold slices_pdqsortCmpFunc_string_j1
      refine pivot_string (by simp; omega) (by omega) (by omega) (by simp; omega) fun x t x1 x2 ht => ?_
      obtain ⟨x, rfl⟩ : ∃ y : Nat, x = y := ⟨x.toNat, by omega⟩
      refine ⟨fun c4 => reverse_string (by omega) (by omega) hpq' ⟨by unfold I64; omega, by unfold I64; omega, by unfold I64; omega, ?_⟩, fun c4 => J2 x E lm2 t (by omega) (by omega) hP g0 g1⟩
      have e1 : ((q : Int) - 1) - ((x : Int) - p) = ((q - 1 - (x - p) : Nat) : Int) := by omega
      rw [e1]
      exact J2 _ _ lm2 1 (by omega) (by omega) (permIn_trans _ _ _ p q hP (reverseRange_holds E p q hpq (by omega))) g0 g1
    refine ⟨fun c3 => break_string (by omega) (by omega) hpq' fun E hE => ⟨by unfold I64; omega, J1 E _ hE (by omega) (by omega)⟩, fun c3 => J1 D lm (permIn_refl _ _ _) hm0 hm1⟩
/-- slices.SortFunc sorts. -/
theorem sort_string {cf : Str → Str → Int} (O : SWO (ltOf cf)) {l : List (Str)} {Q : List (Str) → Prop} (hl : l.length ≤ 2305843009213693952) (h : ∀ m : List (Str), m.Perm l → (m.Pairwise fun x y => ¬ cf y x < 0) → Q m) : slices_SortFunc_s_string_string_W l cf Q := by
  unfold slices_SortFunc_s_string_string_W
  rw [wrap64 (by omega)]
  obtain ⟨r, e, r1, r2⟩ := blen_nat (l := l.length) (by omega)
  rw [e]
  refine ⟨by omega, l.length + 1, ?_⟩
  have := pdq_string O hl (l.length + 1) l.toArray 0 l.length r Q (by omega) (by simp) (by omega) (by omega) (by omega) (by omega) (.inl rfl) ?_
  · simpa using this
  · intro D hP hs
    have hz : l.toArray.size = l.length := by simp
    rw [← hz] at hP hs
    have := perm_list hP
    rw [← hP.1] at hs
    exact h _ (by simpa using this) (sorted_list hs)
end Go.Wk
