/- Plain words: sets that are sorted lists; the audit's answers. -/
import Derived.Test.YtnemfpgfgblpbaaAudP
set_option linter.unusedSimpArgs false
set_option linter.unusedVariables false
set_option linter.unusedSectionVars false
namespace Go.Wk
open Go.HL
variable [DM]
/-! ### The order of spots -/
def cmpI (x y : Int) : Int := if x < y then -1 else if y < x then 1 else 0
theorem compare_ok {x y : Int} {Q : Int → Prop} (h : Q (cmpI x y)) : cmp_Compare_int_W x y Q := by
  unfold cmp_Compare_int_W cmp_isNaN_int_W
  refine ⟨fun c => by simp at c, fun _ => ⟨fun c => by simp at c, fun _ => ⟨fun c => ?_, fun c => ⟨fun d => ?_, fun d => ?_⟩⟩⟩⟩
  · rw [cmpI, if_pos c] at h; exact h
  · rw [cmpI, if_neg c, if_pos d] at h; exact h
  · rw [cmpI, if_neg c, if_neg d] at h; exact h
theorem or_ok {a b : Int} {Q : Int → Prop} (h : Q (if a ≠ 0 then a else b)) : cmp_Or_int_W [a, b] Q := by
  refine loop_up1 2 (fun i => 1 ≤ i → a = 0 ∧ (2 ≤ i → b = 0)) (fun h => absurd h (by decide)) fun K i hi hI hK => ?_
  show cmp_Or_int_l1 _ _ _ _
  unfold cmp_Or_int_l1
  have e2 : (([a, b] : List Int).length : Int) = 2 := rfl
  rw [e2]
  rcases i with _ | _ | _ | i
  · refine ⟨fun _ => ⟨by omega, fun c => ?_, fun c => ⟨by (first | omega | (unfold I64; omega) | (simp only [List.length_append, List.length_cons, List.length_nil, List.length_take, List.length_drop] at *; omega) | (unfold I64; simp only [List.length_append, List.length_cons, List.length_nil, List.length_take, List.length_drop] at *; omega)), hK 1 (by omega) (by omega) fun _ => ⟨c, by omega⟩⟩⟩, fun c => absurd c (by omega)⟩
    rw [if_pos (show a ≠ 0 from c)] at h; exact h
  · obtain ⟨ha, _⟩ := hI (by omega)
    rw [if_neg (by omega)] at h
    refine ⟨fun _ => ⟨by omega, fun c => h, fun c => ⟨by (first | omega | (unfold I64; omega) | (simp only [List.length_append, List.length_cons, List.length_nil, List.length_take, List.length_drop] at *; omega) | (unfold I64; simp only [List.length_append, List.length_cons, List.length_nil, List.length_take, List.length_drop] at *; omega)), hK 2 (by omega) (by omega) fun _ => ⟨ha, fun _ => c⟩⟩⟩, fun c => absurd c (by omega)⟩
  · obtain ⟨ha, hb⟩ := hI (by omega)
    have hb := hb (by omega)
    rw [if_neg (by omega), hb] at h
    exact ⟨fun c => absurd c (by omega), fun _ => h⟩
  · omega
def spotCmp (a b : Spot) : Int := if cmpI a.1 b.1 ≠ 0 then cmpI a.1 b.1 else cmpI a.2 b.2
def spotLt (a b : Spot) : Prop := a.1 < b.1 ∨ (a.1 = b.1 ∧ a.2 < b.2)
theorem spotCmp_lt (a b : Spot) : spotCmp a b < 0 ↔ spotLt a b := by
  unfold spotCmp spotLt cmpI
  split <;> split <;> (try split) <;> (try split) <;> omega
theorem spotLt_irrefl (a : Spot) : ¬ spotLt a a := by unfold spotLt; omega
theorem spotLt_trans {a b c : Spot} (h : spotLt a b) (k : spotLt b c) : spotLt a c := by unfold spotLt at *; omega
theorem spotLt_total {a b : Spot} (h : ¬ spotLt a b) (k : ¬ spotLt b a) : a = b := by
  unfold spotLt at *; exact Prod.ext (by omega) (by omega)
theorem swo_spot : Swo spotCmp where
  irrefl x := by unfold Go.Proofs.ltOf; rw [decide_eq_false_iff_not, spotCmp_lt]; exact spotLt_irrefl x
  trans x y z := by unfold Go.Proofs.ltOf; rw [decide_eq_true_eq, decide_eq_true_eq, decide_eq_true_eq, spotCmp_lt, spotCmp_lt, spotCmp_lt]; exact spotLt_trans
  ntrans x y z := by unfold Go.Proofs.ltOf; rw [decide_eq_false_iff_not, decide_eq_false_iff_not, decide_eq_false_iff_not, spotCmp_lt, spotCmp_lt, spotCmp_lt]; unfold spotLt; omega
theorem order_ok (x y : Spot) : audit_order_W x y fun r => r = spotCmp x y := by
  unfold audit_order_W
  exact compare_ok (compare_ok (or_ok rfl))
/-! ### Neighbours that are alike, but one -/
def dd {α : Type} [DecidableEq α] (l : List α) : List α := l.foldl (fun s x => if s.getLast? = some x then s else s ++ [x]) []
section
variable {α : Type} [DecidableEq α]
theorem dd_snoc (l : List α) (x : α) : dd (l ++ [x]) = if (dd l).getLast? = some x then dd l else dd l ++ [x] := by unfold dd; rw [List.foldl_append]; rfl
theorem dd_last (l : List α) : (dd l).getLast? = l.getLast? := by
  rcases List.eq_nil_or_concat l with rfl | ⟨r, x, rfl⟩
  · rfl
  · rw [List.concat_eq_append, dd_snoc]; split
    · rename_i h; rw [h]; simp
    · simp
theorem snoc_ind {P : List α → Prop} (h0 : P []) (h1 : ∀ l x, P l → P (l ++ [x])) (l : List α) : P l := by
  have : ∀ n (l : List α), l.length = n → P l := by
    intro n
    induction n with
    | zero => intro l h; rw [List.length_eq_zero_iff.1 h]; exact h0
    | succ n ih =>
      intro l h
      rcases List.eq_nil_or_concat l with rfl | ⟨r, x, rfl⟩
      · cases h
      · rw [List.concat_eq_append] at h ⊢; exact h1 _ _ (ih r (by simpa using h))
  exact this _ l rfl
theorem dd_mem (l : List α) (x : α) : x ∈ dd l ↔ x ∈ l := by
  induction l using snoc_ind with
  | h0 => rfl
  | h1 l y ih =>
    rw [dd_snoc, List.mem_append, List.mem_singleton]
    split
    · rename_i h
      rw [ih]
      constructor
      · exact .inl
      · rintro (q | rfl)
        · exact q
        · rw [dd_last] at h; exact List.mem_of_getLast? h
    · rw [List.mem_append, ih, List.mem_singleton]
theorem dd_len (l : List α) : (dd l).length ≤ l.length := by
  induction l using snoc_ind with
  | h0 => exact Nat.le_refl _
  | h1 l y ih => rw [dd_snoc]; split <;> simp <;> omega
theorem dd_sorted {lt : α → α → Prop} (tot : ∀ a b, ¬ lt a b → ¬ lt b a → a = b) (tr : ∀ a b c, lt a b → lt b c → lt a c) (l : List α) (h : l.Pairwise fun x y => ¬ lt y x) : (dd l).Pairwise lt ∧ ∀ x ∈ dd l, ∀ y, l.getLast? = some y → x = y ∨ lt x y := by
  induction l using snoc_ind with
  | h0 => exact ⟨List.Pairwise.nil, fun x hx => absurd hx (by simp [dd])⟩
  | h1 l y ih =>
    rw [List.pairwise_append] at h
    obtain ⟨i1, i2⟩ := ih h.1
    have key : ∀ x ∈ dd l, x = y ∨ lt x y := by
      intro x hx
      have hx' := (dd_mem l x).1 hx
      have hn := h.2.2 x hx' y (by simp)
      by_cases e : lt x y
      · exact .inr e
      · exact .inl (tot _ _ e hn)
    rw [dd_snoc]
    refine ⟨?_, fun x hx z hz => ?_⟩
    · split
      · exact i1
      · rename_i hne
        rw [List.pairwise_append]
        refine ⟨i1, by simp, fun x hx z hz => ?_⟩
        rw [List.mem_singleton] at hz; subst hz
        rcases key x hx with rfl | e
        · exfalso
          have hl := dd_last l
          have hxl := (dd_mem l x).1 hx
          rcases hq : l.getLast? with _ | q
          · rw [List.getLast?_eq_none_iff] at hq; subst hq; cases hxl
          · have := i2 x hx q hq
            rcases this with rfl | e
            · rw [hl] at hne; exact hne hq
            · have hqm := List.mem_of_getLast? hq
              exact h.2.2 q hqm x (by simp) e
        · exact e
    · simp at hz; subst hz
      split at hx
      · exact key x hx
      · rw [List.mem_append, List.mem_singleton] at hx
        rcases hx with hx | rfl
        · exact key x hx
        · exact .inl rfl
end
theorem last_take {α : Type} {l : List α} {i : Nat} (h1 : 1 ≤ i) (h2 : i ≤ l.length) : (l.take i).getLast? = some (l[i - 1]'(by omega)) := by
  rw [List.getLast?_eq_getElem?, List.length_take, Nat.min_eq_left h2, List.getElem?_take, if_pos (by omega), List.getElem?_eq_getElem]
theorem dd_take {α : Type} [DecidableEq α] {l : List α} {i : Nat} (h1 : 1 ≤ i) (h2 : i < l.length) : dd (l.take (i + 1)) = if l[i - 1] = l[i] then dd (l.take i) else dd (l.take i) ++ [l[i]] := by
  rw [List.take_succ_eq_append_getElem h2, dd_snoc, dd_last, last_take h1 (by omega)]
  simp only [Option.some.injEq]
theorem loop_from {S : Type} {B : (S → Prop) → S → Prop} {s0 : S} (ix : S → Int) (i0 n : Nat) (I : Nat → S → Prop) (hx : ix s0 = i0) (hn : i0 ≤ n) (h0 : I i0 s0)
    (hB : ∀ (K : S → Prop) (i : Nat) (s : S), ix s = i → i ≤ n → I i s → (∀ (j : Nat) (s' : S), ix s' = j → i < j → j ≤ n → I j s' → K s') → B K s) : loopW B s0 := by
  refine ⟨fun q => ∃ j : Nat, ix q = j ∧ j ≤ n ∧ I j q, fun q => (n - ix q).toNat, ⟨i0, hx, hn, h0⟩, ?_⟩
  rintro s ⟨i, hi, hn, hI⟩
  exact hB _ i s hi hn hI fun j s' hj hij hj' hI' => ⟨⟨j, hj, hj', hI'⟩, by simp only; rw [hi, hj]; omega⟩
theorem gi_cut {α : Type} [Inhabited α] (l : List α) (i n j : Nat) (h : i + j < n) : gi (cut l (i : Int) (n : Int)) (j : Int) = gi l ((i + j : Nat) : Int) := by
  simp only [gi, cut, Int.toNat_natCast, List.getD_eq_getElem?_getD, List.getElem?_drop, List.getElem?_take]
  rw [if_pos h]
theorem gi_of {α : Type} [Inhabited α] {a b : List α} {p : Nat} (h : a[p]? = b[p]?) : gi a (p : Int) = gi b (p : Int) := by
  simp only [gi, Int.toNat_natCast, List.getD_eq_getElem?_getD, h]
theorem take_set {α : Type} {l : List α} {k : Nat} (h : k < l.length) (x : α) : (l.set k x).take (k + 1) = l.take k ++ [x] := by
  rw [List.set_eq_take_append_cons_drop, if_pos h, List.take_append, List.length_take, Nat.min_eq_left (by omega), List.take_of_length_le (by rw [List.length_take]; omega)]
  congr 1
  rw [show k + 1 - k = 1 by omega]; rfl
theorem cut_len {α : Type} (l : List α) (i n : Nat) (h : n ≤ l.length) : (cut l (i : Int) (n : Int)).length = n - i := by
  simp [cut]; omega

theorem compactS_ok {l : List Spot} {Q : List Spot → Prop} (hl : l.length ≤ 100000) (h : Q (dd l)) : slices_Compact_s_api_Spot_api_Spot_W l Q := by
  unfold slices_Compact_s_api_Spot_api_Spot_W
  refine ⟨fun c => ?_, fun c => ?_⟩
  · have : dd l = l := by
      rcases l with _ | ⟨a, _ | ⟨b, l⟩⟩
      · rfl
      · rfl
      · simp only [List.length_cons] at c; omega
    rw [this] at h; exact h
  · refine loop_from (fun s => s) 1 l.length (fun i _ => 1 ≤ i ∧ dd (l.take i) = l.take i) rfl (by omega) ⟨by omega, ?_⟩ ?_
    · rcases l with _ | ⟨a, l⟩
      · rfl
      · rfl
    · rintro K i _ rfl hi ⟨h1, hd⟩ hK
      show slices_Compact_s_api_Spot_api_Spot_l1 _ _ _ _
      unfold slices_Compact_s_api_Spot_api_Spot_l1
      have e1 : ((i : Int) - 1) = ((i - 1 : Nat) : Int) := by omega
      refine ⟨fun c1 => ?_, fun c1 => ?_⟩
      · have hi' : i < l.length := by omega
        have hs := dd_take h1 hi'
        rw [e1, gi_nat hi', gi_nat (show i - 1 < l.length by omega)]
        refine ⟨by (first | omega | (unfold I64; omega) | (simp only [List.length_append, List.length_cons, List.length_nil, List.length_take, List.length_drop] at *; omega) | (unfold I64; simp only [List.length_append, List.length_cons, List.length_nil, List.length_take, List.length_drop] at *; omega)), by (first | omega | (unfold I64; omega) | (simp only [List.length_append, List.length_cons, List.length_nil, List.length_take, List.length_drop] at *; omega) | (unfold I64; simp only [List.length_append, List.length_cons, List.length_nil, List.length_take, List.length_drop] at *; omega)), by (first | omega | (unfold I64; omega) | (simp only [List.length_append, List.length_cons, List.length_nil, List.length_take, List.length_drop] at *; omega) | (unfold I64; simp only [List.length_append, List.length_cons, List.length_nil, List.length_take, List.length_drop] at *; omega)), fun q => ⟨by (first | omega | (unfold I64; omega) | (simp only [List.length_append, List.length_cons, List.length_nil, List.length_take, List.length_drop] at *; omega) | (unfold I64; simp only [List.length_append, List.length_cons, List.length_nil, List.length_take, List.length_drop] at *; omega)), ?_⟩, fun q => ⟨by (first | omega | (unfold I64; omega) | (simp only [List.length_append, List.length_cons, List.length_nil, List.length_take, List.length_drop] at *; omega) | (unfold I64; simp only [List.length_append, List.length_cons, List.length_nil, List.length_take, List.length_drop] at *; omega)), hK (i + 1) _ rfl (by omega) (by omega) ⟨by omega, ?_⟩⟩⟩
        · rw [if_pos q.symm, hd] at hs
          refine loop_from (fun s => s.2.2) 1 (l.length - i) (fun j s => s.1.length = l.length ∧ ∃ k : Nat, s.2.1 = k ∧ k + 1 ≤ i + j ∧ i ≤ k ∧ s.1.take k = dd (l.take (i + j)) ∧ ∀ p, i + j ≤ p + 1 → s.1[p]? = l[p]?) rfl (by omega) ⟨rfl, i, rfl, by omega, by omega, hs.symm, fun _ _ => rfl⟩ ?_
          rintro K2 j ⟨l2, _, _⟩ rfl hj ⟨hl2, k, rfl, k1, k2, ht, hp⟩ hK2
          simp only at hl2 ht hp ⊢
          unfold slices_Compact_s_api_Spot_api_Spot_l3
          have ec := cut_len l2 i l.length (by omega)
          refine ⟨by (first | omega | (unfold I64; omega) | (simp only [List.length_append, List.length_cons, List.length_nil, List.length_take, List.length_drop] at *; omega) | (unfold I64; simp only [List.length_append, List.length_cons, List.length_nil, List.length_take, List.length_drop] at *; omega)), fun c2 => ?_, fun c2 => ?_⟩
          · rw [ec] at c2
            have hj' : i + j < l.length := by omega
            have e2 : ((j : Int) - 1) = ((j - 1 : Nat) : Int) := by omega
            have h1j : 1 ≤ j := by omega
            have hs2 := dd_take (show 1 ≤ i + j by omega) hj'
            rw [e2, gi_cut l2 i l.length j hj', gi_cut l2 i l.length (j - 1) (by omega), gi_of (hp _ (by omega)), gi_of (hp (i + (j - 1)) (by omega)), gi_nat hj', gi_nat (show i + (j - 1) < l.length by omega), ec]
            have e3 : l[i + (j - 1)]'(by omega) = l[i + j - 1]'(by omega) := by congr 1; omega
            rw [e3]
            refine ⟨by (first | omega | (unfold I64; omega) | (simp only [List.length_append, List.length_cons, List.length_nil, List.length_take, List.length_drop] at *; omega) | (unfold I64; simp only [List.length_append, List.length_cons, List.length_nil, List.length_take, List.length_drop] at *; omega)), by (first | omega | (unfold I64; omega) | (simp only [List.length_append, List.length_cons, List.length_nil, List.length_take, List.length_drop] at *; omega) | (unfold I64; simp only [List.length_append, List.length_cons, List.length_nil, List.length_take, List.length_drop] at *; omega)), by (first | omega | (unfold I64; omega) | (simp only [List.length_append, List.length_cons, List.length_nil, List.length_take, List.length_drop] at *; omega) | (unfold I64; simp only [List.length_append, List.length_cons, List.length_nil, List.length_take, List.length_drop] at *; omega)), fun q2 => ⟨by (first | omega | (unfold I64; omega) | (simp only [List.length_append, List.length_cons, List.length_nil, List.length_take, List.length_drop] at *; omega) | (unfold I64; simp only [List.length_append, List.length_cons, List.length_nil, List.length_take, List.length_drop] at *; omega)), by (first | omega | (unfold I64; omega) | (simp only [List.length_append, List.length_cons, List.length_nil, List.length_take, List.length_drop] at *; omega) | (unfold I64; simp only [List.length_append, List.length_cons, List.length_nil, List.length_take, List.length_drop] at *; omega)), by (first | omega | (unfold I64; omega) | (simp only [List.length_append, List.length_cons, List.length_nil, List.length_take, List.length_drop] at *; omega) | (unfold I64; simp only [List.length_append, List.length_cons, List.length_nil, List.length_take, List.length_drop] at *; omega)), hK2 (j + 1) _ rfl (by omega) (by omega) ⟨by simpa using hl2, k + 1, rfl, by omega, by omega, ?_, fun p hpp => ?_⟩⟩, fun q2 => ⟨by (first | omega | (unfold I64; omega) | (simp only [List.length_append, List.length_cons, List.length_nil, List.length_take, List.length_drop] at *; omega) | (unfold I64; simp only [List.length_append, List.length_cons, List.length_nil, List.length_take, List.length_drop] at *; omega)), hK2 (j + 1) _ rfl (by omega) (by omega) ⟨hl2, k, rfl, by omega, by omega, ?_, fun p hpp => hp p (by omega)⟩⟩⟩
            · show (l2.set (k : Int).toNat _).take (k + 1) = _
              rw [Int.toNat_natCast, take_set (by omega), ht, ← Nat.add_assoc, hs2, if_neg (fun q => q2 q.symm)]
            · show (l2.set (k : Int).toNat _)[p]? = _
              rw [Int.toNat_natCast, List.getElem?_set, if_neg (by omega)]; exact hp p (by omega)
            · rw [← Nat.add_assoc, hs2, if_pos q2.symm]; exact ht
          · rw [ec] at c2
            have hjl : i + j = l.length := by omega
            rw [hjl, List.take_length] at ht
            have hcl : (clr l2 (k : Int) (l2.length : Int)).length = l2.length := by simp [clr]; omega
            refine ⟨by (first | omega | (unfold I64; omega) | (simp only [List.length_append, List.length_cons, List.length_nil, List.length_take, List.length_drop] at *; omega) | (unfold I64; simp only [List.length_append, List.length_cons, List.length_nil, List.length_take, List.length_drop] at *; omega)), by (first | omega | (unfold I64; omega) | (simp only [List.length_append, List.length_cons, List.length_nil, List.length_take, List.length_drop] at *; omega) | (unfold I64; simp only [List.length_append, List.length_cons, List.length_nil, List.length_take, List.length_drop] at *; omega)), by rw [hcl]; (first | omega | (unfold I64; omega) | (simp only [List.length_append, List.length_cons, List.length_nil, List.length_take, List.length_drop] at *; omega) | (unfold I64; simp only [List.length_append, List.length_cons, List.length_nil, List.length_take, List.length_drop] at *; omega)), ?_⟩
            have : cut (clr l2 (k : Int) (l2.length : Int)) 0 (k : Int) = l2.take k := by
              rw [cut0n, clr, List.take_append, List.take_append]
              simp
              rw [List.take_of_length_le (by simp; omega)]
              have : k - (k + (l2.length - k)) = 0 := by omega
              simp [Nat.min_eq_left (show k ≤ l2.length by omega)]
            rw [this, ht]; exact h
        · rw [if_neg (fun e => q e.symm), hd] at hs
          rw [hs, List.take_succ_eq_append_getElem hi']
      · rw [List.take_of_length_le (by omega)] at hd
        rw [hd] at h; exact h

theorem compactI_ok {l : List Int} {Q : List Int → Prop} (hl : l.length ≤ 100000) (h : Q (dd l)) : slices_Compact_s_int_int_W l Q := by
  unfold slices_Compact_s_int_int_W
  refine ⟨fun c => ?_, fun c => ?_⟩
  · have : dd l = l := by
      rcases l with _ | ⟨a, _ | ⟨b, l⟩⟩
      · rfl
      · rfl
      · simp only [List.length_cons] at c; omega
    rw [this] at h; exact h
  · refine loop_from (fun s => s) 1 l.length (fun i _ => 1 ≤ i ∧ dd (l.take i) = l.take i) rfl (by omega) ⟨by omega, ?_⟩ ?_
    · rcases l with _ | ⟨a, l⟩
      · rfl
      · rfl
    · rintro K i _ rfl hi ⟨h1, hd⟩ hK
      show slices_Compact_s_int_int_l1 _ _ _ _
      unfold slices_Compact_s_int_int_l1
      have e1 : ((i : Int) - 1) = ((i - 1 : Nat) : Int) := by omega
      refine ⟨fun c1 => ?_, fun c1 => ?_⟩
      · have hi' : i < l.length := by omega
        have hs := dd_take h1 hi'
        rw [e1, gi_nat hi', gi_nat (show i - 1 < l.length by omega)]
        refine ⟨by (first | omega | (unfold I64; omega) | (simp only [List.length_append, List.length_cons, List.length_nil, List.length_take, List.length_drop] at *; omega) | (unfold I64; simp only [List.length_append, List.length_cons, List.length_nil, List.length_take, List.length_drop] at *; omega)), by (first | omega | (unfold I64; omega) | (simp only [List.length_append, List.length_cons, List.length_nil, List.length_take, List.length_drop] at *; omega) | (unfold I64; simp only [List.length_append, List.length_cons, List.length_nil, List.length_take, List.length_drop] at *; omega)), by (first | omega | (unfold I64; omega) | (simp only [List.length_append, List.length_cons, List.length_nil, List.length_take, List.length_drop] at *; omega) | (unfold I64; simp only [List.length_append, List.length_cons, List.length_nil, List.length_take, List.length_drop] at *; omega)), fun q => ⟨by (first | omega | (unfold I64; omega) | (simp only [List.length_append, List.length_cons, List.length_nil, List.length_take, List.length_drop] at *; omega) | (unfold I64; simp only [List.length_append, List.length_cons, List.length_nil, List.length_take, List.length_drop] at *; omega)), ?_⟩, fun q => ⟨by (first | omega | (unfold I64; omega) | (simp only [List.length_append, List.length_cons, List.length_nil, List.length_take, List.length_drop] at *; omega) | (unfold I64; simp only [List.length_append, List.length_cons, List.length_nil, List.length_take, List.length_drop] at *; omega)), hK (i + 1) _ rfl (by omega) (by omega) ⟨by omega, ?_⟩⟩⟩
        · rw [if_pos q.symm, hd] at hs
          refine loop_from (fun s => s.2.2) 1 (l.length - i) (fun j s => s.1.length = l.length ∧ ∃ k : Nat, s.2.1 = k ∧ k + 1 ≤ i + j ∧ i ≤ k ∧ s.1.take k = dd (l.take (i + j)) ∧ ∀ p, i + j ≤ p + 1 → s.1[p]? = l[p]?) rfl (by omega) ⟨rfl, i, rfl, by omega, by omega, hs.symm, fun _ _ => rfl⟩ ?_
          rintro K2 j ⟨l2, _, _⟩ rfl hj ⟨hl2, k, rfl, k1, k2, ht, hp⟩ hK2
          simp only at hl2 ht hp ⊢
          unfold slices_Compact_s_int_int_l3
          have ec := cut_len l2 i l.length (by omega)
          refine ⟨by (first | omega | (unfold I64; omega) | (simp only [List.length_append, List.length_cons, List.length_nil, List.length_take, List.length_drop] at *; omega) | (unfold I64; simp only [List.length_append, List.length_cons, List.length_nil, List.length_take, List.length_drop] at *; omega)), fun c2 => ?_, fun c2 => ?_⟩
          · rw [ec] at c2
            have hj' : i + j < l.length := by omega
            have e2 : ((j : Int) - 1) = ((j - 1 : Nat) : Int) := by omega
            have h1j : 1 ≤ j := by omega
            have hs2 := dd_take (show 1 ≤ i + j by omega) hj'
            rw [e2, gi_cut l2 i l.length j hj', gi_cut l2 i l.length (j - 1) (by omega), gi_of (hp _ (by omega)), gi_of (hp (i + (j - 1)) (by omega)), gi_nat hj', gi_nat (show i + (j - 1) < l.length by omega), ec]
            have e3 : l[i + (j - 1)]'(by omega) = l[i + j - 1]'(by omega) := by congr 1; omega
            rw [e3]
            refine ⟨by (first | omega | (unfold I64; omega) | (simp only [List.length_append, List.length_cons, List.length_nil, List.length_take, List.length_drop] at *; omega) | (unfold I64; simp only [List.length_append, List.length_cons, List.length_nil, List.length_take, List.length_drop] at *; omega)), by (first | omega | (unfold I64; omega) | (simp only [List.length_append, List.length_cons, List.length_nil, List.length_take, List.length_drop] at *; omega) | (unfold I64; simp only [List.length_append, List.length_cons, List.length_nil, List.length_take, List.length_drop] at *; omega)), by (first | omega | (unfold I64; omega) | (simp only [List.length_append, List.length_cons, List.length_nil, List.length_take, List.length_drop] at *; omega) | (unfold I64; simp only [List.length_append, List.length_cons, List.length_nil, List.length_take, List.length_drop] at *; omega)), fun q2 => ⟨by (first | omega | (unfold I64; omega) | (simp only [List.length_append, List.length_cons, List.length_nil, List.length_take, List.length_drop] at *; omega) | (unfold I64; simp only [List.length_append, List.length_cons, List.length_nil, List.length_take, List.length_drop] at *; omega)), by (first | omega | (unfold I64; omega) | (simp only [List.length_append, List.length_cons, List.length_nil, List.length_take, List.length_drop] at *; omega) | (unfold I64; simp only [List.length_append, List.length_cons, List.length_nil, List.length_take, List.length_drop] at *; omega)), by (first | omega | (unfold I64; omega) | (simp only [List.length_append, List.length_cons, List.length_nil, List.length_take, List.length_drop] at *; omega) | (unfold I64; simp only [List.length_append, List.length_cons, List.length_nil, List.length_take, List.length_drop] at *; omega)), hK2 (j + 1) _ rfl (by omega) (by omega) ⟨by simpa using hl2, k + 1, rfl, by omega, by omega, ?_, fun p hpp => ?_⟩⟩, fun q2 => ⟨by (first | omega | (unfold I64; omega) | (simp only [List.length_append, List.length_cons, List.length_nil, List.length_take, List.length_drop] at *; omega) | (unfold I64; simp only [List.length_append, List.length_cons, List.length_nil, List.length_take, List.length_drop] at *; omega)), hK2 (j + 1) _ rfl (by omega) (by omega) ⟨hl2, k, rfl, by omega, by omega, ?_, fun p hpp => hp p (by omega)⟩⟩⟩
            · show (l2.set (k : Int).toNat _).take (k + 1) = _
              rw [Int.toNat_natCast, take_set (by omega), ht, ← Nat.add_assoc, hs2, if_neg (fun q => q2 q.symm)]
            · show (l2.set (k : Int).toNat _)[p]? = _
              rw [Int.toNat_natCast, List.getElem?_set, if_neg (by omega)]; exact hp p (by omega)
            · rw [← Nat.add_assoc, hs2, if_pos q2.symm]; exact ht
          · rw [ec] at c2
            have hjl : i + j = l.length := by omega
            rw [hjl, List.take_length] at ht
            have hcl : (clr l2 (k : Int) (l2.length : Int)).length = l2.length := by simp [clr]; omega
            refine ⟨by (first | omega | (unfold I64; omega) | (simp only [List.length_append, List.length_cons, List.length_nil, List.length_take, List.length_drop] at *; omega) | (unfold I64; simp only [List.length_append, List.length_cons, List.length_nil, List.length_take, List.length_drop] at *; omega)), by (first | omega | (unfold I64; omega) | (simp only [List.length_append, List.length_cons, List.length_nil, List.length_take, List.length_drop] at *; omega) | (unfold I64; simp only [List.length_append, List.length_cons, List.length_nil, List.length_take, List.length_drop] at *; omega)), by rw [hcl]; (first | omega | (unfold I64; omega) | (simp only [List.length_append, List.length_cons, List.length_nil, List.length_take, List.length_drop] at *; omega) | (unfold I64; simp only [List.length_append, List.length_cons, List.length_nil, List.length_take, List.length_drop] at *; omega)), ?_⟩
            have : cut (clr l2 (k : Int) (l2.length : Int)) 0 (k : Int) = l2.take k := by
              rw [cut0n, clr, List.take_append, List.take_append]
              simp
              rw [List.take_of_length_le (by simp; omega)]
              have : k - (k + (l2.length - k)) = 0 := by omega
              simp [Nat.min_eq_left (show k ≤ l2.length by omega)]
            rw [this, ht]; exact h
        · rw [if_neg (fun e => q e.symm), hd] at hs
          rw [hs, List.take_succ_eq_append_getElem hi']
      · rw [List.take_of_length_le (by omega)] at hd
        rw [hd] at h; exact h

end Go.Wk
