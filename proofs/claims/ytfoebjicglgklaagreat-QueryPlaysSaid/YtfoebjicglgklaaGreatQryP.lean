/- Plain words for one law: what it needs. -/
import Derived.Test.YtfoebjicglgklaaGreatQryW4
import Derived.Test.YtfoebjicglgklaaGreatPl2
set_option linter.unusedSimpArgs false
set_option linter.unusedVariables false
set_option linter.unusedSectionVars false
namespace Go.Wk
open Go.HL
variable [DM]
abbrev Ad := TA
theorem scmp_cons (a b : UInt8) (x y : Str) : scmp (a :: x) (b :: y) = if a < b then -1 else if b < a then 1 else scmp x y := by
  unfold scmp; rw [Lib.compareBytes]
theorem scmp_refl : ∀ a : Str, scmp a a = 0
  | [] => rfl
  | a :: x => by rw [scmp_cons, if_neg (UInt8.lt_irrefl a), if_neg (UInt8.lt_irrefl a), scmp_refl x]
theorem u8_tri {a b : UInt8} (h : ¬ a < b) (k : ¬ b < a) : a = b := by
  rw [UInt8.lt_iff_toNat_lt] at h k; exact UInt8.toNat_inj.1 (by omega)
theorem scmp_eq : ∀ a b : Str, scmp a b = 0 → a = b
  | [], [], _ => rfl
  | [], _ :: _, h => by simp [scmp, Lib.compareBytes] at h
  | _ :: _, [], h => by simp [scmp, Lib.compareBytes] at h
  | a :: x, b :: y, h => by
    rw [scmp_cons] at h
    split at h
    · omega
    · split at h
      · omega
      · rename_i p q; rw [u8_tri p q, scmp_eq x y h]
theorem scmp_flip : ∀ a b : Str, scmp b a = - scmp a b
  | [], [] => rfl
  | [], _ :: _ => rfl
  | _ :: _, [] => rfl
  | a :: x, b :: y => by
    rw [scmp_cons, scmp_cons, scmp_flip x y]
    have : a < b → ¬ b < a := fun h k => by rw [UInt8.lt_iff_toNat_lt] at h k; omega
    by_cases p : a < b
    · rw [if_pos p, if_neg (this p), if_pos p]; rfl
    · by_cases q : b < a
      · rw [if_pos q, if_neg p, if_pos q]
      · rw [if_neg q, if_neg p, if_neg p, if_neg q]
theorem scmp_trans : ∀ a b c : Str, scmp a b < 0 → scmp b c < 0 → scmp a c < 0
  | [], [], _, h, _ => absurd h (by decide)
  | _, [], [], _, h => absurd h (by decide)
  | [], _ :: _, [], _, h => by simp [scmp, Lib.compareBytes] at h
  | [], _ :: _, _ :: _, _, _ => by simp [scmp, Lib.compareBytes]
  | _ :: _, [], _, h, _ => by simp [scmp, Lib.compareBytes] at h
  | _ :: _, _ :: _, [], _, h => by simp [scmp, Lib.compareBytes] at h
  | a :: x, b :: y, c :: z, h, k => by
    rw [scmp_cons] at h k ⊢
    by_cases p : a < b
    · by_cases q : b < c
      · rw [if_pos (by rw [UInt8.lt_iff_toNat_lt] at *; omega)]; decide
      · rw [if_neg q] at k
        by_cases r : c < b
        · rw [if_pos r] at k; omega
        · have := u8_tri q r; subst this; rw [if_pos p]; decide
    · rw [if_neg p] at h
      by_cases q : b < a
      · rw [if_pos q] at h; omega
      · rw [if_neg q] at h
        have := u8_tri p q; subst this
        by_cases r : a < c
        · rw [if_pos r]; decide
        · rw [if_neg r] at k ⊢
          by_cases s : c < a
          · rw [if_pos s] at k; omega
          · rw [if_neg s] at k ⊢; exact scmp_trans x y z h k
theorem scmp_take : ∀ (i : Nat) (x y : Str), x.take i = y.take i → i ≤ x.length → i ≤ y.length → scmp x y = scmp (x.drop i) (y.drop i)
  | 0, _, _, _, _, _ => rfl
  | i + 1, [], _, _, h, _ => by simp at h
  | i + 1, _ :: _, [], _, _, h => by simp at h
  | i + 1, a :: x, b :: y, h, h1, h2 => by
    simp only [List.take_succ_cons, List.cons.injEq] at h
    obtain ⟨rfl, h⟩ := h
    rw [scmp_cons, if_neg (UInt8.lt_irrefl a), if_neg (UInt8.lt_irrefl a)]
    exact scmp_take i x y h (by simpa using h1) (by simpa using h2)
def aw (a : Ad) : Nat := if a.1 then 16 else 4
def ak (a : Ad) : Str := (if a.1 then 1 else 0) :: a.2.1.take (aw a)
def aCmp (a b : Ad) : Int := scmp (ak a) (ak b)
def aGood (a : Ad) : Bool := a.1 || decide (a.2.1.drop 4 = List.replicate 12 0)
def aLt (a b : Ad) : Prop := aCmp a b < 0
theorem aLt_irrefl (a : Ad) : ¬ aLt a a := by unfold aLt aCmp; rw [scmp_refl]; omega
theorem aLt_trans (a b c : Ad) : aLt a b → aLt b c → aLt a c := scmp_trans _ _ _
theorem aCmp_flip (a b : Ad) : aCmp b a = - aCmp a b := scmp_flip _ _
theorem aCmp_refl (a : Ad) : aCmp a a = 0 := scmp_refl _
theorem aCmp_eq {a b : Ad} (ha : aGood a = true) (hb : aGood b = true) (h : aCmp a b = 0) : a = b := by
  have h := scmp_eq _ _ h
  unfold ak aw at h
  rw [List.cons.injEq] at h
  obtain ⟨h1, h2⟩ := h
  obtain ⟨va, ⟨la, la16⟩⟩ := a
  obtain ⟨vb, ⟨lb, lb16⟩⟩ := b
  simp only at h1 h2
  have hv : va = vb := by cases va <;> cases vb <;> simp_all
  subst hv
  cases va
  · simp only [aGood, Bool.false_or, decide_eq_true_eq] at ha hb
    simp only [Bool.false_eq_true, if_false] at h2
    have : la = lb := by rw [← List.take_append_drop 4 la, ← List.take_append_drop 4 lb, h2, ha, hb]
    subst this; rfl
  · simp only [if_true] at h2
    rw [List.take_of_length_le (by omega), List.take_of_length_le (by omega)] at h2
    subst h2; rfl
theorem cmpP_ok {a b : Ad} {Q : Int → Prop} (h : Q (aCmp a b)) : addr_Cmp_W a b Q := by
  obtain ⟨va, ⟨la, la16⟩⟩ := a
  obtain ⟨vb, ⟨lb, lb16⟩⟩ := b
  unfold aCmp ak aw at h
  unfold addr_Cmp_W addr_Cmp_j2 addr_Cmp_j1 addr_bytes_W
  cases va <;> cases vb <;> simp [scmp_cons, cut] at h ⊢ <;> exact h
theorem scmp_at {x y : Str} {i : Nat} (h : x.take i = y.take i) (h1 : i < x.length) (h2 : i < y.length) : scmp x y = if x[i] < y[i] then -1 else if y[i] < x[i] then 1 else scmp (x.drop (i + 1)) (y.drop (i + 1)) := by
  rw [scmp_take i x y h (by omega) (by omega), List.drop_eq_getElem_cons h1, List.drop_eq_getElem_cons h2, scmp_cons]
theorem b8_at {n : Nat} (x : Ba n) {i : Nat} (h : i < n) : b8 x (i : Int) = ((x.1[i]'(by rw [x.2]; exact h)).toNat : Int) := by
  unfold b8; rw [gi_nat (by rw [x.2]; exact h)]
theorem u8lt {a b : UInt8} : ((a.toNat : Nat) : Int) < (b.toNat : Int) ↔ a < b := by rw [UInt8.lt_iff_toNat_lt]; omega
theorem cmpR_ok {a b : Ad} {Q : Int → Prop} (h : Q (aCmp a b)) : ref03_Cmp_W a b Q := by
  unfold ref03_Cmp_W
  refine ⟨fun c => ⟨fun d => ?_, fun d => ?_⟩, fun c => ?_⟩
  · have : a.1 = false := by simp [d] at c; exact c
    have e : aCmp a b = -1 := by unfold aCmp ak; rw [this, d]; rfl
    rw [e] at h; exact h
  · have : a.1 = true := by simp [d] at c; exact c
    have e : aCmp a b = 1 := by unfold aCmp ak; rw [this, d]; rfl
    rw [e] at h; exact h
  · have hv : a.1 = b.1 := by simpa using c
    have e : aCmp a b = scmp (a.2.1.take (aw a)) (b.2.1.take (aw b)) := by
      unfold aCmp ak; rw [hv, scmp_cons, if_neg (UInt8.lt_irrefl _), if_neg (UInt8.lt_irrefl _)]
    have hw : aw b = aw a := by unfold aw; rw [hv]
    have hw16 : aw a ≤ 16 := by unfold aw; split <;> omega
    have hla : (a.2.1.take (aw a)).length = aw a := by rw [List.length_take, a.2.2]; omega
    have hlb : (b.2.1.take (aw a)).length = aw a := by rw [List.length_take, b.2.2]; omega
    rw [e, hw] at h
    have hend : ∀ i, i = aw a → a.2.1.take i = b.2.1.take i → Q 0 := by
      rintro i rfl hi
      rw [hi, scmp_refl] at h; exact h
    refine loop_up1 (aw a) (fun i => a.2.1.take i = b.2.1.take i) (by simp) fun K i hi hI hK => ?_
    show ref03_Cmp_l1 _ _ _ _ _
    have step : i < aw a → ref03_Cmp_j1 a b Q (i : Int) K := by
      intro hlt
      have h16 : i < 16 := by omega
      unfold ref03_Cmp_j1
      rw [b8_at a.2 h16, b8_at b.2 h16]
      have hx : (a.2.1.take (aw a)).take i = (b.2.1.take (aw a)).take i := by rw [List.take_take, List.take_take, Nat.min_eq_left (by omega)]; exact hI
      have hc := scmp_at hx (by omega) (by omega)
      rw [List.getElem_take, List.getElem_take] at hc
      refine ⟨by (first | omega | (unfold I64; omega) | (simp only [List.length_append, List.length_cons, List.length_nil, List.length_take, List.length_drop] at *; omega) | (unfold I64; simp only [List.length_append, List.length_cons, List.length_nil, List.length_take, List.length_drop] at *; omega)), fun q => ?_, fun q => ⟨fun r => ?_, fun r => ⟨by (first | omega | (unfold I64; omega) | (simp only [List.length_append, List.length_cons, List.length_nil, List.length_take, List.length_drop] at *; omega) | (unfold I64; simp only [List.length_append, List.length_cons, List.length_nil, List.length_take, List.length_drop] at *; omega)), hK (i + 1) (by omega) (by omega) ?_⟩⟩⟩
      · rw [hc, if_pos (u8lt.1 q)] at h; exact h
      · rw [hc, if_neg (fun k => q (u8lt.2 k)), if_pos (u8lt.1 r)] at h; exact h
      · rw [List.take_succ_eq_append_getElem (by rw [a.2.2]; omega), List.take_succ_eq_append_getElem (by rw [b.2.2]; omega), hI, u8_tri (fun k => q (u8lt.2 k)) (fun k => r (u8lt.2 k))]
    unfold ref03_Cmp_l1
    have hwt : a.1 = true → aw a = 16 := fun q => by unfold aw; rw [q]; rfl
    have hwf : a.1 = false → aw a = 4 := fun q => by unfold aw; rw [q]; rfl
    refine ⟨fun q => ⟨fun r => step (by have := hwt r; omega), fun r => ⟨fun s => step (by have := hwf r; omega), fun s => hend i (by have := hwf r; omega) hI⟩⟩, fun q => hend i (by omega) hI⟩
theorem goodR_ok {a : Ad} {Q : Bool → Prop} (h : Q (aGood a)) : ref03_Good_W a Q := by
  refine loop_from (s0 := (4 : Int)) (fun s => s) 4 16 (fun i _ => 4 ≤ i ∧ (a.1 = false → ∀ k (hk : k < 16), 4 ≤ k → k < i → a.2.1[k]'(by rw [a.2.2]; exact hk) = 0)) rfl (by omega) ⟨by omega, fun _ k _ h1 h2 => by omega⟩ ?_
  rintro K i _ rfl hi ⟨h4, hz⟩ hK
  show ref03_Good_l1 _ _ _ _
  unfold ref03_Good_l1
  refine ⟨fun c => ⟨fun d => ⟨by (first | omega | (unfold I64; omega) | (simp only [List.length_append, List.length_cons, List.length_nil, List.length_take, List.length_drop] at *; omega) | (unfold I64; simp only [List.length_append, List.length_cons, List.length_nil, List.length_take, List.length_drop] at *; omega)), fun q => ?_, fun q => ⟨by (first | omega | (unfold I64; omega) | (simp only [List.length_append, List.length_cons, List.length_nil, List.length_take, List.length_drop] at *; omega) | (unfold I64; simp only [List.length_append, List.length_cons, List.length_nil, List.length_take, List.length_drop] at *; omega)), hK (i + 1) _ rfl (by omega) (by omega) ⟨by omega, fun v k hk h1 h2 => ?_⟩⟩⟩, fun d => ⟨by (first | omega | (unfold I64; omega) | (simp only [List.length_append, List.length_cons, List.length_nil, List.length_take, List.length_drop] at *; omega) | (unfold I64; simp only [List.length_append, List.length_cons, List.length_nil, List.length_take, List.length_drop] at *; omega)), hK (i + 1) _ rfl (by omega) (by omega) ⟨by omega, fun v => by simp [v] at d⟩⟩⟩, fun c => ?_⟩
  · have hi16 : i < 16 := by omega
    rw [b8_at a.2 hi16] at q
    have : aGood a = false := by
      have hv : a.1 = false := by simpa using d
      unfold aGood; rw [hv, Bool.false_or, decide_eq_false_iff_not]
      intro e
      have h5 : (a.2.1.drop 4)[i - 4]? = (List.replicate 12 (0 : UInt8))[i - 4]? := by rw [e]
      rw [List.getElem?_drop, show 4 + (i - 4) = i by omega, List.getElem?_eq_getElem (by rw [a.2.2]; exact hi16), List.getElem?_replicate, if_pos (by omega)] at h5
      simp only [Option.some.injEq] at h5
      rw [h5] at q; exact q rfl
    rw [this] at h; exact h
  · by_cases e : k < i
    · exact hz v k hk h1 e
    · have : k = i := by omega
      subst this
      rw [b8_at a.2 hk] at q
      exact UInt8.toNat_inj.1 (by show _ = 0; omega)
  · have : aGood a = true := by
      unfold aGood
      cases hv : a.1 with
      | true => rfl
      | false =>
        rw [Bool.false_or, decide_eq_true_eq]
        apply List.ext_getElem
        · rw [List.length_drop, a.2.2, List.length_replicate]
        · intro k h1 h2
          rw [List.length_replicate] at h2
          rw [List.getElem_drop, List.getElem_replicate]
          exact hz hv (4 + k) (by omega) (by omega) (by omega)
    rw [this] at h; exact h
theorem goodP_ok {a : Ad} {Q : Bool → Prop} (h : Q (aGood a)) : addr_Good_W a Q := by
  unfold addr_Good_W
  refine ⟨fun v => ?_, fun v => ?_⟩
  · unfold aGood at h; rw [v] at h; exact h
  · refine ⟨b8_rng _ _, b8_rng _ _, b8_rng _ _, b8_rng _ _, ?_⟩
    have e : decide ((a : TA) = (false, mkB 16 [b8 a.2 0, b8 a.2 1, b8 a.2 2, b8 a.2 3, 0, 0, 0, 0, 0, 0, 0, 0, 0, 0, 0, 0])) = aGood a := by
      have hm : (mkB 16 [b8 a.2 0, b8 a.2 1, b8 a.2 2, b8 a.2 3, 0, 0, 0, 0, 0, 0, 0, 0, 0, 0, 0, 0]).1 = a.2.1.take 4 ++ List.replicate 12 0 := by
        have hl := a.2.2
        apply List.ext_getElem
        · rw [(mkB 16 _).2, List.length_append, List.length_take, hl, List.length_replicate]; rfl
        · intro i h1 h2
          rw [(mkB 16 _).2] at h1
          have k0 : ∀ j, j < 4 → ∀ (hj : j < a.2.1.length), UInt8.ofNat (b8 a.2 (j : Int)).toNat = a.2.1[j] := by
            intro j hj hj'
            rw [b8_at a.2 (by omega), Int.toNat_natCast, UInt8.ofNat_toNat]
          simp only [mkB, List.getElem_map, List.getElem_range]
          by_cases hi : i < 4
          · rw [List.getElem_append_left (by rw [List.length_take, hl]; omega), List.getElem_take]
            rw [← k0 i hi (by omega)]
            congr 2
            rcases i with _ | _ | _ | _ | i
            · rfl
            · rfl
            · rfl
            · rfl
            · omega
          · rw [List.getElem_append_right (by rw [List.length_take, hl]; omega), List.getElem_replicate]
            have : ([b8 a.2 0, b8 a.2 1, b8 a.2 2, b8 a.2 3, 0, 0, 0, 0, 0, 0, 0, 0, 0, 0, 0, 0] : List Int).getD i 0 = 0 := by
              rw [show i = 4 + (i - 4) by omega]
              rcases hq : i - 4 with _ | _ | _ | _ | _ | _ | _ | _ | _ | _ | _ | _ | q
              all_goals first | rfl | omega
            rw [this]; rfl
      unfold aGood
      rw [v, Bool.false_or]
      apply decide_eq_decide.2
      constructor
      · intro e
        have h2 : a.2.1 = a.2.1.take 4 ++ List.replicate 12 0 := by rw [← hm]; exact congrArg (fun x : Ad => x.2.1) e
        have h3 : (a.2.1.take 4).length = 4 := by rw [List.length_take, a.2.2]; rfl
        rw [h2, List.drop_append, h3, List.drop_of_length_le (by omega)]; rfl
      · intro e
        have h2 : a.2.1 = a.2.1.take 4 ++ List.replicate 12 0 := by rw [← e, List.take_append_drop]
        exact Prod.ext v (Subtype.ext (h2.trans hm.symm))
    show Q _
    rw [e]; exact h
structure ASet (l : List Ad) : Prop where
  rise : l.Pairwise aLt
  good : ∀ x ∈ l, aGood x = true
theorem ASet.nil : ASet [] := ⟨List.Pairwise.nil, by simp⟩
theorem ASet.ext {l m : List Ad} (hl : ASet l) (hm : ASet m) (h : ∀ x, x ∈ l ↔ x ∈ m) : l = m := rise_ext aLt_irrefl aLt_trans hl.rise hm.rise h
theorem ASet.filter {l : List Ad} (hl : ASet l) (p : Ad → Bool) : ASet (l.filter p) := ⟨filter_rise p hl.rise, fun x hx => hl.good x (List.mem_filter.1 hx).1⟩
def ins (l : List Ad) (a : Ad) : List Ad := if a ∈ l ∨ aGood a = false then l else (l.takeWhile fun x => decide (aCmp x a < 0)) ++ a :: l.dropWhile fun x => decide (aCmp x a < 0)
theorem mem_ins {l : List Ad} {a x : Ad} : x ∈ ins l a ↔ x ∈ l ∨ (x = a ∧ aGood a = true) := by
  unfold ins
  split
  · rename_i h
    constructor
    · exact .inl
    · rintro (q | ⟨rfl, q⟩)
      · exact q
      · rcases h with h | h
        · exact h
        · rw [h] at q; cases q
  · rename_i h
    have hg : aGood a = true := by cases hq : aGood a with
      | true => rfl
      | false => exact absurd (.inr hq) h
    have ht : l = (l.takeWhile fun x => decide (aCmp x a < 0)) ++ l.dropWhile fun x => decide (aCmp x a < 0) := (List.takeWhile_append_dropWhile).symm
    rw [List.mem_append, List.mem_cons]
    constructor
    · rintro (q | rfl | q)
      · left; rw [ht]; exact List.mem_append_left _ q
      · exact .inr ⟨rfl, hg⟩
      · left; rw [ht]; exact List.mem_append_right _ q
    · rintro (q | ⟨rfl, _⟩)
      · rw [ht, List.mem_append] at q
        rcases q with q | q
        · exact .inl q
        · exact .inr (.inr q)
      · exact .inr (.inl rfl)
theorem ins_len (l : List Ad) (a : Ad) : (ins l a).length ≤ l.length + 1 := by
  unfold ins
  split
  · omega
  · have := congrArg List.length (List.takeWhile_append_dropWhile (p := fun x => decide (aCmp x a < 0)) (l := l))
    rw [List.length_append] at this ⊢; rw [List.length_cons]; omega
theorem ASet.ins {l : List Ad} (hl : ASet l) (a : Ad) : ASet (ins l a) := by
  refine ⟨?_, fun x hx => ?_⟩
  · unfold Wk.ins
    split
    · exact hl.rise
    · rename_i h
      have ht : (l.takeWhile fun x => decide (aCmp x a < 0)) ++ (l.dropWhile fun x => decide (aCmp x a < 0)) = l := List.takeWhile_append_dropWhile
      have hr := hl.rise
      rw [← ht, List.pairwise_append] at hr
      have hg : aGood a = true := by cases hq : aGood a with
        | true => rfl
        | false => exact absurd (.inr hq) h
      have hd : ∀ y ∈ (l.dropWhile fun x => decide (aCmp x a < 0)), aLt a y := by
        intro y hy
        have hyl : y ∈ l := by rw [← ht]; exact List.mem_append_right _ hy
        have hne : aCmp y a ≠ 0 := fun e => h (.inl (by rw [← aCmp_eq (hl.good y hyl) hg e]; exact hyl))
        have hfirst : ¬ aCmp y a < 0 := by
          rcases hd : (l.dropWhile fun x => decide (aCmp x a < 0)) with _ | ⟨z, r⟩
          · rw [hd] at hy; cases hy
          · have hz : ¬ aCmp z a < 0 := by
              have := List.head_dropWhile_not (p := fun x => decide (aCmp x a < 0)) (l := l) (by rw [hd]; simp)
              simp only [hd, List.head_cons, decide_eq_false_iff_not] at this; exact this
            rw [hd] at hy
            rcases List.mem_cons.1 hy with rfl | hy
            · exact hz
            · have h1 := hr.2.1; rw [hd, List.pairwise_cons] at h1
              have h2 := h1.1 y hy
              intro h3
              exact hz (aLt_trans _ _ _ h2 h3)
        have := aCmp_flip y a
        show aCmp a y < 0
        omega
      have htk : ∀ x ∈ (l.takeWhile fun x => decide (aCmp x a < 0)), aLt x a := fun x hx => by
        have := List.all_eq_true.1 (List.all_takeWhile (p := fun x => decide (aCmp x a < 0)) (l := l)) x hx
        show aCmp x a < 0
        exact of_decide_eq_true this
      rw [List.pairwise_append, List.pairwise_cons]
      refine ⟨hr.1, ⟨hd, hr.2.1⟩, fun x hx y hy => ?_⟩
      rcases List.mem_cons.1 hy with rfl | hy
      · exact htk x hx
      · exact hr.2.2 x hx y hy
  · rcases mem_ins.1 hx with hx | ⟨rfl, hx⟩
    · exact hl.good x hx
    · exact hx
def ofL (l : List Ad) : List Ad := l.foldl ins []
theorem ofL_snoc (l : List Ad) (a : Ad) : ofL (l ++ [a]) = ins (ofL l) a := by unfold ofL; rw [List.foldl_append]; rfl
theorem ofL_set (l : List Ad) : ASet (ofL l) := by
  induction l using snoc_ind with
  | h0 => exact ASet.nil
  | h1 l a ih => rw [ofL_snoc]; exact ih.ins a
theorem mem_ofL {l : List Ad} {x : Ad} : x ∈ ofL l ↔ x ∈ l ∧ aGood x = true := by
  induction l using snoc_ind with
  | h0 => simp [ofL]
  | h1 l a ih =>
    rw [ofL_snoc, mem_ins, ih, List.mem_append, List.mem_singleton]
    constructor
    · rintro (⟨p, q⟩ | ⟨rfl, q⟩)
      · exact ⟨.inl p, q⟩
      · exact ⟨.inr rfl, q⟩
    · rintro ⟨p | rfl, q⟩
      · exact .inl ⟨p, q⟩
      · exact .inr ⟨rfl, q⟩
theorem ofL_len (l : List Ad) : (ofL l).length ≤ l.length := by
  induction l using snoc_ind with
  | h0 => exact Nat.le_refl _
  | h1 l a ih => rw [ofL_snoc, List.length_append]; have := ins_len (ofL l) a; simp only [List.length_cons, List.length_nil]; omega
def aIn (b : List Ad) (x : Ad) : Bool := decide (x ∈ b)
theorem addrs_ok {l : List Ad} {Q : List Ad → Prop} (h : Q (l.take 5)) : law08_Addrs_W l 5 Q := by
  refine loop_up l.length (fun i s => s = l.take i ∧ i ≤ 5) ⟨rfl, by omega⟩ fun K i s hi ⟨hs, h8⟩ hK => ?_
  have e : s.length = i := by rw [hs, List.length_take]; omega
  have te : ∀ (h : ¬ (i < l.length ∧ i < 5)), l.take i = l.take 5 := by
    intro h
    by_cases q : i = 5
    · rw [q]
    · rw [List.take_of_length_le (by omega), List.take_of_length_le (by omega)]
  show law08_Addrs_l1 _ _ _ _ _ _
  unfold law08_Addrs_l1 law08_Addrs_j1
  refine ⟨fun h1 => ⟨fun h2 => ⟨by (first | omega | (unfold I64; omega) | (simp only [List.length_append, List.length_cons, List.length_nil, List.length_take, List.length_drop] at *; omega) | (unfold I64; simp only [List.length_append, List.length_cons, List.length_nil, List.length_take, List.length_drop] at *; omega)), by (first | omega | (unfold I64; omega) | (simp only [List.length_append, List.length_cons, List.length_nil, List.length_take, List.length_drop] at *; omega) | (unfold I64; simp only [List.length_append, List.length_cons, List.length_nil, List.length_take, List.length_drop] at *; omega)), by (first | omega | (unfold I64; omega) | (simp only [List.length_append, List.length_cons, List.length_nil, List.length_take, List.length_drop] at *; omega) | (unfold I64; simp only [List.length_append, List.length_cons, List.length_nil, List.length_take, List.length_drop] at *; omega)), hK (i + 1) _ (by omega) (by omega) ⟨?_, ?_⟩⟩, fun h2 => ?_⟩, fun h1 => ⟨fun h => (by cases h), fun _ => ?_⟩⟩
  · rw [hs, gi_nat (by omega), List.take_succ_eq_append_getElem (by omega)]
  · have := of_decide_eq_true h2; omega
  · have := of_decide_eq_false h2; rw [hs, te (by omega)]; exact h
  · rw [hs, te (by omega)]; exact h
theorem hasR_ok {l : List Ad} {a : Ad} {Q : Bool → Prop} (hl : l.length ≤ 1000000) (h : Q (aIn l a)) : ref11_Has_W l a Q := by
  refine loop_up1 l.length (fun i => a ∉ l.take i) (by simp) fun K i hi hI hK => ?_
  show ref11_Has_l1 _ _ _ _ _
  unfold ref11_Has_l1
  refine ⟨fun c => ⟨by (first | omega | (unfold I64; omega) | (simp only [List.length_append, List.length_cons, List.length_nil, List.length_take, List.length_drop] at *; omega) | (unfold I64; simp only [List.length_append, List.length_cons, List.length_nil, List.length_take, List.length_drop] at *; omega)), ?_⟩, fun c => ?_⟩
  · have hi' : i < l.length := by omega
    rw [gi_nat hi']
    refine ⟨fun q => ?_, fun q => ⟨by (first | omega | (unfold I64; omega) | (simp only [List.length_append, List.length_cons, List.length_nil, List.length_take, List.length_drop] at *; omega) | (unfold I64; simp only [List.length_append, List.length_cons, List.length_nil, List.length_take, List.length_drop] at *; omega)), hK (i + 1) (by omega) (by omega) ?_⟩⟩
    · have : aIn l a = true := decide_eq_true (q ▸ List.getElem_mem hi')
      rw [this] at h; exact h
    · rw [List.take_succ_eq_append_getElem hi', List.mem_append, List.mem_singleton]
      rintro (k | k)
      · exact hI k
      · exact q k.symm
  · rw [List.take_of_length_le (by omega)] at hI
    have : aIn l a = false := decide_eq_false hI
    rw [this] at h; exact h
theorem addR_ok {l : List Ad} {a : Ad} {Q : List Ad → Prop} (hl : l.length ≤ 1000000) (h : Q (ins l a)) : ref11_Add_W l a Q := by
  unfold ref11_Add_W
  refine hasR_ok hl ?_
  have hj : ∀ b, (b = true ↔ (a ∈ l ∨ aGood a = false)) → ref11_Add_j1 l a Q b := by
    intro b hb
    unfold ref11_Add_j1
    refine ⟨fun c => ?_, fun c => ?_⟩
    · unfold ins at h; rw [if_pos (hb.1 c)] at h; exact h
    · have hn : ¬ (a ∈ l ∨ aGood a = false) := fun q => by rw [hb.2 q] at c; cases c
      unfold ins at h; rw [if_neg hn] at h
      have hend : ∀ i : Nat, i ≤ l.length → (∀ x ∈ l.take i, aCmp x a < 0) → (∀ (hi : i < l.length), ¬ aCmp l[i] a < 0) → ref11_Add_j2 l a Q (i : Int) := by
        intro i hi h1 h2
        have ht : (l.takeWhile fun x => decide (aCmp x a < 0)) = l.take i ∧ (l.dropWhile fun x => decide (aCmp x a < 0)) = l.drop i := by
          have hsp : l = l.take i ++ l.drop i := (List.take_append_drop i l).symm
          constructor
          · conv => lhs; rw [hsp]
            rw [List.takeWhile_append_of_pos (fun x hx => decide_eq_true (h1 x hx))]
            rcases hd : l.drop i with _ | ⟨z, r⟩
            · simp
            · have hlt : i < l.length := by
                rcases Nat.lt_or_ge i l.length with q | q
                · exact q
                · rw [List.drop_of_length_le q] at hd; cases hd
              rw [List.drop_eq_getElem_cons hlt] at hd; injection hd with hd1 hd2
              rw [List.takeWhile_cons_of_neg (by simpa [← hd1] using h2 hlt), List.append_nil]
          · conv => lhs; rw [hsp]
            rw [List.dropWhile_append_of_pos (fun x hx => decide_eq_true (h1 x hx))]
            rcases hd : l.drop i with _ | ⟨z, r⟩
            · rfl
            · have hlt : i < l.length := by
                rcases Nat.lt_or_ge i l.length with q | q
                · exact q
                · rw [List.drop_of_length_le q] at hd; cases hd
              rw [List.drop_eq_getElem_cons hlt] at hd; injection hd with hd1 hd2
              rw [List.dropWhile_cons_of_neg (by simpa [← hd1] using h2 hlt)]
        unfold ref11_Add_j2
        rw [cut0n, cutn]
        rw [ht.1, ht.2] at h
        refine ⟨by (first | omega | (unfold I64; omega) | (simp only [List.length_append, List.length_cons, List.length_nil, List.length_take, List.length_drop] at *; omega) | (unfold I64; simp only [List.length_append, List.length_cons, List.length_nil, List.length_take, List.length_drop] at *; omega)), by (first | omega | (unfold I64; omega) | (simp only [List.length_append, List.length_cons, List.length_nil, List.length_take, List.length_drop] at *; omega) | (unfold I64; simp only [List.length_append, List.length_cons, List.length_nil, List.length_take, List.length_drop] at *; omega)), by (first | omega | (unfold I64; omega) | (simp only [List.length_append, List.length_cons, List.length_nil, List.length_take, List.length_drop] at *; omega) | (unfold I64; simp only [List.length_append, List.length_cons, List.length_nil, List.length_take, List.length_drop] at *; omega)), by (first | omega | (unfold I64; omega) | (simp only [List.length_append, List.length_cons, List.length_nil, List.length_take, List.length_drop] at *; omega) | (unfold I64; simp only [List.length_append, List.length_cons, List.length_nil, List.length_take, List.length_drop] at *; omega)), ?_⟩
        simpa using h
      refine loop_up1 l.length (fun i => ∀ x ∈ l.take i, aCmp x a < 0) (by simp) fun K i hi hI hK => ?_
      show ref11_Add_l1 _ _ _ _ _
      unfold ref11_Add_l1
      refine ⟨fun c => ⟨by (first | omega | (unfold I64; omega) | (simp only [List.length_append, List.length_cons, List.length_nil, List.length_take, List.length_drop] at *; omega) | (unfold I64; simp only [List.length_append, List.length_cons, List.length_nil, List.length_take, List.length_drop] at *; omega)), ?_⟩, fun c => hend i hi hI (fun q => by omega)⟩
      have hi' : i < l.length := by omega
      rw [gi_nat hi']
      refine cmpR_ok ⟨fun q => ⟨by (first | omega | (unfold I64; omega) | (simp only [List.length_append, List.length_cons, List.length_nil, List.length_take, List.length_drop] at *; omega) | (unfold I64; simp only [List.length_append, List.length_cons, List.length_nil, List.length_take, List.length_drop] at *; omega)), hK (i + 1) (by omega) (by omega) ?_⟩, fun q => hend i hi hI (fun _ => q)⟩
      intro x hx
      rw [List.take_succ_eq_append_getElem hi', List.mem_append, List.mem_singleton] at hx
      rcases hx with hx | rfl
      · exact hI x hx
      · exact q
  refine ⟨fun c => hj true (by have := of_decide_eq_true c; simp [this]), fun c => goodR_ok (hj _ ?_)⟩
  have := of_decide_eq_false c
  simp [this]
theorem ofR_ok {l : List Ad} {Q : List Ad → Prop} (hl : l.length ≤ 100000) (h : Q (ofL l)) : ref11_Of_W l Q := by
  refine loop_fold l ins fun K i s hi hs hK => ?_
  have e : s.length ≤ i := by rw [hs]; have := ofL_len (l.take i); rw [List.length_take] at this; unfold ofL at this; omega
  show ref11_Of_l1 _ _ _ _ _
  unfold ref11_Of_l1
  refine ⟨fun c => ⟨by (first | omega | (unfold I64; omega) | (simp only [List.length_append, List.length_cons, List.length_nil, List.length_take, List.length_drop] at *; omega) | (unfold I64; simp only [List.length_append, List.length_cons, List.length_nil, List.length_take, List.length_drop] at *; omega)), addR_ok (by simp only; omega) ⟨by (first | omega | (unfold I64; omega) | (simp only [List.length_append, List.length_cons, List.length_nil, List.length_take, List.length_drop] at *; omega) | (unfold I64; simp only [List.length_append, List.length_cons, List.length_nil, List.length_take, List.length_drop] at *; omega)), ?_⟩⟩, fun c => ?_⟩
  · rw [gi_nat (by omega)]; exact hK (by omega)
  · rw [List.take_of_length_le (by omega)] at hs; rw [hs]; exact h
theorem indexFunc_Ad {l : List Ad} {p : Ad → Bool} {Q : Int → Prop} (hl : l.length ≤ 1000000) (h0 : (∀ x ∈ l, p x = false) → Q (-1)) (h1 : ∀ (i : Nat) (hi : i < l.length), p l[i] = true → (∀ x ∈ l.take i, p x = false) → Q (i : Int)) : slices_IndexFunc_s_api_Addr_api_Addr_W l p Q := by
  refine loop_up1 l.length (fun i => ∀ x ∈ l.take i, p x = false) (by simp) fun K i hi hI hK => ?_
  show slices_IndexFunc_s_api_Addr_api_Addr_l1 _ _ _ _ _
  unfold slices_IndexFunc_s_api_Addr_api_Addr_l1
  refine ⟨fun c => ⟨by (first | omega | (unfold I64; omega) | (simp only [List.length_append, List.length_cons, List.length_nil, List.length_take, List.length_drop] at *; omega) | (unfold I64; simp only [List.length_append, List.length_cons, List.length_nil, List.length_take, List.length_drop] at *; omega)), ?_⟩, fun c => ?_⟩
  · have hi' : i < l.length := by omega
    rw [gi_nat hi']
    refine ⟨fun q => h1 i hi' q hI, fun q => ⟨by (first | omega | (unfold I64; omega) | (simp only [List.length_append, List.length_cons, List.length_nil, List.length_take, List.length_drop] at *; omega) | (unfold I64; simp only [List.length_append, List.length_cons, List.length_nil, List.length_take, List.length_drop] at *; omega)), hK (i + 1) (by omega) (by omega) ?_⟩⟩
    intro x hx
    rw [List.take_succ_eq_append_getElem hi'] at hx
    rcases List.mem_append.1 hx with hx | hx
    · exact hI x hx
    · rw [List.mem_singleton] at hx; subst hx; exact q
  · rw [List.take_of_length_le (by omega)] at hI; exact h0 hI
theorem deleteFunc_Ad {l : List Ad} {p : Ad → Bool} {Q : List Ad → Prop} (hl : l.length ≤ 1000000) (h : Q (l.filter fun x => !p x)) : slices_DeleteFunc_s_api_Addr_api_Addr_W l p Q := by
  unfold slices_DeleteFunc_s_api_Addr_api_Addr_W
  refine indexFunc_Ad hl (fun hn => ⟨fun _ => ?_, fun c => absurd rfl c⟩) (fun r hr hp hn => ⟨fun c => by omega, fun _ => ⟨by (first | omega | (unfold I64; omega) | (simp only [List.length_append, List.length_cons, List.length_nil, List.length_take, List.length_drop] at *; omega) | (unfold I64; simp only [List.length_append, List.length_cons, List.length_nil, List.length_take, List.length_drop] at *; omega)), ?_⟩⟩)
  · have : (l.filter fun x => !p x) = l := List.filter_eq_self.2 fun x hx => by rw [hn x hx]; rfl
    rw [this] at h; exact h
  · have hr0 : (l.take r).filter (fun x => !p x) = l.take r := List.filter_eq_self.2 fun x hx => by rw [hn x hx]; rfl
    refine loop_from (s0 := (l, (r : Int), (r : Int) + 1)) (fun s => s.2.2) (r + 1) l.length (fun j s => s.1.length = l.length ∧ ∃ k : Nat, s.2.1 = k ∧ k + 1 ≤ j ∧ s.1.take k = (l.take j).filter (fun x => !p x) ∧ ∀ q, j ≤ q → s.1[q]? = l[q]?) (by simp) (by omega) ⟨rfl, r, rfl, by omega, ?_, fun _ _ => rfl⟩ ?_
    · show l.take r = _
      rw [List.take_succ_eq_append_getElem hr, List.filter_append, hr0]; simp [hp]
    · rintro K j ⟨l2, _, _⟩ rfl hj ⟨hl2, k, rfl, k1, ht, hq⟩ hK
      simp only at hl2 ht hq ⊢
      unfold slices_DeleteFunc_s_api_Addr_api_Addr_l2
      refine ⟨fun c => ⟨by (first | omega | (unfold I64; omega) | (simp only [List.length_append, List.length_cons, List.length_nil, List.length_take, List.length_drop] at *; omega) | (unfold I64; simp only [List.length_append, List.length_cons, List.length_nil, List.length_take, List.length_drop] at *; omega)), ?_⟩, fun c => ?_⟩
      · have hj' : j < l.length := by omega
        have e1 : gi l2 (j : Int) = l[j] := by rw [gi_of (hq j (Nat.le_refl _)), gi_nat hj']
        rw [e1]
        refine ⟨fun q => ⟨by (first | omega | (unfold I64; omega) | (simp only [List.length_append, List.length_cons, List.length_nil, List.length_take, List.length_drop] at *; omega) | (unfold I64; simp only [List.length_append, List.length_cons, List.length_nil, List.length_take, List.length_drop] at *; omega)), by (first | omega | (unfold I64; omega) | (simp only [List.length_append, List.length_cons, List.length_nil, List.length_take, List.length_drop] at *; omega) | (unfold I64; simp only [List.length_append, List.length_cons, List.length_nil, List.length_take, List.length_drop] at *; omega)), by (first | omega | (unfold I64; omega) | (simp only [List.length_append, List.length_cons, List.length_nil, List.length_take, List.length_drop] at *; omega) | (unfold I64; simp only [List.length_append, List.length_cons, List.length_nil, List.length_take, List.length_drop] at *; omega)), hK (j + 1) _ (by simp) (by omega) (by omega) ⟨by simpa using hl2, k + 1, by simp, by omega, ?_, fun x hx => ?_⟩⟩, fun q => ⟨by (first | omega | (unfold I64; omega) | (simp only [List.length_append, List.length_cons, List.length_nil, List.length_take, List.length_drop] at *; omega) | (unfold I64; simp only [List.length_append, List.length_cons, List.length_nil, List.length_take, List.length_drop] at *; omega)), hK (j + 1) _ (by simp) (by omega) (by omega) ⟨hl2, k, rfl, by omega, ?_, fun x hx => hq x (by omega)⟩⟩⟩
        · show (l2.set (k : Int).toNat _).take (k + 1) = _
          rw [Int.toNat_natCast, take_set (by omega), ht, List.take_succ_eq_append_getElem hj', List.filter_append]
          have : p l[j] = false := by simpa using q
          simp [this]
        · show (l2.set (k : Int).toNat _)[x]? = _
          rw [Int.toNat_natCast, List.getElem?_set, if_neg (by omega)]; exact hq x (by omega)
        · rw [List.take_succ_eq_append_getElem hj', List.filter_append, ht]
          have : p l[j] = true := by simpa using q
          simp [this]
      · have hjl : j = l.length := by omega
        subst hjl
        rw [List.take_length] at ht
        have hcl : (clr l2 (k : Int) (l2.length : Int)).length = l2.length := by simp [clr]; omega
        refine ⟨by (first | omega | (unfold I64; omega) | (simp only [List.length_append, List.length_cons, List.length_nil, List.length_take, List.length_drop] at *; omega) | (unfold I64; simp only [List.length_append, List.length_cons, List.length_nil, List.length_take, List.length_drop] at *; omega)), by (first | omega | (unfold I64; omega) | (simp only [List.length_append, List.length_cons, List.length_nil, List.length_take, List.length_drop] at *; omega) | (unfold I64; simp only [List.length_append, List.length_cons, List.length_nil, List.length_take, List.length_drop] at *; omega)), by rw [hcl]; (first | omega | (unfold I64; omega) | (simp only [List.length_append, List.length_cons, List.length_nil, List.length_take, List.length_drop] at *; omega) | (unfold I64; simp only [List.length_append, List.length_cons, List.length_nil, List.length_take, List.length_drop] at *; omega)), ?_⟩
        rw [cut_clr (by omega), ht]; exact h
theorem clone_Ad {l : List Ad} {Q : List Ad → Prop} (hl : l.length ≤ 1000000) (h : Q l) : slices_Clone_s_api_Addr_api_Addr_W l Q :=
  ⟨fun c => by subst c; exact h, fun _ => ⟨by (first | omega | (unfold I64; omega) | (simp only [List.length_append, List.length_cons, List.length_nil, List.length_take, List.length_drop] at *; omega) | (unfold I64; simp only [List.length_append, List.length_cons, List.length_nil, List.length_take, List.length_drop] at *; omega)), h⟩⟩
theorem compact_Ad {l : List Ad} {Q : List Ad → Prop} (hl : l.length ≤ 1000000) (h : Q (dd l)) : slices_Compact_s_api_Addr_api_Addr_W l Q := by
  unfold slices_Compact_s_api_Addr_api_Addr_W
  refine ⟨fun c => ?_, fun c => ?_⟩
  · have : dd l = l := by
      rcases l with _ | ⟨a, _ | ⟨b, l⟩⟩
      · rfl
      · rfl
      · simp only [List.length_cons] at c; omega
    rw [this] at h; exact h
  · refine loop_from (fun s => s) 1 l.length (fun i _ => 1 ≤ i ∧ dd (l.take i) = l.take i) rfl (by omega) ⟨by omega, ?_⟩ ?_
    · rcases l with _ | ⟨a, l⟩
      · rfl
      · rfl
    · rintro K i _ rfl hi ⟨h1, hd⟩ hK
      show slices_Compact_s_api_Addr_api_Addr_l1 _ _ _ _
      unfold slices_Compact_s_api_Addr_api_Addr_l1
      have e1 : ((i : Int) - 1) = ((i - 1 : Nat) : Int) := by omega
      refine ⟨fun c1 => ?_, fun c1 => ?_⟩
      · have hi' : i < l.length := by omega
        have hs := dd_take h1 hi'
        rw [e1, gi_nat hi', gi_nat (show i - 1 < l.length by omega)]
        refine ⟨by (first | omega | (unfold I64; omega) | (simp only [List.length_append, List.length_cons, List.length_nil, List.length_take, List.length_drop] at *; omega) | (unfold I64; simp only [List.length_append, List.length_cons, List.length_nil, List.length_take, List.length_drop] at *; omega)), by (first | omega | (unfold I64; omega) | (simp only [List.length_append, List.length_cons, List.length_nil, List.length_take, List.length_drop] at *; omega) | (unfold I64; simp only [List.length_append, List.length_cons, List.length_nil, List.length_take, List.length_drop] at *; omega)), by (first | omega | (unfold I64; omega) | (simp only [List.length_append, List.length_cons, List.length_nil, List.length_take, List.length_drop] at *; omega) | (unfold I64; simp only [List.length_append, List.length_cons, List.length_nil, List.length_take, List.length_drop] at *; omega)), fun q => ⟨by (first | omega | (unfold I64; omega) | (simp only [List.length_append, List.length_cons, List.length_nil, List.length_take, List.length_drop] at *; omega) | (unfold I64; simp only [List.length_append, List.length_cons, List.length_nil, List.length_take, List.length_drop] at *; omega)), ?_⟩, fun q => ⟨by (first | omega | (unfold I64; omega) | (simp only [List.length_append, List.length_cons, List.length_nil, List.length_take, List.length_drop] at *; omega) | (unfold I64; simp only [List.length_append, List.length_cons, List.length_nil, List.length_take, List.length_drop] at *; omega)), hK (i + 1) _ rfl (by omega) (by omega) ⟨by omega, ?_⟩⟩⟩
        · rw [if_pos q.symm, hd] at hs
          refine loop_from (fun s => s.2.2) 1 (l.length - i) (fun j s => s.1.length = l.length ∧ ∃ k : Nat, s.2.1 = k ∧ k + 1 ≤ i + j ∧ i ≤ k ∧ s.1.take k = dd (l.take (i + j)) ∧ ∀ p, i + j ≤ p + 1 → s.1[p]? = l[p]?) rfl (by omega) ⟨rfl, i, rfl, by omega, by omega, hs.symm, fun _ _ => rfl⟩ ?_
          rintro K2 j ⟨l2, _, _⟩ rfl hj ⟨hl2, k, rfl, k1, k2, ht, hp⟩ hK2
          simp only at hl2 ht hp ⊢
          unfold slices_Compact_s_api_Addr_api_Addr_l3
          have ec := cut_len l2 i l.length (by omega)
          refine ⟨by (first | omega | (unfold I64; omega) | (simp only [List.length_append, List.length_cons, List.length_nil, List.length_take, List.length_drop] at *; omega) | (unfold I64; simp only [List.length_append, List.length_cons, List.length_nil, List.length_take, List.length_drop] at *; omega)), fun c2 => ?_, fun c2 => ?_⟩
          · rw [ec] at c2
            have hj' : i + j < l.length := by omega
            have e2 : ((j : Int) - 1) = ((j - 1 : Nat) : Int) := by omega
            have h1j : 1 ≤ j := by omega
            have hs2 := dd_take (show 1 ≤ i + j by omega) hj'
            rw [e2, gi_cut l2 i l.length j hj', gi_cut l2 i l.length (j - 1) (by omega), gi_of (hp _ (by omega)), gi_of (hp (i + (j - 1)) (by omega)), gi_nat hj', gi_nat (show i + (j - 1) < l.length by omega), ec]
            have e3 : l[i + (j - 1)]'(by omega) = l[i + j - 1]'(by omega) := by congr 1; omega
            rw [e3]
            refine ⟨by (first | omega | (unfold I64; omega) | (simp only [List.length_append, List.length_cons, List.length_nil, List.length_take, List.length_drop] at *; omega) | (unfold I64; simp only [List.length_append, List.length_cons, List.length_nil, List.length_take, List.length_drop] at *; omega)), by (first | omega | (unfold I64; omega) | (simp only [List.length_append, List.length_cons, List.length_nil, List.length_take, List.length_drop] at *; omega) | (unfold I64; simp only [List.length_append, List.length_cons, List.length_nil, List.length_take, List.length_drop] at *; omega)), by (first | omega | (unfold I64; omega) | (simp only [List.length_append, List.length_cons, List.length_nil, List.length_take, List.length_drop] at *; omega) | (unfold I64; simp only [List.length_append, List.length_cons, List.length_nil, List.length_take, List.length_drop] at *; omega)), fun q2 => ⟨by (first | omega | (unfold I64; omega) | (simp only [List.length_append, List.length_cons, List.length_nil, List.length_take, List.length_drop] at *; omega) | (unfold I64; simp only [List.length_append, List.length_cons, List.length_nil, List.length_take, List.length_drop] at *; omega)), by (first | omega | (unfold I64; omega) | (simp only [List.length_append, List.length_cons, List.length_nil, List.length_take, List.length_drop] at *; omega) | (unfold I64; simp only [List.length_append, List.length_cons, List.length_nil, List.length_take, List.length_drop] at *; omega)), by (first | omega | (unfold I64; omega) | (simp only [List.length_append, List.length_cons, List.length_nil, List.length_take, List.length_drop] at *; omega) | (unfold I64; simp only [List.length_append, List.length_cons, List.length_nil, List.length_take, List.length_drop] at *; omega)), hK2 (j + 1) _ rfl (by omega) (by omega) ⟨by simpa using hl2, k + 1, rfl, by omega, by omega, ?_, fun p hpp => ?_⟩⟩, fun q2 => ⟨by (first | omega | (unfold I64; omega) | (simp only [List.length_append, List.length_cons, List.length_nil, List.length_take, List.length_drop] at *; omega) | (unfold I64; simp only [List.length_append, List.length_cons, List.length_nil, List.length_take, List.length_drop] at *; omega)), hK2 (j + 1) _ rfl (by omega) (by omega) ⟨hl2, k, rfl, by omega, by omega, ?_, fun p hpp => hp p (by omega)⟩⟩⟩
            · show (l2.set (k : Int).toNat _).take (k + 1) = _
              rw [Int.toNat_natCast, take_set (by omega), ht, ← Nat.add_assoc, hs2, if_neg (fun q => q2 q.symm)]
            · show (l2.set (k : Int).toNat _)[p]? = _
              rw [Int.toNat_natCast, List.getElem?_set, if_neg (by omega)]; exact hp p (by omega)
            · rw [← Nat.add_assoc, hs2, if_pos q2.symm]; exact ht
          · rw [ec] at c2
            have hjl : i + j = l.length := by omega
            rw [hjl, List.take_length] at ht
            have hcl : (clr l2 (k : Int) (l2.length : Int)).length = l2.length := by simp [clr]; omega
            refine ⟨by (first | omega | (unfold I64; omega) | (simp only [List.length_append, List.length_cons, List.length_nil, List.length_take, List.length_drop] at *; omega) | (unfold I64; simp only [List.length_append, List.length_cons, List.length_nil, List.length_take, List.length_drop] at *; omega)), by (first | omega | (unfold I64; omega) | (simp only [List.length_append, List.length_cons, List.length_nil, List.length_take, List.length_drop] at *; omega) | (unfold I64; simp only [List.length_append, List.length_cons, List.length_nil, List.length_take, List.length_drop] at *; omega)), by rw [hcl]; (first | omega | (unfold I64; omega) | (simp only [List.length_append, List.length_cons, List.length_nil, List.length_take, List.length_drop] at *; omega) | (unfold I64; simp only [List.length_append, List.length_cons, List.length_nil, List.length_take, List.length_drop] at *; omega)), ?_⟩
            rw [cut_clr (by omega), ht]; exact h
        · rw [if_neg (fun e => q e.symm), hd] at hs
          rw [hs, List.take_succ_eq_append_getElem hi']
      · rw [List.take_of_length_le (by omega)] at hd
        rw [hd] at h; exact h
theorem swo_ad : Swo aCmp where
  irrefl x := by unfold Go.Proofs.ltOf; rw [decide_eq_false_iff_not, aCmp_refl]; omega
  trans x y z := by unfold Go.Proofs.ltOf; rw [decide_eq_true_eq, decide_eq_true_eq, decide_eq_true_eq]; exact aLt_trans x y z
  ntrans x y z := by
    unfold Go.Proofs.ltOf
    rw [decide_eq_false_iff_not, decide_eq_false_iff_not, decide_eq_false_iff_not]
    intro h k q
    have h1 := aCmp_flip x y
    have h2 := aCmp_flip y z
    rcases Int.lt_trichotomy (aCmp x y) 0 with c | c | c
    · exact h c
    · have e := scmp_eq _ _ c
      apply k; unfold aCmp at q ⊢; rw [← e]; exact q
    · have c' : aLt y x := by unfold aLt; omega
      exact k (aLt_trans y x z c' q)
theorem ofP_ok {l : List Ad} {Q : List Ad → Prop} (hl : l.length ≤ 10000) (h : Q (ofL l)) : srcs_Of_W l Q := by
  refine clone_Ad (by omega) ⟨fun x => !aGood x, fun x => goodP_ok rfl, deleteFunc_Ad (by omega) ⟨aCmp, swo_ad, fun x y => cmpP_ok rfl, ?_, fun m hp hs => compact_Ad (by
    have := hp.length_eq; have h2 := List.length_filter_le (fun x => !(!aGood x)) l; omega) ?_⟩⟩
  · have h2 := List.length_filter_le (fun x => !(!aGood x)) l; omega
  · have hmem : ∀ x, x ∈ m ↔ x ∈ l ∧ aGood x = true := fun x => by rw [hp.mem_iff, List.mem_filter]; simp
    have hset : ASet (dd m) := by
      have key : ∀ (m : List Ad), (∀ x ∈ m, aGood x = true) → m.Pairwise (fun x y => ¬ aCmp y x < 0) → (dd m).Pairwise aLt ∧ ∀ x ∈ dd m, ∀ y, m.getLast? = some y → x = y ∨ aLt x y := by
        intro m
        induction m using snoc_ind with
        | h0 => intro _ _; exact ⟨List.Pairwise.nil, fun x hx => absurd hx (by simp [dd])⟩
        | h1 l y ih =>
          intro hg hs
          rw [List.pairwise_append] at hs
          obtain ⟨i1, i2⟩ := ih (fun x hx => hg x (by simp [hx])) hs.1
          have hy : aGood y = true := hg y (by simp)
          have key : ∀ x ∈ dd l, x = y ∨ aLt x y := by
            intro x hx
            have hx' := (dd_mem l x).1 hx
            have hn := hs.2.2 x hx' y (by simp)
            by_cases e : aLt x y
            · exact .inr e
            · left
              have := aCmp_flip x y
              exact aCmp_eq (hg x (by simp [hx'])) hy (by unfold aLt at e; omega)
          rw [dd_snoc]
          refine ⟨?_, fun x hx z hz => ?_⟩
          · split
            · exact i1
            · rename_i hne
              rw [List.pairwise_append]
              refine ⟨i1, by simp, fun x hx z hz => ?_⟩
              rw [List.mem_singleton] at hz; subst hz
              rcases key x hx with rfl | e
              · exfalso
                have hl := dd_last l
                have hxl := (dd_mem l x).1 hx
                rcases hq : l.getLast? with _ | q
                · rw [List.getLast?_eq_none_iff] at hq; subst hq; cases hxl
                · rcases i2 x hx q hq with rfl | e
                  · rw [hl] at hne; exact hne hq
                  · exact hs.2.2 q (List.mem_of_getLast? hq) x (by simp) e
              · exact e
          · simp at hz; subst hz
            split at hx
            · exact key x hx
            · rw [List.mem_append, List.mem_singleton] at hx
              rcases hx with hx | rfl
              · exact key x hx
              · exact .inl rfl
      exact ⟨(key m (fun x hx => ((hmem x).1 hx).2) hs).1, fun x hx => ((hmem x).1 ((dd_mem m x).1 hx)).2⟩
    have : dd m = ofL l := hset.ext (ofL_set l) fun x => by rw [dd_mem, hmem, mem_ofL]
    rw [this]; exact h
theorem cmpI_ok {x y : Int} {Q : Int → Prop} (h1 : x < y → Q (-1)) (h2 : x = y → Q 0) (h3 : y < x → Q 1) : cmp_Compare_int_W x y Q :=
  ⟨fun c => by simp at c, fun _ => ⟨fun c => by simp at c, fun _ => ⟨h1, fun c => ⟨h3, fun d => h2 (by omega)⟩⟩⟩⟩
theorem oirr (a : Str) : ¬ a < a := List.lt_irrefl a
theorem otr (a b c : Str) (h : a < b) (h2 : b < c) : a < c := List.lt_trans h h2
theorem otot (a b : Str) (h : ¬ a < b) (h2 : ¬ b < a) : a = b := List.le_antisymm (List.not_lt.1 h2) (List.not_lt.1 h)
theorem cmpT_ok {x y : Str} {Q : Int → Prop} (h1 : x < y → Q (-1)) (h2 : x = y → Q 0) (h3 : y < x → Q 1) : cmp_Compare_string_W x y Q :=
  ⟨fun c => by simp at c, fun _ => ⟨fun c => by simp at c, fun _ => ⟨h1, fun c => ⟨fun d => h3 (Classical.byContradiction fun e => d (.inr (otot _ _ c e))), fun d => h2 (d.resolve_left c)⟩⟩⟩⟩
theorem or2_ok {x y : Int} {Q : Int → Prop} (h : Q (if x = 0 then y else x)) : cmp_Or_int_W ([x, y] : List Int) Q := by
  refine loop_up1 2 (fun i => (1 ≤ i → x = 0) ∧ (2 ≤ i → y = 0)) ⟨by omega, by omega⟩ fun K i hi hI hK => ?_
  show cmp_Or_int_l1 _ _ _ _
  unfold cmp_Or_int_l1
  rcases (by omega : i = 0 ∨ i = 1 ∨ i = 2) with rfl | rfl | rfl
  · refine ⟨fun c => ⟨by simp, fun d => ?_, fun d => ⟨by decide, hK 1 (by omega) (by omega) ⟨fun _ => d, by omega⟩⟩⟩, fun c => by simp at c⟩
    have d : ¬ x = 0 := d
    rw [if_neg d] at h; exact h
  · have hx : x = 0 := hI.1 (by omega)
    refine ⟨fun c => ⟨by simp, fun d => ?_, fun d => ⟨by decide, hK 2 (by omega) (by omega) ⟨fun _ => hx, fun _ => d⟩⟩⟩, fun c => by simp at c⟩
    rw [if_pos hx] at h; exact h
  · refine ⟨fun c => by simp at c, fun _ => ?_⟩
    rw [if_pos (hI.1 (by omega)), hI.2 (by omega)] at h; exact h
abbrev CM := List (Str × Int)
def bef (m : CM) (a b : Str) : Int := if mget0 m a < mget0 m b then -1 else if mget0 m b < mget0 m a then 1 else if a < b then -1 else if b < a then 1 else 0
def Bl (m : CM) (a b : Str) : Prop := mget0 m a < mget0 m b ∨ (mget0 m a = mget0 m b ∧ a < b)
theorem bef_lt {m : CM} {a b : Str} : bef m a b < 0 ↔ Bl m a b := by
  unfold bef Bl
  by_cases c1 : mget0 m a < mget0 m b
  · rw [if_pos c1]; exact ⟨fun _ => .inl c1, fun _ => by decide⟩
  · rw [if_neg c1]
    by_cases c2 : mget0 m b < mget0 m a
    · rw [if_pos c2]; exact ⟨fun h => absurd h (by decide), fun h => by rcases h with h | h <;> omega⟩
    · rw [if_neg c2]
      have e : mget0 m a = mget0 m b := by omega
      by_cases c3 : a < b
      · rw [if_pos c3]; exact ⟨fun _ => .inr ⟨e, c3⟩, fun _ => by decide⟩
      · rw [if_neg c3]
        refine ⟨fun h => ?_, fun h => ?_⟩
        · split at h <;> exact absurd h (by decide)
        · rcases h with h | h
          · omega
          · exact absurd h.2 c3
theorem Bl.asy {m : CM} {a b : Str} (h : Bl m a b) : ¬ Bl m b a := by
  rintro (q | q) <;> rcases h with h | h
  · omega
  · omega
  · omega
  · exact oirr a (otr _ _ _ h.2 q.2)
theorem Bl.nt {m : CM} {a b c : Str} (h : ¬ Bl m a b) (h2 : ¬ Bl m b c) : ¬ Bl m a c := by
  intro q
  have e1 : mget0 m b ≤ mget0 m a := Int.not_lt.1 fun x => h (.inl x)
  have e2 : mget0 m c ≤ mget0 m b := Int.not_lt.1 fun x => h2 (.inl x)
  rcases q with q | ⟨q, q2⟩
  · omega
  · have n1 : ¬ a < b := fun x => h (.inr ⟨by omega, x⟩)
    have n2 : ¬ b < c := fun x => h2 (.inr ⟨by omega, x⟩)
    by_cases d : b < a
    · exact n2 (otr _ _ _ d q2)
    · exact n2 (otot _ _ n1 d ▸ q2)
theorem before_ok {m : CM} {a b : Str} {Q : Int → Prop} (h : Q (bef m a b)) : clock_Clock_before_string_W m a b Q := by
  refine cmpI_ok (fun c => ?_) (fun c => ?_) (fun c => ?_)
  · have e : bef m a b = -1 := by unfold bef; rw [if_pos c]
    rw [e] at h
    exact cmpT_ok (fun _ => or2_ok h) (fun _ => or2_ok h) (fun _ => or2_ok h)
  · refine cmpT_ok (fun d => or2_ok ?_) (fun d => or2_ok ?_) (fun d => or2_ok ?_)
    · have e : bef m a b = -1 := by unfold bef; rw [if_neg (by omega), if_neg (by omega), if_pos d]
      rw [e] at h; exact h
    · have e : bef m a b = 0 := by unfold bef; rw [if_neg (by omega), if_neg (by omega), d, if_neg (oirr b), if_neg (oirr b)]
      rw [e] at h; exact h
    · have e : bef m a b = 1 := by unfold bef; rw [if_neg (by omega), if_neg (by omega), if_neg (fun q => oirr a (otr _ _ _ q d)), if_pos d]
      rw [e] at h; exact h
  · have e : bef m a b = 1 := by unfold bef; rw [if_neg (by omega), if_pos c]
    rw [e] at h
    exact cmpT_ok (fun _ => or2_ok h) (fun _ => or2_ok h) (fun _ => or2_ok h)
theorem next_ok {m : CM} {Q : Str → Int → Bool → CM → Prop} (hn : (m.map Prod.fst).Nodup) (h0 : m = [] → Q ([] : Str) 0 false m) (h1 : ∀ k t, (k, t) ∈ m → (∀ p ∈ m, ¬ Bl m p.1 k) → Q k t true m) : clock_Clock_Next_string_W m Q := by
  refine loop_bag m (fun done s => (done = [] → s = (([] : Str), false)) ∧ (done ≠ [] → s.2 = true ∧ s.1 ∈ done.map Prod.fst ∧ ∀ p ∈ done, ¬ Bl m p.1 s.1)) ⟨fun _ => rfl, fun c => absurd rfl c⟩ fun K done rem s hp hI hK => ?_
  obtain ⟨out, found⟩ := s
  show clock_Clock_Next_string_l1 m Q _ rem out found
  unfold clock_Clock_Next_string_l1
  refine ⟨fun e => ?_, fun p rem2 hq => ⟨fun c => hK p rem2 _ hq ⟨fun q => by simp at q, fun _ => ⟨rfl, by simp, fun q hq2 => ?_⟩⟩, fun c => before_ok ⟨fun d => hK p rem2 _ hq ⟨fun q => by simp at q, fun _ => ⟨rfl, by simp, fun q hq2 => ?_⟩⟩, fun d => hK p rem2 _ hq ⟨fun q => by simp at q, fun _ => ?_⟩⟩⟩⟩
  · subst e; rw [List.append_nil] at hp
    by_cases hd : done = []
    · have := hI.1 hd
      subst hd
      have hm : m = [] := List.Perm.eq_nil hp
      injection this with e1 e2
      rw [e1, e2]
      have e3 : mget0 m ([] : Str) = 0 := by rw [hm]; rfl
      rw [e3]; exact h0 hm
    · obtain ⟨e1, e2, e3⟩ := hI.2 hd
      simp only at e1 e2 e3
      obtain ⟨⟨k, t⟩, hm, rfl⟩ := List.mem_map.1 e2
      have hm' : (k, t) ∈ m := hp.mem_iff.2 hm
      have : mget0 m k = t := by unfold mget0; rw [(mem_iff_mget hn k t).1 hm']; rfl
      rw [e1]; show Q k (mget0 m k) true m
      rw [this]; exact h1 k t hm' fun p hpm => e3 p (hp.mem_iff.1 hpm)
  · have hd : done = [] := by
      rcases Classical.em (done = []) with q | q
      · exact q
      · have := (hI.2 q).1; simp only at this; rw [this] at c; cases c
    subst hd
    rw [List.nil_append, List.mem_singleton] at hq2; rw [hq2]; exact fun w => w.asy w
  · have hf : found = true := by simpa using c
    have hd : done ≠ [] := fun q => by have := hI.1 q; injection this with _ e2; rw [e2] at hf; cases hf
    obtain ⟨_, _, e3⟩ := hI.2 hd
    have d' := bef_lt.1 d
    rcases List.mem_append.1 hq2 with q1 | q1
    · intro w; exact (e3 q q1) (by
        rcases Classical.em (Bl m q.1 out) with z | z
        · exact z
        · exact absurd w (Bl.nt z d'.asy))
    · rw [List.mem_singleton.1 q1]; exact fun w => w.asy w
  · have hf : found = true := by simpa using c
    have hd : done ≠ [] := fun q => by have := hI.1 q; injection this with _ e2; rw [e2] at hf; cases hf
    obtain ⟨e1, e2, e3⟩ := hI.2 hd
    refine ⟨e1, by rw [List.map_append]; exact List.mem_append_left _ e2, fun q q1 => ?_⟩
    rcases List.mem_append.1 q1 with q1 | q1
    · exact e3 q q1
    · rw [List.mem_singleton.1 q1]; exact fun w => d (bef_lt.2 w)
end Go.Wk
