/- Plain words for one law: what it needs. -/
import Derived.Test.YtmbkoonblmfdpaaGreatHzW7
import Derived.Test.YtmbkoonblmfdpaaGreatPl2
set_option linter.unusedSimpArgs false
set_option linter.unusedVariables false
set_option linter.unusedSectionVars false
namespace Go.Wk
open Go.HL
variable [DM]
abbrev Ad := T_api_Addr
theorem scmp_cons (a b : UInt8) (x y : Str) : scmp (a :: x) (b :: y) = if a < b then -1 else if b < a then 1 else scmp x y := by
  unfold scmp; rw [Lib.compareBytes]
theorem scmp_refl : ∀ a : Str, scmp a a = 0
  | [] => rfl
  | a :: x => by rw [scmp_cons, if_neg (UInt8.lt_irrefl a), if_neg (UInt8.lt_irrefl a), scmp_refl x]
theorem u8_tri {a b : UInt8} (h : ¬ a < b) (k : ¬ b < a) : a = b := by
  rw [UInt8.lt_iff_toNat_lt] at h k; exact UInt8.toNat_inj.1 (by omega)
theorem scmp_eq : ∀ a b : Str, scmp a b = 0 → a = b
  | [], [], _ => rfl
  | [], _ :: _, h => by simp [scmp, Lib.compareBytes] at h
  | _ :: _, [], h => by simp [scmp, Lib.compareBytes] at h
  | a :: x, b :: y, h => by
    rw [scmp_cons] at h
    split at h
    · omega
    · split at h
      · omega
      · rename_i p q; rw [u8_tri p q, scmp_eq x y h]
theorem scmp_flip : ∀ a b : Str, scmp b a = - scmp a b
  | [], [] => rfl
  | [], _ :: _ => rfl
  | _ :: _, [] => rfl
  | a :: x, b :: y => by
    rw [scmp_cons, scmp_cons, scmp_flip x y]
    have : a < b → ¬ b < a := fun h k => by rw [UInt8.lt_iff_toNat_lt] at h k; omega
    by_cases p : a < b
    · rw [if_pos p, if_neg (this p), if_pos p]; rfl
    · by_cases q : b < a
      · rw [if_pos q, if_neg p, if_pos q]
      · rw [if_neg q, if_neg p, if_neg p, if_neg q]
theorem scmp_trans : ∀ a b c : Str, scmp a b < 0 → scmp b c < 0 → scmp a c < 0
  | [], [], _, h, _ => absurd h (by decide)
  | _, [], [], _, h => absurd h (by decide)
  | [], _ :: _, [], _, h => by simp [scmp, Lib.compareBytes] at h
  | [], _ :: _, _ :: _, _, _ => by simp [scmp, Lib.compareBytes]
  | _ :: _, [], _, h, _ => by simp [scmp, Lib.compareBytes] at h
  | _ :: _, _ :: _, [], _, h => by simp [scmp, Lib.compareBytes] at h
  | a :: x, b :: y, c :: z, h, k => by
    rw [scmp_cons] at h k ⊢
    by_cases p : a < b
    · by_cases q : b < c
      · rw [if_pos (by rw [UInt8.lt_iff_toNat_lt] at *; omega)]; decide
      · rw [if_neg q] at k
        by_cases r : c < b
        · rw [if_pos r] at k; omega
        · have := u8_tri q r; subst this; rw [if_pos p]; decide
    · rw [if_neg p] at h
      by_cases q : b < a
      · rw [if_pos q] at h; omega
      · rw [if_neg q] at h
        have := u8_tri p q; subst this
        by_cases r : a < c
        · rw [if_pos r]; decide
        · rw [if_neg r] at k ⊢
          by_cases s : c < a
          · rw [if_pos s] at k; omega
          · rw [if_neg s] at k ⊢; exact scmp_trans x y z h k
theorem scmp_take : ∀ (i : Nat) (x y : Str), x.take i = y.take i → i ≤ x.length → i ≤ y.length → scmp x y = scmp (x.drop i) (y.drop i)
  | 0, _, _, _, _, _ => rfl
  | i + 1, [], _, _, h, _ => by simp at h
  | i + 1, _ :: _, [], _, _, h => by simp at h
  | i + 1, a :: x, b :: y, h, h1, h2 => by
    simp only [List.take_succ_cons, List.cons.injEq] at h
    obtain ⟨rfl, h⟩ := h
    rw [scmp_cons, if_neg (UInt8.lt_irrefl a), if_neg (UInt8.lt_irrefl a)]
    exact scmp_take i x y h (by simpa using h1) (by simpa using h2)
def aw (a : Ad) : Nat := if a.1 then 16 else 4
def ak (a : Ad) : Str := (if a.1 then 1 else 0) :: a.2.1.take (aw a)
def aCmp (a b : Ad) : Int := scmp (ak a) (ak b)
def aGood (a : Ad) : Bool := a.1 || decide (a.2.1.drop 4 = List.replicate 12 0)
def aLt (a b : Ad) : Prop := aCmp a b < 0
theorem aLt_irrefl (a : Ad) : ¬ aLt a a := by unfold aLt aCmp; rw [scmp_refl]; omega
theorem aLt_trans (a b c : Ad) : aLt a b → aLt b c → aLt a c := scmp_trans _ _ _
theorem aCmp_flip (a b : Ad) : aCmp b a = - aCmp a b := scmp_flip _ _
theorem aCmp_refl (a : Ad) : aCmp a a = 0 := scmp_refl _
theorem aCmp_eq {a b : Ad} (ha : aGood a = true) (hb : aGood b = true) (h : aCmp a b = 0) : a = b := by
  have h := scmp_eq _ _ h
  unfold ak aw at h
  rw [List.cons.injEq] at h
  obtain ⟨h1, h2⟩ := h
  obtain ⟨va, ⟨la, la16⟩⟩ := a
  obtain ⟨vb, ⟨lb, lb16⟩⟩ := b
  simp only at h1 h2
  have hv : va = vb := by cases va <;> cases vb <;> simp_all
  subst hv
  cases va
  · simp only [aGood, Bool.false_or, decide_eq_true_eq] at ha hb
    simp only [Bool.false_eq_true, if_false] at h2
    have : la = lb := by rw [← List.take_append_drop 4 la, ← List.take_append_drop 4 lb, h2, ha, hb]
    subst this; rfl
  · simp only [if_true] at h2
    rw [List.take_of_length_le (by omega), List.take_of_length_le (by omega)] at h2
    subst h2; rfl
theorem cmpP_ok {a b : Ad} {Q : Int → Prop} (h : Q (aCmp a b)) : addr_Cmp_W a b Q := by
  obtain ⟨va, ⟨la, la16⟩⟩ := a
  obtain ⟨vb, ⟨lb, lb16⟩⟩ := b
  unfold aCmp ak aw at h
  unfold addr_Cmp_W addr_Cmp_j2 addr_Cmp_j1 addr_bytes_W
  cases va <;> cases vb <;> simp [scmp_cons, cut] at h ⊢ <;> exact h
theorem scmp_at {x y : Str} {i : Nat} (h : x.take i = y.take i) (h1 : i < x.length) (h2 : i < y.length) : scmp x y = if x[i] < y[i] then -1 else if y[i] < x[i] then 1 else scmp (x.drop (i + 1)) (y.drop (i + 1)) := by
  rw [scmp_take i x y h (by omega) (by omega), List.drop_eq_getElem_cons h1, List.drop_eq_getElem_cons h2, scmp_cons]
theorem b8_at {n : Nat} (x : Ba n) {i : Nat} (h : i < n) : b8 x (i : Int) = ((x.1[i]'(by rw [x.2]; exact h)).toNat : Int) := by
  unfold b8; rw [gi_nat (by rw [x.2]; exact h)]
theorem u8lt {a b : UInt8} : ((a.toNat : Nat) : Int) < (b.toNat : Int) ↔ a < b := by rw [UInt8.lt_iff_toNat_lt]; omega
theorem cmpR_ok {a b : Ad} {Q : Int → Prop} (h : Q (aCmp a b)) : ref03_Cmp_W a b Q := by
  unfold ref03_Cmp_W
  refine ⟨fun c => ⟨fun d => ?_, fun d => ?_⟩, fun c => ?_⟩
  · have : a.1 = false := by simp [d] at c; exact c
    have e : aCmp a b = -1 := by unfold aCmp ak; rw [this, d]; rfl
    rw [e] at h; exact h
  · have : a.1 = true := by simp [d] at c; exact c
    have e : aCmp a b = 1 := by unfold aCmp ak; rw [this, d]; rfl
    rw [e] at h; exact h
  · have hv : a.1 = b.1 := by simpa using c
    have e : aCmp a b = scmp (a.2.1.take (aw a)) (b.2.1.take (aw b)) := by
      unfold aCmp ak; rw [hv, scmp_cons, if_neg (UInt8.lt_irrefl _), if_neg (UInt8.lt_irrefl _)]
    have hw : aw b = aw a := by unfold aw; rw [hv]
    have hw16 : aw a ≤ 16 := by unfold aw; split <;> omega
    have hla : (a.2.1.take (aw a)).length = aw a := by rw [List.length_take, a.2.2]; omega
    have hlb : (b.2.1.take (aw a)).length = aw a := by rw [List.length_take, b.2.2]; omega
    rw [e, hw] at h
    have hend : ∀ i, i = aw a → a.2.1.take i = b.2.1.take i → Q 0 := by
      rintro i rfl hi
      rw [hi, scmp_refl] at h; exact h
    refine loop_up1 (aw a) (fun i => a.2.1.take i = b.2.1.take i) (by simp) fun K i hi hI hK => ?_
    show ref03_Cmp_l1 _ _ _ _ _
    have step : i < aw a → ref03_Cmp_j1 a b Q (i : Int) K := by
      intro hlt
      have h16 : i < 16 := by omega
      unfold ref03_Cmp_j1
      rw [b8_at a.2 h16, b8_at b.2 h16]
      have hx : (a.2.1.take (aw a)).take i = (b.2.1.take (aw a)).take i := by rw [List.take_take, List.take_take, Nat.min_eq_left (by omega)]; exact hI
      have hc := scmp_at hx (by omega) (by omega)
      rw [List.getElem_take, List.getElem_take] at hc
      refine ⟨by (first | omega | (unfold I64; omega) | (simp only [List.length_append, List.length_cons, List.length_nil, List.length_take, List.length_drop] at *; omega) | (unfold I64; simp only [List.length_append, List.length_cons, List.length_nil, List.length_take, List.length_drop] at *; omega)), fun q => ?_, fun q => ⟨fun r => ?_, fun r => ⟨by (first | omega | (unfold I64; omega) | (simp only [List.length_append, List.length_cons, List.length_nil, List.length_take, List.length_drop] at *; omega) | (unfold I64; simp only [List.length_append, List.length_cons, List.length_nil, List.length_take, List.length_drop] at *; omega)), hK (i + 1) (by omega) (by omega) ?_⟩⟩⟩
      · rw [hc, if_pos (u8lt.1 q)] at h; exact h
      · rw [hc, if_neg (fun k => q (u8lt.2 k)), if_pos (u8lt.1 r)] at h; exact h
      · rw [List.take_succ_eq_append_getElem (by rw [a.2.2]; omega), List.take_succ_eq_append_getElem (by rw [b.2.2]; omega), hI, u8_tri (fun k => q (u8lt.2 k)) (fun k => r (u8lt.2 k))]
    unfold ref03_Cmp_l1
    have hwt : a.1 = true → aw a = 16 := fun q => by unfold aw; rw [q]; rfl
    have hwf : a.1 = false → aw a = 4 := fun q => by unfold aw; rw [q]; rfl
    refine ⟨fun q => ⟨fun r => step (by have := hwt r; omega), fun r => ⟨fun s => step (by have := hwf r; omega), fun s => hend i (by have := hwf r; omega) hI⟩⟩, fun q => hend i (by omega) hI⟩
theorem goodR_ok {a : Ad} {Q : Bool → Prop} (h : Q (aGood a)) : ref03_Good_W a Q := by
  refine loop_from (s0 := (4 : Int)) (fun s => s) 4 16 (fun i _ => 4 ≤ i ∧ (a.1 = false → ∀ k (hk : k < 16), 4 ≤ k → k < i → a.2.1[k]'(by rw [a.2.2]; exact hk) = 0)) rfl (by omega) ⟨by omega, fun _ k _ h1 h2 => by omega⟩ ?_
  rintro K i _ rfl hi ⟨h4, hz⟩ hK
  show ref03_Good_l1 _ _ _ _
  unfold ref03_Good_l1
  refine ⟨fun c => ⟨fun d => ⟨by (first | omega | (unfold I64; omega) | (simp only [List.length_append, List.length_cons, List.length_nil, List.length_take, List.length_drop] at *; omega) | (unfold I64; simp only [List.length_append, List.length_cons, List.length_nil, List.length_take, List.length_drop] at *; omega)), fun q => ?_, fun q => ⟨by (first | omega | (unfold I64; omega) | (simp only [List.length_append, List.length_cons, List.length_nil, List.length_take, List.length_drop] at *; omega) | (unfold I64; simp only [List.length_append, List.length_cons, List.length_nil, List.length_take, List.length_drop] at *; omega)), hK (i + 1) _ rfl (by omega) (by omega) ⟨by omega, fun v k hk h1 h2 => ?_⟩⟩⟩, fun d => ⟨by (first | omega | (unfold I64; omega) | (simp only [List.length_append, List.length_cons, List.length_nil, List.length_take, List.length_drop] at *; omega) | (unfold I64; simp only [List.length_append, List.length_cons, List.length_nil, List.length_take, List.length_drop] at *; omega)), hK (i + 1) _ rfl (by omega) (by omega) ⟨by omega, fun v => by simp [v] at d⟩⟩⟩, fun c => ?_⟩
  · have hi16 : i < 16 := by omega
    rw [b8_at a.2 hi16] at q
    have : aGood a = false := by
      have hv : a.1 = false := by simpa using d
      unfold aGood; rw [hv, Bool.false_or, decide_eq_false_iff_not]
      intro e
      have h5 : (a.2.1.drop 4)[i - 4]? = (List.replicate 12 (0 : UInt8))[i - 4]? := by rw [e]
      rw [List.getElem?_drop, show 4 + (i - 4) = i by omega, List.getElem?_eq_getElem (by rw [a.2.2]; exact hi16), List.getElem?_replicate, if_pos (by omega)] at h5
      simp only [Option.some.injEq] at h5
      rw [h5] at q; exact q rfl
    rw [this] at h; exact h
  · by_cases e : k < i
    · exact hz v k hk h1 e
    · have : k = i := by omega
      subst this
      rw [b8_at a.2 hk] at q
      exact UInt8.toNat_inj.1 (by show _ = 0; omega)
  · have : aGood a = true := by
      unfold aGood
      cases hv : a.1 with
      | true => rfl
      | false =>
        rw [Bool.false_or, decide_eq_true_eq]
        apply List.ext_getElem
        · rw [List.length_drop, a.2.2, List.length_replicate]
        · intro k h1 h2
          rw [List.length_replicate] at h2
          rw [List.getElem_drop, List.getElem_replicate]
          exact hz hv (4 + k) (by omega) (by omega) (by omega)
    rw [this] at h; exact h
theorem goodP_ok {a : Ad} {Q : Bool → Prop} (h : Q (aGood a)) : addr_Good_W a Q := by
  unfold addr_Good_W
  refine ⟨fun v => ?_, fun v => ?_⟩
  · unfold aGood at h; rw [v] at h; exact h
  · refine ⟨b8_rng _ _, b8_rng _ _, b8_rng _ _, b8_rng _ _, ?_⟩
    have e : decide ((a : T_api_Addr) = (false, mkB 16 [b8 a.2 0, b8 a.2 1, b8 a.2 2, b8 a.2 3, 0, 0, 0, 0, 0, 0, 0, 0, 0, 0, 0, 0])) = aGood a := by
      have hm : (mkB 16 [b8 a.2 0, b8 a.2 1, b8 a.2 2, b8 a.2 3, 0, 0, 0, 0, 0, 0, 0, 0, 0, 0, 0, 0]).1 = a.2.1.take 4 ++ List.replicate 12 0 := by
        have hl := a.2.2
        apply List.ext_getElem
        · rw [(mkB 16 _).2, List.length_append, List.length_take, hl, List.length_replicate]; rfl
        · intro i h1 h2
          rw [(mkB 16 _).2] at h1
          have k0 : ∀ j, j < 4 → ∀ (hj : j < a.2.1.length), UInt8.ofNat (b8 a.2 (j : Int)).toNat = a.2.1[j] := by
            intro j hj hj'
            rw [b8_at a.2 (by omega), Int.toNat_natCast, UInt8.ofNat_toNat]
          simp only [mkB, List.getElem_map, List.getElem_range]
          by_cases hi : i < 4
          · rw [List.getElem_append_left (by rw [List.length_take, hl]; omega), List.getElem_take]
            rw [← k0 i hi (by omega)]
            congr 2
            rcases i with _ | _ | _ | _ | i
            · rfl
            · rfl
            · rfl
            · rfl
            · omega
          · rw [List.getElem_append_right (by rw [List.length_take, hl]; omega), List.getElem_replicate]
            have : ([b8 a.2 0, b8 a.2 1, b8 a.2 2, b8 a.2 3, 0, 0, 0, 0, 0, 0, 0, 0, 0, 0, 0, 0] : List Int).getD i 0 = 0 := by
              rw [show i = 4 + (i - 4) by omega]
              rcases hq : i - 4 with _ | _ | _ | _ | _ | _ | _ | _ | _ | _ | _ | _ | q
              all_goals first | rfl | omega
            rw [this]; rfl
      unfold aGood
      rw [v, Bool.false_or]
      apply decide_eq_decide.2
      constructor
      · intro e
        have h2 : a.2.1 = a.2.1.take 4 ++ List.replicate 12 0 := by rw [← hm]; exact congrArg (fun x : Ad => x.2.1) e
        have h3 : (a.2.1.take 4).length = 4 := by rw [List.length_take, a.2.2]; rfl
        rw [h2, List.drop_append, h3, List.drop_of_length_le (by omega)]; rfl
      · intro e
        have h2 : a.2.1 = a.2.1.take 4 ++ List.replicate 12 0 := by rw [← e, List.take_append_drop]
        exact Prod.ext v (Subtype.ext (h2.trans hm.symm))
    show Q _
    rw [e]; exact h
structure ASet (l : List Ad) : Prop where
  rise : l.Pairwise aLt
  good : ∀ x ∈ l, aGood x = true
theorem ASet.nil : ASet [] := ⟨List.Pairwise.nil, by simp⟩
theorem ASet.ext {l m : List Ad} (hl : ASet l) (hm : ASet m) (h : ∀ x, x ∈ l ↔ x ∈ m) : l = m := rise_ext aLt_irrefl aLt_trans hl.rise hm.rise h
theorem ASet.filter {l : List Ad} (hl : ASet l) (p : Ad → Bool) : ASet (l.filter p) := ⟨filter_rise p hl.rise, fun x hx => hl.good x (List.mem_filter.1 hx).1⟩
def ins (l : List Ad) (a : Ad) : List Ad := if a ∈ l ∨ aGood a = false then l else (l.takeWhile fun x => decide (aCmp x a < 0)) ++ a :: l.dropWhile fun x => decide (aCmp x a < 0)
theorem mem_ins {l : List Ad} {a x : Ad} : x ∈ ins l a ↔ x ∈ l ∨ (x = a ∧ aGood a = true) := by
  unfold ins
  split
  · rename_i h
    constructor
    · exact .inl
    · rintro (q | ⟨rfl, q⟩)
      · exact q
      · rcases h with h | h
        · exact h
        · rw [h] at q; cases q
  · rename_i h
    have hg : aGood a = true := by cases hq : aGood a with
      | true => rfl
      | false => exact absurd (.inr hq) h
    have ht : l = (l.takeWhile fun x => decide (aCmp x a < 0)) ++ l.dropWhile fun x => decide (aCmp x a < 0) := (List.takeWhile_append_dropWhile).symm
    rw [List.mem_append, List.mem_cons]
    constructor
    · rintro (q | rfl | q)
      · left; rw [ht]; exact List.mem_append_left _ q
      · exact .inr ⟨rfl, hg⟩
      · left; rw [ht]; exact List.mem_append_right _ q
    · rintro (q | ⟨rfl, _⟩)
      · rw [ht, List.mem_append] at q
        rcases q with q | q
        · exact .inl q
        · exact .inr (.inr q)
      · exact .inr (.inl rfl)
theorem ins_len (l : List Ad) (a : Ad) : (ins l a).length ≤ l.length + 1 := by
  unfold ins
  split
  · omega
  · have := congrArg List.length (List.takeWhile_append_dropWhile (p := fun x => decide (aCmp x a < 0)) (l := l))
    rw [List.length_append] at this ⊢; rw [List.length_cons]; omega
theorem ASet.ins {l : List Ad} (hl : ASet l) (a : Ad) : ASet (ins l a) := by
  refine ⟨?_, fun x hx => ?_⟩
  · unfold Wk.ins
    split
    · exact hl.rise
    · rename_i h
      have ht : (l.takeWhile fun x => decide (aCmp x a < 0)) ++ (l.dropWhile fun x => decide (aCmp x a < 0)) = l := List.takeWhile_append_dropWhile
      have hr := hl.rise
      rw [← ht, List.pairwise_append] at hr
      have hg : aGood a = true := by cases hq : aGood a with
        | true => rfl
        | false => exact absurd (.inr hq) h
      have hd : ∀ y ∈ (l.dropWhile fun x => decide (aCmp x a < 0)), aLt a y := by
        intro y hy
        have hyl : y ∈ l := by rw [← ht]; exact List.mem_append_right _ hy
        have hne : aCmp y a ≠ 0 := fun e => h (.inl (by rw [← aCmp_eq (hl.good y hyl) hg e]; exact hyl))
        have hfirst : ¬ aCmp y a < 0 := by
          rcases hd : (l.dropWhile fun x => decide (aCmp x a < 0)) with _ | ⟨z, r⟩
          · rw [hd] at hy; cases hy
          · have hz : ¬ aCmp z a < 0 := by
              have := List.head_dropWhile_not (p := fun x => decide (aCmp x a < 0)) (l := l) (by rw [hd]; simp)
              simp only [hd, List.head_cons, decide_eq_false_iff_not] at this; exact this
            rw [hd] at hy
            rcases List.mem_cons.1 hy with rfl | hy
            · exact hz
            · have h1 := hr.2.1; rw [hd, List.pairwise_cons] at h1
              have h2 := h1.1 y hy
              intro h3
              exact hz (aLt_trans _ _ _ h2 h3)
        have := aCmp_flip y a
        show aCmp a y < 0
        omega
      have htk : ∀ x ∈ (l.takeWhile fun x => decide (aCmp x a < 0)), aLt x a := fun x hx => by
        have := List.all_eq_true.1 (List.all_takeWhile (p := fun x => decide (aCmp x a < 0)) (l := l)) x hx
        show aCmp x a < 0
        exact of_decide_eq_true this
      rw [List.pairwise_append, List.pairwise_cons]
      refine ⟨hr.1, ⟨hd, hr.2.1⟩, fun x hx y hy => ?_⟩
      rcases List.mem_cons.1 hy with rfl | hy
      · exact htk x hx
      · exact hr.2.2 x hx y hy
  · rcases mem_ins.1 hx with hx | ⟨rfl, hx⟩
    · exact hl.good x hx
    · exact hx
def ofL (l : List Ad) : List Ad := l.foldl ins []
theorem ofL_snoc (l : List Ad) (a : Ad) : ofL (l ++ [a]) = ins (ofL l) a := by unfold ofL; rw [List.foldl_append]; rfl
theorem ofL_set (l : List Ad) : ASet (ofL l) := by
  induction l using snoc_ind with
  | h0 => exact ASet.nil
  | h1 l a ih => rw [ofL_snoc]; exact ih.ins a
theorem mem_ofL {l : List Ad} {x : Ad} : x ∈ ofL l ↔ x ∈ l ∧ aGood x = true := by
  induction l using snoc_ind with
  | h0 => simp [ofL]
  | h1 l a ih =>
    rw [ofL_snoc, mem_ins, ih, List.mem_append, List.mem_singleton]
    constructor
    · rintro (⟨p, q⟩ | ⟨rfl, q⟩)
      · exact ⟨.inl p, q⟩
      · exact ⟨.inr rfl, q⟩
    · rintro ⟨p | rfl, q⟩
      · exact .inl ⟨p, q⟩
      · exact .inr ⟨rfl, q⟩
theorem ofL_len (l : List Ad) : (ofL l).length ≤ l.length := by
  induction l using snoc_ind with
  | h0 => exact Nat.le_refl _
  | h1 l a ih => rw [ofL_snoc, List.length_append]; have := ins_len (ofL l) a; simp only [List.length_cons, List.length_nil]; omega
theorem ofL_id {l : List Ad} (h : ASet l) : ofL l = l := (ofL_set l).ext h fun x => by rw [mem_ofL]; exact ⟨fun q => q.1, fun q => ⟨q, h.good x q⟩⟩
def aIn (b : List Ad) (x : Ad) : Bool := decide (x ∈ b)
def andL (a b : List Ad) : List Ad := a.filter (aIn b)
def minusL (a b : List Ad) : List Ad := a.filter fun x => !aIn b x
def orL (a b : List Ad) : List Ad := ofL (a ++ b)
theorem mem_orL {a b : List Ad} (ha : ASet a) (hb : ASet b) {x : Ad} : x ∈ orL a b ↔ x ∈ a ∨ x ∈ b := by
  unfold orL; rw [mem_ofL, List.mem_append]
  exact ⟨fun q => q.1, fun q => ⟨q, q.elim (ha.good x) (hb.good x)⟩⟩
theorem mem_andL {a b : List Ad} {x : Ad} : x ∈ andL a b ↔ x ∈ a ∧ x ∈ b := by unfold andL aIn; simp
theorem mem_minusL {a b : List Ad} {x : Ad} : x ∈ minusL a b ↔ x ∈ a ∧ x ∉ b := by unfold minusL aIn; simp
theorem orL_set (a b : List Ad) : ASet (orL a b) := ofL_set _
theorem orL_len (a b : List Ad) : (orL a b).length ≤ a.length + b.length := by have := ofL_len (a ++ b); rw [List.length_append] at this; exact this
theorem addrs_ok {l : List Ad} {Q : List Ad → Prop} (h : Q (l.take 6)) : law08_Addrs_W l 6 Q := by
  refine loop_up l.length (fun i s => s = l.take i ∧ i ≤ 6) ⟨rfl, by omega⟩ fun K i s hi ⟨hs, h8⟩ hK => ?_
  have e : s.length = i := by rw [hs, List.length_take]; omega
  have te : ∀ (h : ¬ (i < l.length ∧ i < 6)), l.take i = l.take 6 := by
    intro h
    by_cases q : i = 6
    · rw [q]
    · rw [List.take_of_length_le (by omega), List.take_of_length_le (by omega)]
  show law08_Addrs_l1 _ _ _ _ _ _
  unfold law08_Addrs_l1 law08_Addrs_j1
  refine ⟨fun h1 => ⟨fun h2 => ⟨by (first | omega | (unfold I64; omega) | (simp only [List.length_append, List.length_cons, List.length_nil, List.length_take, List.length_drop] at *; omega) | (unfold I64; simp only [List.length_append, List.length_cons, List.length_nil, List.length_take, List.length_drop] at *; omega)), by (first | omega | (unfold I64; omega) | (simp only [List.length_append, List.length_cons, List.length_nil, List.length_take, List.length_drop] at *; omega) | (unfold I64; simp only [List.length_append, List.length_cons, List.length_nil, List.length_take, List.length_drop] at *; omega)), by (first | omega | (unfold I64; omega) | (simp only [List.length_append, List.length_cons, List.length_nil, List.length_take, List.length_drop] at *; omega) | (unfold I64; simp only [List.length_append, List.length_cons, List.length_nil, List.length_take, List.length_drop] at *; omega)), hK (i + 1) _ (by omega) (by omega) ⟨?_, ?_⟩⟩, fun h2 => ?_⟩, fun h1 => ⟨fun h => (by cases h), fun _ => ?_⟩⟩
  · rw [hs, gi_nat (by omega), List.take_succ_eq_append_getElem (by omega)]
  · have := of_decide_eq_true h2; omega
  · have := of_decide_eq_false h2; rw [hs, te (by omega)]; exact h
  · rw [hs, te (by omega)]; exact h
theorem hasR_ok {l : List Ad} {a : Ad} {Q : Bool → Prop} (hl : l.length ≤ 1000000) (h : Q (aIn l a)) : ref11_Has_W l a Q := by
  refine loop_up1 l.length (fun i => a ∉ l.take i) (by simp) fun K i hi hI hK => ?_
  show ref11_Has_l1 _ _ _ _ _
  unfold ref11_Has_l1
  refine ⟨fun c => ⟨by (first | omega | (unfold I64; omega) | (simp only [List.length_append, List.length_cons, List.length_nil, List.length_take, List.length_drop] at *; omega) | (unfold I64; simp only [List.length_append, List.length_cons, List.length_nil, List.length_take, List.length_drop] at *; omega)), ?_⟩, fun c => ?_⟩
  · have hi' : i < l.length := by omega
    rw [gi_nat hi']
    refine ⟨fun q => ?_, fun q => ⟨by (first | omega | (unfold I64; omega) | (simp only [List.length_append, List.length_cons, List.length_nil, List.length_take, List.length_drop] at *; omega) | (unfold I64; simp only [List.length_append, List.length_cons, List.length_nil, List.length_take, List.length_drop] at *; omega)), hK (i + 1) (by omega) (by omega) ?_⟩⟩
    · have : aIn l a = true := decide_eq_true (q ▸ List.getElem_mem hi')
      rw [this] at h; exact h
    · rw [List.take_succ_eq_append_getElem hi', List.mem_append, List.mem_singleton]
      rintro (k | k)
      · exact hI k
      · exact q k.symm
  · rw [List.take_of_length_le (by omega)] at hI
    have : aIn l a = false := decide_eq_false hI
    rw [this] at h; exact h
theorem addR_ok {l : List Ad} {a : Ad} {Q : List Ad → Prop} (hl : l.length ≤ 1000000) (h : Q (ins l a)) : ref11_Add_W l a Q := by
  unfold ref11_Add_W
  refine hasR_ok hl ?_
  have hj : ∀ b, (b = true ↔ (a ∈ l ∨ aGood a = false)) → ref11_Add_j1 l a Q b := by
    intro b hb
    unfold ref11_Add_j1
    refine ⟨fun c => ?_, fun c => ?_⟩
    · unfold ins at h; rw [if_pos (hb.1 c)] at h; exact h
    · have hn : ¬ (a ∈ l ∨ aGood a = false) := fun q => by rw [hb.2 q] at c; cases c
      unfold ins at h; rw [if_neg hn] at h
      have hend : ∀ i : Nat, i ≤ l.length → (∀ x ∈ l.take i, aCmp x a < 0) → (∀ (hi : i < l.length), ¬ aCmp l[i] a < 0) → ref11_Add_j2 l a Q (i : Int) := by
        intro i hi h1 h2
        have ht : (l.takeWhile fun x => decide (aCmp x a < 0)) = l.take i ∧ (l.dropWhile fun x => decide (aCmp x a < 0)) = l.drop i := by
          have hsp : l = l.take i ++ l.drop i := (List.take_append_drop i l).symm
          constructor
          · conv => lhs; rw [hsp]
            rw [List.takeWhile_append_of_pos (fun x hx => decide_eq_true (h1 x hx))]
            rcases hd : l.drop i with _ | ⟨z, r⟩
            · simp
            · have hlt : i < l.length := by
                rcases Nat.lt_or_ge i l.length with q | q
                · exact q
                · rw [List.drop_of_length_le q] at hd; cases hd
              rw [List.drop_eq_getElem_cons hlt] at hd; injection hd with hd1 hd2
              rw [List.takeWhile_cons_of_neg (by simpa [← hd1] using h2 hlt), List.append_nil]
          · conv => lhs; rw [hsp]
            rw [List.dropWhile_append_of_pos (fun x hx => decide_eq_true (h1 x hx))]
            rcases hd : l.drop i with _ | ⟨z, r⟩
            · rfl
            · have hlt : i < l.length := by
                rcases Nat.lt_or_ge i l.length with q | q
                · exact q
                · rw [List.drop_of_length_le q] at hd; cases hd
              rw [List.drop_eq_getElem_cons hlt] at hd; injection hd with hd1 hd2
              rw [List.dropWhile_cons_of_neg (by simpa [← hd1] using h2 hlt)]
        unfold ref11_Add_j2
        rw [cut0n, cutn]
        rw [ht.1, ht.2] at h
        refine ⟨by (first | omega | (unfold I64; omega) | (simp only [List.length_append, List.length_cons, List.length_nil, List.length_take, List.length_drop] at *; omega) | (unfold I64; simp only [List.length_append, List.length_cons, List.length_nil, List.length_take, List.length_drop] at *; omega)), by (first | omega | (unfold I64; omega) | (simp only [List.length_append, List.length_cons, List.length_nil, List.length_take, List.length_drop] at *; omega) | (unfold I64; simp only [List.length_append, List.length_cons, List.length_nil, List.length_take, List.length_drop] at *; omega)), by (first | omega | (unfold I64; omega) | (simp only [List.length_append, List.length_cons, List.length_nil, List.length_take, List.length_drop] at *; omega) | (unfold I64; simp only [List.length_append, List.length_cons, List.length_nil, List.length_take, List.length_drop] at *; omega)), by (first | omega | (unfold I64; omega) | (simp only [List.length_append, List.length_cons, List.length_nil, List.length_take, List.length_drop] at *; omega) | (unfold I64; simp only [List.length_append, List.length_cons, List.length_nil, List.length_take, List.length_drop] at *; omega)), ?_⟩
        simpa using h
      refine loop_up1 l.length (fun i => ∀ x ∈ l.take i, aCmp x a < 0) (by simp) fun K i hi hI hK => ?_
      show ref11_Add_l1 _ _ _ _ _
      unfold ref11_Add_l1
      refine ⟨fun c => ⟨by (first | omega | (unfold I64; omega) | (simp only [List.length_append, List.length_cons, List.length_nil, List.length_take, List.length_drop] at *; omega) | (unfold I64; simp only [List.length_append, List.length_cons, List.length_nil, List.length_take, List.length_drop] at *; omega)), ?_⟩, fun c => hend i hi hI (fun q => by omega)⟩
      have hi' : i < l.length := by omega
      rw [gi_nat hi']
      refine cmpR_ok ⟨fun q => ⟨by (first | omega | (unfold I64; omega) | (simp only [List.length_append, List.length_cons, List.length_nil, List.length_take, List.length_drop] at *; omega) | (unfold I64; simp only [List.length_append, List.length_cons, List.length_nil, List.length_take, List.length_drop] at *; omega)), hK (i + 1) (by omega) (by omega) ?_⟩, fun q => hend i hi hI (fun _ => q)⟩
      intro x hx
      rw [List.take_succ_eq_append_getElem hi', List.mem_append, List.mem_singleton] at hx
      rcases hx with hx | rfl
      · exact hI x hx
      · exact q
  refine ⟨fun c => hj true (by have := of_decide_eq_true c; simp [this]), fun c => goodR_ok (hj _ ?_)⟩
  have := of_decide_eq_false c
  simp [this]
theorem ofR_ok {l : List Ad} {Q : List Ad → Prop} (hl : l.length ≤ 100000) (h : Q (ofL l)) : ref11_Of_W l Q := by
  refine loop_fold l ins fun K i s hi hs hK => ?_
  have e : s.length ≤ i := by rw [hs]; have := ofL_len (l.take i); rw [List.length_take] at this; unfold ofL at this; omega
  show ref11_Of_l1 _ _ _ _ _
  unfold ref11_Of_l1
  refine ⟨fun c => ⟨by (first | omega | (unfold I64; omega) | (simp only [List.length_append, List.length_cons, List.length_nil, List.length_take, List.length_drop] at *; omega) | (unfold I64; simp only [List.length_append, List.length_cons, List.length_nil, List.length_take, List.length_drop] at *; omega)), addR_ok (by simp only; omega) ⟨by (first | omega | (unfold I64; omega) | (simp only [List.length_append, List.length_cons, List.length_nil, List.length_take, List.length_drop] at *; omega) | (unfold I64; simp only [List.length_append, List.length_cons, List.length_nil, List.length_take, List.length_drop] at *; omega)), ?_⟩⟩, fun c => ?_⟩
  · rw [gi_nat (by omega)]; exact hK (by omega)
  · rw [List.take_of_length_le (by omega)] at hs; rw [hs]; exact h
theorem orR_ok {a b : List Ad} {Q : List Ad → Prop} (ha : a.length ≤ 10000) (hb : b.length ≤ 10000) (h : Q (orL a b)) : ref11_Or_W a b Q := by
  unfold ref11_Or_W
  refine ⟨by (first | omega | (unfold I64; omega) | (simp only [List.length_append, List.length_cons, List.length_nil, List.length_take, List.length_drop] at *; omega) | (unfold I64; simp only [List.length_append, List.length_cons, List.length_nil, List.length_take, List.length_drop] at *; omega)), by (first | omega | (unfold I64; omega) | (simp only [List.length_append, List.length_cons, List.length_nil, List.length_take, List.length_drop] at *; omega) | (unfold I64; simp only [List.length_append, List.length_cons, List.length_nil, List.length_take, List.length_drop] at *; omega)), ofR_ok (by (first | omega | (unfold I64; omega) | (simp only [List.length_append, List.length_cons, List.length_nil, List.length_take, List.length_drop] at *; omega) | (unfold I64; simp only [List.length_append, List.length_cons, List.length_nil, List.length_take, List.length_drop] at *; omega))) ?_⟩
  simpa [orL] using h
theorem sameR_ok {a b : List Ad} {Q : Bool → Prop} (ha : a.length ≤ 100000) (h : Q (decide (a = b))) : ref11_Same_W a b Q := by
  unfold ref11_Same_W
  refine ⟨fun c => ?_, fun c => ?_⟩
  · have : a ≠ b := fun e => by subst e; exact c rfl
    rw [decide_eq_false this] at h; exact h
  · have c : a.length = b.length := by omega
    refine loop_up1 a.length (fun i => a.take i = b.take i) (by simp) fun K i hi hI hK => ?_
    show ref11_Same_l1 _ _ _ _ _
    unfold ref11_Same_l1
    refine ⟨fun d => ⟨by (first | omega | (unfold I64; omega) | (simp only [List.length_append, List.length_cons, List.length_nil, List.length_take, List.length_drop] at *; omega) | (unfold I64; simp only [List.length_append, List.length_cons, List.length_nil, List.length_take, List.length_drop] at *; omega)), by (first | omega | (unfold I64; omega) | (simp only [List.length_append, List.length_cons, List.length_nil, List.length_take, List.length_drop] at *; omega) | (unfold I64; simp only [List.length_append, List.length_cons, List.length_nil, List.length_take, List.length_drop] at *; omega)), ?_⟩, fun d => ?_⟩
    · have h1 : i < a.length := by omega
      have h2 : i < b.length := by omega
      rw [gi_nat h1, gi_nat h2]
      refine ⟨fun q => ?_, fun q => ⟨by (first | omega | (unfold I64; omega) | (simp only [List.length_append, List.length_cons, List.length_nil, List.length_take, List.length_drop] at *; omega) | (unfold I64; simp only [List.length_append, List.length_cons, List.length_nil, List.length_take, List.length_drop] at *; omega)), hK (i + 1) (by omega) (by omega) ?_⟩⟩
      · have : a ≠ b := fun e => by subst e; exact q rfl
        rw [decide_eq_false this] at h; exact h
      · rw [List.take_succ_eq_append_getElem h1, List.take_succ_eq_append_getElem h2, hI, q]
    · have hab : a = b := by
        have h3 : i = a.length := by omega
        subst h3
        rw [List.take_length, c, List.take_length] at hI; exact hI
      rw [decide_eq_true hab] at h; exact h
theorem indexFunc_Ad {l : List Ad} {p : Ad → Bool} {Q : Int → Prop} (hl : l.length ≤ 1000000) (h0 : (∀ x ∈ l, p x = false) → Q (-1)) (h1 : ∀ (i : Nat) (hi : i < l.length), p l[i] = true → (∀ x ∈ l.take i, p x = false) → Q (i : Int)) : slices_IndexFunc_s_api_Addr_api_Addr_W l p Q := by
  refine loop_up1 l.length (fun i => ∀ x ∈ l.take i, p x = false) (by simp) fun K i hi hI hK => ?_
  show slices_IndexFunc_s_api_Addr_api_Addr_l1 _ _ _ _ _
  unfold slices_IndexFunc_s_api_Addr_api_Addr_l1
  refine ⟨fun c => ⟨by (first | omega | (unfold I64; omega) | (simp only [List.length_append, List.length_cons, List.length_nil, List.length_take, List.length_drop] at *; omega) | (unfold I64; simp only [List.length_append, List.length_cons, List.length_nil, List.length_take, List.length_drop] at *; omega)), ?_⟩, fun c => ?_⟩
  · have hi' : i < l.length := by omega
    rw [gi_nat hi']
    refine ⟨fun q => h1 i hi' q hI, fun q => ⟨by (first | omega | (unfold I64; omega) | (simp only [List.length_append, List.length_cons, List.length_nil, List.length_take, List.length_drop] at *; omega) | (unfold I64; simp only [List.length_append, List.length_cons, List.length_nil, List.length_take, List.length_drop] at *; omega)), hK (i + 1) (by omega) (by omega) ?_⟩⟩
    intro x hx
    rw [List.take_succ_eq_append_getElem hi'] at hx
    rcases List.mem_append.1 hx with hx | hx
    · exact hI x hx
    · rw [List.mem_singleton] at hx; subst hx; exact q
  · rw [List.take_of_length_le (by omega)] at hI; exact h0 hI
theorem clone_Ad {l : List Ad} {Q : List Ad → Prop} (hl : l.length ≤ 1000000) (h : Q l) : slices_Clone_s_api_Addr_api_Addr_W l Q :=
  ⟨fun c => by subst c; exact h, fun _ => ⟨by (first | omega | (unfold I64; omega) | (simp only [List.length_append, List.length_cons, List.length_nil, List.length_take, List.length_drop] at *; omega) | (unfold I64; simp only [List.length_append, List.length_cons, List.length_nil, List.length_take, List.length_drop] at *; omega)), h⟩⟩
def sel (f : Bool) (x : Ad) : List Ad := if f then [x] else []
def selL (f : Bool) (a : List Ad) : List Ad := if f then a else []
def walkL (f g h : Bool) : List Ad → List Ad → List Ad
  | [], b => selL h b
  | x :: a, [] => selL f (x :: a)
  | x :: a, y :: b => if aCmp x y < 0 then sel f x ++ walkL f g h a (y :: b) else if 0 < aCmp x y then sel h y ++ walkL f g h (x :: a) b else sel g x ++ walkL f g h a b
termination_by a b => a.length + b.length
theorem mem_sel {f : Bool} {x z : Ad} : z ∈ sel f x ↔ f = true ∧ z = x := by unfold sel; cases f <;> simp
theorem mem_selL {f : Bool} {a : List Ad} {z : Ad} : z ∈ selL f a ↔ f = true ∧ z ∈ a := by unfold selL; cases f <;> simp
theorem ASet.tail {x : Ad} {a : List Ad} (h : ASet (x :: a)) : ASet a := ⟨(List.pairwise_cons.1 h.rise).2, fun y hy => h.good y (by simp [hy])⟩
theorem ASet.head {x : Ad} {a : List Ad} (h : ASet (x :: a)) : ∀ z ∈ a, aLt x z := (List.pairwise_cons.1 h.rise).1
theorem walkL_set (f g h : Bool) : ∀ (n : Nat) (a b : List Ad), a.length + b.length ≤ n → ASet a → ASet b →
    (∀ z, z ∈ walkL f g h a b ↔ (f = true ∧ z ∈ a ∧ z ∉ b) ∨ (g = true ∧ z ∈ a ∧ z ∈ b) ∨ (h = true ∧ z ∉ a ∧ z ∈ b)) ∧ (walkL f g h a b).Pairwise aLt
  | n, [], b, hn, ha, hb => by
    rw [walkL]
    refine ⟨fun z => by rw [mem_selL]; simp, ?_⟩
    unfold selL; split
    · exact hb.rise
    · exact List.Pairwise.nil
  | n, x :: a, [], hn, ha, hb => by
    rw [walkL]
    refine ⟨fun z => by rw [mem_selL]; simp, ?_⟩
    unfold selL; split
    · exact ha.rise
    · exact List.Pairwise.nil
  | 0, x :: a, y :: b, hn, ha, hb => by simp at hn
  | n + 1, x :: a, y :: b, hn, ha, hb => by
    simp only [List.length_cons] at hn
    rw [walkL]
    have hxa : x ∉ a := fun q => aLt_irrefl _ (ha.head x q)
    have hyb : y ∉ b := fun q => aLt_irrefl _ (hb.head y q)
    split
    · rename_i c
      have c' : aLt x y := c
      obtain ⟨i1, i2⟩ := walkL_set f g h n a (y :: b) (by simp only [List.length_cons]; omega) ha.tail hb
      have hxb : ∀ z ∈ y :: b, aLt x z := by
        intro z hz
        rcases List.mem_cons.1 hz with rfl | hz
        · exact c'
        · exact aLt_trans _ _ _ c' (hb.head z hz)
      have hxn : x ∉ y :: b := fun q => aLt_irrefl _ (hxb x q)
      refine ⟨fun z => ?_, ?_⟩
      · rw [List.mem_append, mem_sel, i1]
        by_cases e : z = x
        · subst e; simp [hxa, hxn]
        · simp [e]
      · rw [List.pairwise_append]
        refine ⟨by unfold sel; split <;> simp, i2, fun p hp q hq => ?_⟩
        obtain ⟨_, rfl⟩ := mem_sel.1 hp
        rcases (i1 q).1 hq with ⟨_, k, _⟩ | ⟨_, k, _⟩ | ⟨_, _, k⟩
        · exact ha.head q k
        · exact ha.head q k
        · exact hxb q k
    · rename_i c
      split
      · rename_i d
        have d' : aLt y x := by unfold aLt; have := aCmp_flip x y; omega
        obtain ⟨i1, i2⟩ := walkL_set f g h n (x :: a) b (by simp only [List.length_cons]; omega) ha hb.tail
        have hya : ∀ z ∈ x :: a, aLt y z := by
          intro z hz
          rcases List.mem_cons.1 hz with rfl | hz
          · exact d'
          · exact aLt_trans _ _ _ d' (ha.head z hz)
        have hyn : y ∉ x :: a := fun q => aLt_irrefl _ (hya y q)
        refine ⟨fun z => ?_, ?_⟩
        · rw [List.mem_append, mem_sel, i1]
          by_cases e : z = y
          · subst e; simp [hyb, hyn]
          · simp [e]
        · rw [List.pairwise_append]
          refine ⟨by unfold sel; split <;> simp, i2, fun p hp q hq => ?_⟩
          obtain ⟨_, rfl⟩ := mem_sel.1 hp
          rcases (i1 q).1 hq with ⟨_, k, _⟩ | ⟨_, k, _⟩ | ⟨_, _, k⟩
          · exact hya q k
          · exact hya q k
          · exact hb.head q k
      · rename_i d
        have exy : x = y := aCmp_eq (ha.good x (by simp)) (hb.good y (by simp)) (by omega)
        subst exy
        obtain ⟨i1, i2⟩ := walkL_set f g h n a b (by omega) ha.tail hb.tail
        refine ⟨fun z => ?_, ?_⟩
        · rw [List.mem_append, mem_sel, i1]
          by_cases e : z = x
          · subst e; simp [hxa, hyb]
          · simp [e]
        · rw [List.pairwise_append]
          refine ⟨by unfold sel; split <;> simp, i2, fun p hp q hq => ?_⟩
          obtain ⟨_, rfl⟩ := mem_sel.1 hp
          rcases (i1 q).1 hq with ⟨_, k, _⟩ | ⟨_, k, _⟩ | ⟨_, _, k⟩
          · exact ha.head q k
          · exact ha.head q k
          · exact hb.head q k
theorem walkL_aset (f g h : Bool) {a b : List Ad} (ha : ASet a) (hb : ASet b) : ASet (walkL f g h a b) :=
  ⟨(walkL_set f g h _ a b (Nat.le_refl _) ha hb).2, fun x hx => by
    rcases ((walkL_set f g h _ a b (Nat.le_refl _) ha hb).1 x).1 hx with ⟨_, k, _⟩ | ⟨_, k, _⟩ | ⟨_, _, k⟩
    · exact ha.good x k
    · exact ha.good x k
    · exact hb.good x k⟩
theorem walkL_or {a b : List Ad} (ha : ASet a) (hb : ASet b) : walkL true true true a b = orL a b :=
  (walkL_aset _ _ _ ha hb).ext (orL_set a b) fun x => by rw [(walkL_set _ _ _ _ a b (Nat.le_refl _) ha hb).1, mem_orL ha hb]; by_cases p : x ∈ a <;> by_cases q : x ∈ b <;> simp [p, q]
theorem walkL_and {a b : List Ad} (ha : ASet a) (hb : ASet b) : walkL false true false a b = andL a b :=
  (walkL_aset _ _ _ ha hb).ext (ha.filter _) fun x => by rw [(walkL_set _ _ _ _ a b (Nat.le_refl _) ha hb).1]; show _ ↔ x ∈ andL a b; rw [mem_andL]; simp
theorem walkL_minus {a b : List Ad} (ha : ASet a) (hb : ASet b) : walkL true false false a b = minusL a b :=
  (walkL_aset _ _ _ ha hb).ext (ha.filter _) fun x => by rw [(walkL_set _ _ _ _ a b (Nat.le_refl _) ha hb).1]; show _ ↔ x ∈ minusL a b; rw [mem_minusL]; simp
theorem takeP_ok {x : Ad} {is : Bool} {c : List Ad} {Q : List Ad → Prop} (hc : c.length ≤ 1000000) (h : Q (c ++ sel is x)) : srcs_walk_1_api_Addr_W x is c Q := by
  unfold srcs_walk_1_api_Addr_W
  refine ⟨fun q => ⟨by (first | omega | (unfold I64; omega) | (simp only [List.length_append, List.length_cons, List.length_nil, List.length_take, List.length_drop] at *; omega) | (unfold I64; simp only [List.length_append, List.length_cons, List.length_nil, List.length_take, List.length_drop] at *; omega)), by subst q; exact h⟩, fun q => by subst q; simpa [sel] using h⟩
theorem sel_snoc {f : Bool} {a : List Ad} {i : Nat} (h : i < a.length) : selL f (a.take (i + 1)) = selL f (a.take i) ++ sel f a[i] := by
  unfold selL sel; split
  · rw [List.take_succ_eq_append_getElem h]
  · rfl
theorem selL_len (f : Bool) (a : List Ad) : (selL f a).length ≤ a.length := by unfold selL; split <;> simp
theorem tailP_ok {f h : Bool} {a b out : List Ad} {Q : List Ad → Prop} (hl : out.length + a.length + b.length ≤ 100000) (hQ : Q (out ++ selL f a ++ selL h b)) :
    loopW (fun (K_2 : (List T_api_Addr × Int) → Prop) (s : List T_api_Addr × Int) => srcs_walk_api_Addr_l2 f h Q a b (fun out_0_2 n_1 => K_2 (out_0_2, n_1)) s.1 s.2) (out, 0) := by
  refine loop_up a.length (fun i s => s = out ++ selL f (a.take i)) (by unfold selL; split <;> simp) fun K i s hi hs hK => ?_
  have e : s.length ≤ out.length + a.length := by rw [hs, List.length_append]; have := selL_len f (a.take i); rw [List.length_take] at this; omega
  simp only
  unfold srcs_walk_api_Addr_l2
  refine ⟨fun c => ⟨by (first | omega | (unfold I64; omega) | (simp only [List.length_append, List.length_cons, List.length_nil, List.length_take, List.length_drop] at *; omega) | (unfold I64; simp only [List.length_append, List.length_cons, List.length_nil, List.length_take, List.length_drop] at *; omega)), takeP_ok (by omega) ⟨by (first | omega | (unfold I64; omega) | (simp only [List.length_append, List.length_cons, List.length_nil, List.length_take, List.length_drop] at *; omega) | (unfold I64; simp only [List.length_append, List.length_cons, List.length_nil, List.length_take, List.length_drop] at *; omega)), ?_⟩⟩, fun c => ?_⟩
  · rw [gi_nat (by omega)]
    refine hK (i + 1) _ (by omega) (by omega) ?_
    rw [hs, sel_snoc (by omega), List.append_assoc]
  · rw [List.take_of_length_le (by omega)] at hs
    subst hs
    refine loop_up b.length (fun i s => s = out ++ selL f a ++ selL h (b.take i)) (by unfold selL; split <;> simp) fun K i s hi hs hK => ?_
    have e : s.length ≤ out.length + a.length + b.length := by rw [hs, List.length_append, List.length_append]; have := selL_len f a; have := selL_len h (b.take i); rw [List.length_take] at this; omega
    simp only
    unfold srcs_walk_api_Addr_l3
    refine ⟨fun c => ⟨by (first | omega | (unfold I64; omega) | (simp only [List.length_append, List.length_cons, List.length_nil, List.length_take, List.length_drop] at *; omega) | (unfold I64; simp only [List.length_append, List.length_cons, List.length_nil, List.length_take, List.length_drop] at *; omega)), takeP_ok (by omega) ⟨by (first | omega | (unfold I64; omega) | (simp only [List.length_append, List.length_cons, List.length_nil, List.length_take, List.length_drop] at *; omega) | (unfold I64; simp only [List.length_append, List.length_cons, List.length_nil, List.length_take, List.length_drop] at *; omega)), ?_⟩⟩, fun c => ?_⟩
    · rw [gi_nat (by omega)]
      refine hK (i + 1) _ (by omega) (by omega) ?_
      rw [hs, sel_snoc (by omega), ← List.append_assoc]
    · rw [List.take_of_length_le (by omega)] at hs
      rw [hs]; exact hQ
theorem cut1 {x : Ad} {a : List Ad} : cut (x :: a) 1 ((x :: a).length : Int) = a := by
  have := cutn (x :: a) 1; simpa using this
theorem walkP_ok {f g h : Bool} {a b : List Ad} {Q : List Ad → Prop} (hl : a.length + b.length ≤ 10000) (hQ : Q (walkL f g h a b)) : srcs_walk_api_Addr_W a b aCmp f g h Q := by
  refine ⟨fun s => s.2.2 ++ walkL f g h s.1 s.2.1 = walkL f g h a b ∧ s.2.2.length + s.1.length + s.2.1.length ≤ 10000, fun s => s.1.length + s.2.1.length, ⟨rfl, by simpa using hl⟩, ?_⟩
  rintro ⟨x, y, out⟩ ⟨hw, hn⟩
  simp only at hw hn ⊢
  unfold srcs_walk_api_Addr_l1 srcs_walk_api_Addr_j1
  have fin : x = [] ∨ y = [] → Q (out ++ selL f x ++ selL h y) := by
    intro q
    have : walkL f g h x y = selL f x ++ selL h y := by
      rcases x with _ | ⟨u, x⟩
      · rw [walkL]; unfold selL; split <;> simp
      · rcases q with q | rfl
        · cases q
        · rw [walkL]; unfold selL; split <;> simp
    rw [List.append_assoc, ← this, hw]; exact hQ
  refine ⟨fun c => ⟨fun d => ?_, fun d => tailP_ok (by omega) (fin (.inr ?_))⟩, fun c => ⟨fun d => (by cases d), fun _ => tailP_ok (by omega) (fin (.inl ?_))⟩⟩
  · have d := of_decide_eq_true d
    rcases x with _ | ⟨u, x⟩
    · simp at c
    · rcases y with _ | ⟨v, y⟩
      · simp at d
      · have g0 : ∀ (z : Ad) (r : List Ad), gi (z :: r) 0 = z := fun _ _ => rfl
        rw [g0, g0, cut1, cut1]
        simp only [List.length_cons] at hn c d ⊢
        rw [walkL] at hw
        refine ⟨by omega, by omega, fun p => ?_, fun p => ⟨fun q => ?_, fun q => ?_⟩⟩
        · rw [if_pos p] at hw
          refine takeP_ok (by omega) ⟨by omega, ⟨by rw [List.append_assoc]; exact hw, ?_⟩, by omega⟩
          rw [List.length_append]; have : (sel f u).length ≤ 1 := by unfold sel; split <;> simp
          first | omega | (simp only [List.length_cons]; omega)
        · rw [if_neg p, if_pos q] at hw
          refine takeP_ok (by omega) ⟨by omega, ⟨by rw [List.append_assoc]; exact hw, ?_⟩, by omega⟩
          rw [List.length_append]; have : (sel h v).length ≤ 1 := by unfold sel; split <;> simp
          first | omega | (simp only [List.length_cons]; omega)
        · rw [if_neg p, if_neg q] at hw
          refine takeP_ok (by omega) ⟨by omega, by omega, ⟨by rw [List.append_assoc]; exact hw, ?_⟩, by omega⟩
          rw [List.length_append]; have : (sel g u).length ≤ 1 := by unfold sel; split <;> simp
          omega
  · have := of_decide_eq_false d
    exact List.length_eq_zero_iff.1 (by omega)
  · exact List.length_eq_zero_iff.1 (by omega)
theorem orP_ok {a b : List Ad} {Q : List Ad → Prop} (ha : ASet a) (hb : ASet b) (hl : a.length + b.length ≤ 10000) (h : Q (orL a b)) : srcs_Or_W a b Q :=
  ⟨aCmp, fun _ _ => cmpP_ok rfl, walkP_ok hl (by rw [walkL_or ha hb]; exact h)⟩
theorem andP_ok {a b : List Ad} {Q : List Ad → Prop} (ha : ASet a) (hb : ASet b) (hl : a.length + b.length ≤ 10000) (h : Q (andL a b)) : srcs_And_W a b Q :=
  ⟨aCmp, fun _ _ => cmpP_ok rfl, walkP_ok hl (by rw [walkL_and ha hb]; exact h)⟩
theorem minusP_ok {a b : List Ad} {Q : List Ad → Prop} (ha : ASet a) (hb : ASet b) (hl : a.length + b.length ≤ 10000) (h : Q (minusL a b)) : srcs_Minus_W a b Q :=
  ⟨aCmp, fun _ _ => cmpP_ok rfl, walkP_ok hl (by rw [walkL_minus ha hb]; exact h)⟩
theorem swo_ad : Swo aCmp where
  irrefl x := by unfold Go.Proofs.ltOf; rw [decide_eq_false_iff_not, aCmp_refl]; omega
  trans x y z := by unfold Go.Proofs.ltOf; rw [decide_eq_true_eq, decide_eq_true_eq, decide_eq_true_eq]; exact aLt_trans x y z
  ntrans x y z := by
    unfold Go.Proofs.ltOf
    rw [decide_eq_false_iff_not, decide_eq_false_iff_not, decide_eq_false_iff_not]
    intro h k q
    have h1 := aCmp_flip x y
    have h2 := aCmp_flip y z
    rcases Int.lt_trichotomy (aCmp x y) 0 with c | c | c
    · exact h c
    · have e := scmp_eq _ _ c
      apply k; unfold aCmp at q ⊢; rw [← e]; exact q
    · have c' : aLt y x := by unfold aLt; omega
      exact k (aLt_trans y x z c' q)
theorem setP_ok {l : List Ad} {Q : Bool → Prop} (hl : l.length ≤ 1000000) (h : ∀ b, (b = true ↔ ASet l) → Q b) : srcs_Good_W l Q := by
  refine loop_up1 l.length (fun i => ASet (l.take i)) (by simpa using ASet.nil) fun K i hi hI hK => ?_
  show srcs_Good_l1 _ _ _ _
  unfold srcs_Good_l1
  refine ⟨fun c => ⟨by (first | omega | (unfold I64; omega) | (simp only [List.length_append, List.length_cons, List.length_nil, List.length_take, List.length_drop] at *; omega) | (unfold I64; simp only [List.length_append, List.length_cons, List.length_nil, List.length_take, List.length_drop] at *; omega)), goodP_ok ⟨fun q => ?_, fun q => ⟨fun d => ⟨by (first | omega | (unfold I64; omega) | (simp only [List.length_append, List.length_cons, List.length_nil, List.length_take, List.length_drop] at *; omega) | (unfold I64; simp only [List.length_append, List.length_cons, List.length_nil, List.length_take, List.length_drop] at *; omega)), by (first | omega | (unfold I64; omega) | (simp only [List.length_append, List.length_cons, List.length_nil, List.length_take, List.length_drop] at *; omega) | (unfold I64; simp only [List.length_append, List.length_cons, List.length_nil, List.length_take, List.length_drop] at *; omega)), cmpP_ok ⟨fun r => ?_, fun r => ⟨by (first | omega | (unfold I64; omega) | (simp only [List.length_append, List.length_cons, List.length_nil, List.length_take, List.length_drop] at *; omega) | (unfold I64; simp only [List.length_append, List.length_cons, List.length_nil, List.length_take, List.length_drop] at *; omega)), hK (i + 1) (by omega) (by omega) ?_⟩⟩⟩, fun d => ⟨by (first | omega | (unfold I64; omega) | (simp only [List.length_append, List.length_cons, List.length_nil, List.length_take, List.length_drop] at *; omega) | (unfold I64; simp only [List.length_append, List.length_cons, List.length_nil, List.length_take, List.length_drop] at *; omega)), hK (i + 1) (by omega) (by omega) ?_⟩⟩⟩⟩, fun c => ?_⟩
  · refine h false ⟨fun q => (by cases q), fun hs => ?_⟩
    rw [gi_nat (show i < l.length by omega)] at q
    have := hs.good l[i] (List.getElem_mem _)
    rw [this] at q; cases q
  · refine h false ⟨fun q => (by cases q), fun hs => ?_⟩
    have e1 : ((i : Int) - 1) = ((i - 1 : Nat) : Int) := by omega
    rw [e1, gi_nat (show i - 1 < l.length by omega), gi_nat (show i < l.length by omega)] at r
    have := List.pairwise_iff_getElem.1 hs.rise (i - 1) i (by omega) (by omega) (by omega)
    unfold aLt at this; omega
  · have hi' : i < l.length := by omega
    have e1 : ((i : Int) - 1) = ((i - 1 : Nat) : Int) := by omega
    rw [e1, gi_nat (show i - 1 < l.length by omega), gi_nat hi'] at r
    rw [gi_nat hi'] at q
    have hg : aGood l[i] = true := by simpa using q
    rw [List.take_succ_eq_append_getElem hi']
    refine ⟨?_, fun x hx => ?_⟩
    · rw [List.pairwise_append]
      refine ⟨hI.rise, by simp, fun x hx y hy => ?_⟩
      rw [List.mem_singleton] at hy; subst hy
      obtain ⟨k, hk, rfl⟩ := List.mem_iff_getElem.1 hx
      rw [List.length_take] at hk
      rw [List.getElem_take]
      have hlast : aLt l[i - 1] l[i] := by unfold aLt; omega
      by_cases e : k = i - 1
      · subst e; exact hlast
      · have := List.pairwise_iff_getElem.1 hI.rise k (i - 1) (by rw [List.length_take]; omega) (by rw [List.length_take]; omega) (by omega)
        rw [List.getElem_take, List.getElem_take] at this
        exact aLt_trans _ _ _ this hlast
    · rw [List.mem_append, List.mem_singleton] at hx
      rcases hx with hx | rfl
      · exact hI.good x hx
      · exact hg
  · have hi' : i < l.length := by omega
    rw [gi_nat hi'] at q
    have hg : aGood l[i] = true := by simpa using q
    have : i = 0 := by omega
    subst this
    rw [List.take_succ_eq_append_getElem hi', List.take_zero, List.nil_append]
    exact ⟨by simp, by simpa using hg⟩
  · rw [List.take_of_length_le (by omega)] at hI
    exact h true ⟨fun _ => hI, fun _ => rfl⟩
abbrev Fi := T_api_Filter
def letsB (f : Bool × List Ad) (x : Ad) : Bool := !(aIn f.2 x == f.1)
def bare (f : Fi) : Bool × List Ad := (f.1, f.2.2)
def exB (B : List (Bool × List Ad)) : Bool := B.any (·.1)
def anyB (B : List (Bool × List Ad)) (x : Ad) : Bool := B.any fun f => letsB f x
def inB (B : List (Bool × List Ad)) (x : Ad) : Bool := !(anyB B x == exB B)
structure Goods (l : List Fi) : Prop where
  set : ∀ f ∈ l, ASet f.2.2 ∧ f.2.2.length ≤ 6
  len : l.length ≤ 12
theorem exB_iff {l : List Fi} : exB (l.map bare) = true ↔ ∃ f ∈ l, f.1 = true := by unfold exB bare; simp [List.any_map]
theorem anyB_iff {l : List Fi} {x : Ad} : anyB (l.map bare) x = true ↔ ∃ f ∈ l, letsB (bare f) x = true := by unfold anyB; simp [List.any_map]
theorem lets0 {f : Fi} {x : Ad} (h : f.1 = false) : letsB (bare f) x = true ↔ x ∈ f.2.2 := by unfold letsB bare aIn; simp [h]
theorem lets1 {f : Fi} {x : Ad} (h : f.1 = true) : letsB (bare f) x = true ↔ x ∉ f.2.2 := by unfold letsB bare aIn; simp [h]
theorem inB0 {l : List Fi} {x : Ad} (h : exB (l.map bare) = false) : inB (l.map bare) x = true ↔ ∃ f ∈ l, f.1 = false ∧ x ∈ f.2.2 := by
  have h0 : ∀ f ∈ l, f.1 = false := fun f hf => by
    cases c : f.1 with
    | false => rfl
    | true => rw [exB_iff.2 ⟨f, hf, c⟩] at h; cases h
  unfold inB; rw [h]
  have : (!(anyB (l.map bare) x == false)) = anyB (l.map bare) x := by cases anyB (l.map bare) x <;> rfl
  rw [this, anyB_iff]
  exact ⟨fun ⟨f, hf, q⟩ => ⟨f, hf, h0 f hf, (lets0 (h0 f hf)).1 q⟩, fun ⟨f, hf, a, q⟩ => ⟨f, hf, (lets0 a).2 q⟩⟩
theorem inB1 {l : List Fi} {x : Ad} (h : exB (l.map bare) = true) : inB (l.map bare) x = true ↔ (∀ f ∈ l, f.1 = true → x ∈ f.2.2) ∧ ¬ ∃ f ∈ l, f.1 = false ∧ x ∈ f.2.2 := by
  unfold inB; rw [h]
  have : (!(anyB (l.map bare) x == true)) = !anyB (l.map bare) x := by cases anyB (l.map bare) x <;> rfl
  rw [this, Bool.not_eq_true', ← Bool.not_eq_true, anyB_iff]
  refine ⟨fun q => ⟨fun f hf a => ?_, fun ⟨f, hf, a, m⟩ => q ⟨f, hf, (lets0 a).2 m⟩⟩, fun ⟨q, r⟩ ⟨f, hf, m⟩ => ?_⟩
  · by_cases m : x ∈ f.2.2
    · exact m
    · exact absurd ⟨f, hf, (lets1 a).2 m⟩ q
  · cases c : f.1 with
    | false => exact r ⟨f, hf, c, (lets0 c).1 m⟩
    | true => exact (lets1 c).1 m (q f hf c)
theorem fewP_ok {e : Bool} {s : List Ad} {Q : Bool → List Ad → Prop} (h : Q e (ofL (s.take 6))) : law19_Few_W e s Q :=
  addrs_ok (ofR_ok (by rw [List.length_take]; omega) h)
theorem take_succ_mem {α : Type} {l : List α} {i : Nat} (h : i < l.length) {x : α} : x ∈ l.take (i + 1) ↔ x ∈ l.take i ∨ x = l[i] := by
  rw [List.take_succ_eq_append_getElem h, List.mem_append, List.mem_singleton]
structure AllInv (l : List Fi) (i : Nat) (sm : List Ad) (e : Bool) (o : List Ad) : Prop where
  s1 : ASet sm
  s2 : ∀ x, x ∈ sm ↔ ∃ f ∈ l.take i, f.1 = false ∧ x ∈ f.2.2
  s3 : sm.length ≤ 6 * i
  e1 : e = true ↔ ∃ f ∈ l.take i, f.1 = true
  o1 : ASet o
  o2 : e = true → ∀ x, x ∈ o ↔ ∀ f ∈ l.take i, f.1 = true → x ∈ f.2.2
  o3 : o.length ≤ 6
theorem allP_ok {l : List Fi} {Q : Bool → List Ad → Prop} (hg : Goods l) (h : ∀ S, ASet S → S.length ≤ 100 → (∀ x, x ∈ S ↔ inB (l.map bare) x = true) → Q (exB (l.map bare)) S) : merge_All_W l Q := by
  have hl := hg.len
  refine ⟨fun s => ∃ i : Nat, s.2.2.2 = i ∧ i ≤ l.length ∧ AllInv l i s.1 s.2.1 s.2.2.1, fun s => ((l.length : Int) - s.2.2.2).toNat, ⟨0, rfl, Nat.zero_le _, ⟨ASet.nil, by simp, by simp, by simp, ASet.nil, by simp, by simp⟩⟩, ?_⟩
  rintro ⟨sm, e, o, _⟩ ⟨i, rfl, hi, hI⟩
  replace hI : AllInv l i sm e o := hI
  have h3 := hI.s3
  have h4 := hI.o3
  show merge_All_l1 l Q _ sm e o (i : Int)
  unfold merge_All_l1
  refine ⟨fun d => ⟨by (first | omega | (unfold I64; omega) | (simp only [List.length_append, List.length_cons, List.length_nil, List.length_take, List.length_drop] at *; omega) | (unfold I64; simp only [List.length_append, List.length_cons, List.length_nil, List.length_take, List.length_drop] at *; omega)), ?_⟩, fun d => ?_⟩
  · have i1 : i < l.length := by simp at d; omega
    have hf := hg.set _ (List.getElem_mem i1)
    rw [gi_nat i1]
    have key : ∀ sm' e' o', AllInv l (i + 1) sm' e' o' → (I64 ((i : Int) + 1)) ∧ ((∃ j : Nat, ((sm', e', o', (i : Int) + 1) : List Ad × Bool × List Ad × Int).2.2.2 = j ∧ j ≤ l.length ∧ AllInv l j sm' e' o') ∧ ((l.length : Int) - ((i : Int) + 1)).toNat < ((l.length : Int) - (i : Int)).toNat) := fun sm' e' o' q =>
      ⟨by (first | omega | (unfold I64; omega) | (simp only [List.length_append, List.length_cons, List.length_nil, List.length_take, List.length_drop] at *; omega) | (unfold I64; simp only [List.length_append, List.length_cons, List.length_nil, List.length_take, List.length_drop] at *; omega)), ⟨i + 1, by simp, by omega, q⟩, by omega⟩
    have tm := fun x : Fi => take_succ_mem i1 (x := x)
    refine ⟨fun c => ?_, fun c => ⟨fun c2 => ?_, fun c2 => ?_⟩⟩
    · have c' : l[i].1 = false := by simpa using c
      refine orP_ok hI.s1 hf.1 (by omega) (key _ _ _ ?_)
      refine ⟨orL_set _ _, fun x => ?_, by have := orL_len sm l[i].2.2; omega, ?_, hI.o1, fun he x => ?_, hI.o3⟩
      · rw [mem_orL hI.s1 hf.1, hI.s2]
        constructor
        · rintro (⟨f, hm, a, b⟩ | b)
          · exact ⟨f, (tm f).2 (.inl hm), a, b⟩
          · exact ⟨_, (tm _).2 (.inr rfl), c', b⟩
        · rintro ⟨f, hm, a, b⟩
          rcases (tm f).1 hm with hm | rfl
          · exact .inl ⟨f, hm, a, b⟩
          · exact .inr b
      · rw [hI.e1]
        constructor
        · rintro ⟨f, hm, a⟩; exact ⟨f, (tm f).2 (.inl hm), a⟩
        · rintro ⟨f, hm, a⟩
          rcases (tm f).1 hm with hm | rfl
          · exact ⟨f, hm, a⟩
          · rw [c'] at a; cases a
      · rw [hI.o2 he]
        constructor
        · intro q f hm a
          rcases (tm f).1 hm with hm | rfl
          · exact q f hm a
          · rw [c'] at a; cases a
        · intro q f hm a; exact q f ((tm f).2 (.inl hm)) a
    · have c' : l[i].1 = true := by simpa using c
      have e0 : e = false := by simpa using c2
      subst e0
      have none : ∀ f ∈ l.take i, f.1 = false := fun f hm => by
        cases q : f.1 with
        | false => rfl
        | true => exact absurd (hI.e1.2 ⟨f, hm, q⟩) (by simp)
      refine key _ _ _ ⟨hI.s1, fun x => ?_, by omega, ?_, hf.1, fun _ x => ?_, hf.2⟩
      · rw [hI.s2]
        constructor
        · rintro ⟨f, hm, a, b⟩; exact ⟨f, (tm f).2 (.inl hm), a, b⟩
        · rintro ⟨f, hm, a, b⟩
          rcases (tm f).1 hm with hm | rfl
          · exact ⟨f, hm, a, b⟩
          · rw [c'] at a; cases a
      · exact ⟨fun _ => ⟨_, (tm _).2 (.inr rfl), c'⟩, fun _ => rfl⟩
      · constructor
        · intro q f hm a
          rcases (tm f).1 hm with hm | rfl
          · rw [none f hm] at a; cases a
          · exact q
        · intro q; exact q _ ((tm _).2 (.inr rfl)) c'
    · have c' : l[i].1 = true := by simpa using c
      have e0 : e = true := by simpa using c2
      refine andP_ok hI.o1 hf.1 (by omega) (key _ _ _ ?_)
      refine ⟨hI.s1, fun x => ?_, by omega, ?_, hI.o1.filter _, fun _ x => ?_, Nat.le_trans (List.length_filter_le _ _) hI.o3⟩
      · rw [hI.s2]
        constructor
        · rintro ⟨f, hm, a, b⟩; exact ⟨f, (tm f).2 (.inl hm), a, b⟩
        · rintro ⟨f, hm, a, b⟩
          rcases (tm f).1 hm with hm | rfl
          · exact ⟨f, hm, a, b⟩
          · rw [c'] at a; cases a
      · exact ⟨fun _ => ⟨_, (tm _).2 (.inr rfl), c'⟩, fun _ => e0⟩
      · rw [mem_andL, hI.o2 e0]
        constructor
        · rintro ⟨q, q2⟩ f hm a
          rcases (tm f).1 hm with hm | rfl
          · exact q f hm a
          · exact q2
        · intro q; exact ⟨fun f hm a => q f ((tm f).2 (.inl hm)) a, q _ ((tm _).2 (.inr rfl)) c'⟩
  · have i1 : i = l.length := by simp at d; omega
    subst i1
    have tk : l.take l.length = l := List.take_length
    have ee : e = exB (l.map bare) := by
      have := hI.e1; rw [tk, ← exB_iff] at this
      exact Bool.eq_iff_iff.2 this
    have s2 := hI.s2; rw [tk] at s2
    have o2 := hI.o2; rw [tk] at o2
    refine ⟨fun c => ?_, fun c => ?_⟩
    · have e0 : e = false := by simpa using c
      have := h sm hI.s1 (by omega) fun x => by rw [s2, inB0 (ee ▸ e0)]
      rw [← ee, e0] at this; exact this
    · have e0 : e = true := by simpa using c
      refine minusP_ok hI.o1 hI.s1 (by omega) ?_
      rw [ee]
      refine h _ (hI.o1.filter _) (Nat.le_trans (List.length_filter_le _ _) (by omega)) fun x => ?_
      rw [mem_minusL, o2 e0, s2, inB1 (ee ▸ e0)]
theorem letsR_ok {e : Bool} {s : List Ad} {a : Ad} {Q : Bool → Prop} (hl : s.length ≤ 1000) (h : Q (letsB (e, s) a)) : ref19_Lets_W e s a Q := by
  refine ⟨fun c => ?_, fun c => ?_⟩ <;> subst c <;> refine hasR_ok (by omega) ?_
  · have : (!aIn s a) = letsB (true, s) a := by unfold letsB; cases aIn s a <;> rfl
    rw [this]; exact h
  · have : aIn s a = letsB (false, s) a := by unfold letsB; cases aIn s a <;> rfl
    rw [this]; exact h
theorem anyB_take {l : List Fi} {i : Nat} (h : i < l.length) (x : Ad) : anyB ((l.take (i + 1)).map bare) x = (anyB ((l.take i).map bare) x || letsB (bare l[i]) x) := by
  rw [List.take_succ_eq_append_getElem h, List.map_append]; unfold anyB; rw [List.any_append]; simp
theorem exB_take {l : List Fi} {i : Nat} (h : i < l.length) : exB ((l.take (i + 1)).map bare) = (exB ((l.take i).map bare) || l[i].1) := by
  rw [List.take_succ_eq_append_getElem h, List.map_append]; unfold exB; rw [List.any_append]; simp [bare]
theorem anyR_ok {l : List Fi} {out all o : List Ad} {e : Bool} {i : Nat} {K : List Ad → Int → Prop} (hg : Goods l) (hi : i < all.length) (ha : all.length ≤ 100) (ho : o.length ≤ i)
    (h : K (o ++ sel (!(anyB (l.map bare) all[i] == e)) all[i]) ((i : Int) + 1)) :
    loopW (fun (K_3 : (Bool × Int) → Prop) (s : Bool × Int) => ref19_All_l3 l e all o (i : Int) K (fun some_1 k_1 => K_3 (some_1, k_1)) s.1 s.2) (false, 0) := by
  have hl := hg.len
  refine loop_up l.length (fun k s => s = anyB ((l.take k).map bare) all[i]) rfl fun K3 k s hk hs hK => ?_
  show ref19_All_l3 l e all o (i : Int) K _ s (k : Int)
  unfold ref19_All_l3
  refine ⟨fun d => ⟨fun c => ?_, fun c => ⟨by (first | omega | (unfold I64; omega) | (simp only [List.length_append, List.length_cons, List.length_nil, List.length_take, List.length_drop] at *; omega) | (unfold I64; simp only [List.length_append, List.length_cons, List.length_nil, List.length_take, List.length_drop] at *; omega)), by (first | omega | (unfold I64; omega) | (simp only [List.length_append, List.length_cons, List.length_nil, List.length_take, List.length_drop] at *; omega) | (unfold I64; simp only [List.length_append, List.length_cons, List.length_nil, List.length_take, List.length_drop] at *; omega)), ?_⟩⟩, fun d => ⟨fun c => ⟨by (first | omega | (unfold I64; omega) | (simp only [List.length_append, List.length_cons, List.length_nil, List.length_take, List.length_drop] at *; omega) | (unfold I64; simp only [List.length_append, List.length_cons, List.length_nil, List.length_take, List.length_drop] at *; omega)), by (first | omega | (unfold I64; omega) | (simp only [List.length_append, List.length_cons, List.length_nil, List.length_take, List.length_drop] at *; omega) | (unfold I64; simp only [List.length_append, List.length_cons, List.length_nil, List.length_take, List.length_drop] at *; omega)), by (first | omega | (unfold I64; omega) | (simp only [List.length_append, List.length_cons, List.length_nil, List.length_take, List.length_drop] at *; omega) | (unfold I64; simp only [List.length_append, List.length_cons, List.length_nil, List.length_take, List.length_drop] at *; omega)), ?_⟩, fun c => ⟨by (first | omega | (unfold I64; omega) | (simp only [List.length_append, List.length_cons, List.length_nil, List.length_take, List.length_drop] at *; omega) | (unfold I64; simp only [List.length_append, List.length_cons, List.length_nil, List.length_take, List.length_drop] at *; omega)), ?_⟩⟩⟩
  · have k1 : k < l.length := by omega
    refine ⟨by (first | omega | (unfold I64; omega) | (simp only [List.length_append, List.length_cons, List.length_nil, List.length_take, List.length_drop] at *; omega) | (unfold I64; simp only [List.length_append, List.length_cons, List.length_nil, List.length_take, List.length_drop] at *; omega)), hK (k + 1) _ (by omega) (by omega) ?_⟩
    rw [anyB_take k1, ← hs, c]; rfl
  · have k1 : k < l.length := by omega
    have hf := hg.set _ (List.getElem_mem k1)
    rw [gi_nat k1, gi_nat hi]
    refine letsR_ok (by omega) ⟨by (first | omega | (unfold I64; omega) | (simp only [List.length_append, List.length_cons, List.length_nil, List.length_take, List.length_drop] at *; omega) | (unfold I64; simp only [List.length_append, List.length_cons, List.length_nil, List.length_take, List.length_drop] at *; omega)), hK (k + 1) _ (by omega) (by omega) ?_⟩
    rw [anyB_take k1, ← hs, c]; rfl
  · have k1 : k = l.length := by omega
    subst k1
    rw [List.take_length] at hs
    rw [← hs, c] at h
    rw [gi_nat hi]; exact h
  · have k1 : k = l.length := by omega
    subst k1
    rw [List.take_length] at hs
    rw [← hs, c] at h
    simpa [sel] using h
theorem allR_ok {l : List Fi} {Q : Bool → List Ad → Prop} (hg : Goods l) (h : ∀ S, ASet S → (∀ x, x ∈ S ↔ inB (l.map bare) x = true) → Q (exB (l.map bare)) S) : ref19_All_W l Q := by
  have hl := hg.len
  refine ⟨fun s => ∃ i : Nat, s.2.2 = i ∧ i ≤ l.length ∧ s.1 = exB ((l.take i).map bare) ∧ ASet s.2.1 ∧ s.2.1.length ≤ 6 * i ∧ ∀ x, x ∈ s.2.1 ↔ ∃ f ∈ l.take i, x ∈ f.2.2, fun s => ((l.length : Int) - s.2.2).toNat, ⟨0, rfl, Nat.zero_le _, rfl, ASet.nil, by simp, by simp⟩, ?_⟩
  rintro ⟨e, all, _⟩ ⟨i, rfl, hi, he, hs, hn, hm⟩
  replace he : e = exB ((l.take i).map bare) := he
  replace hs : ASet all := hs
  replace hn : all.length ≤ 6 * i := hn
  replace hm : ∀ x, x ∈ all ↔ ∃ f ∈ l.take i, x ∈ f.2.2 := hm
  show ref19_All_l1 l Q _ e all (i : Int)
  unfold ref19_All_l1
  refine ⟨fun d => ?_, fun d => ?_⟩
  · have i1 : i < l.length := by simp at d; omega
    have hf := hg.set _ (List.getElem_mem i1)
    have tm := fun x : Fi => take_succ_mem i1 (x := x)
    have key : ∀ e', e' = exB ((l.take (i + 1)).map bare) → ref19_All_j1 l all (i : Int) (fun e_ a_ i_ => (∃ j : Nat, ((e_, a_, i_) : Bool × List Ad × Int).2.2 = j ∧ j ≤ l.length ∧ e_ = exB ((l.take j).map bare) ∧ ASet a_ ∧ a_.length ≤ 6 * j ∧ ∀ x, x ∈ a_ ↔ ∃ f ∈ l.take j, x ∈ f.2.2) ∧ ((l.length : Int) - i_).toNat < ((l.length : Int) - (i : Int)).toNat) e' := by
      intro e' he'
      unfold ref19_All_j1
      refine ⟨by (first | omega | (unfold I64; omega) | (simp only [List.length_append, List.length_cons, List.length_nil, List.length_take, List.length_drop] at *; omega) | (unfold I64; simp only [List.length_append, List.length_cons, List.length_nil, List.length_take, List.length_drop] at *; omega)), ?_⟩
      rw [gi_nat i1]
      refine orR_ok (by omega) (by omega) ⟨by (first | omega | (unfold I64; omega) | (simp only [List.length_append, List.length_cons, List.length_nil, List.length_take, List.length_drop] at *; omega) | (unfold I64; simp only [List.length_append, List.length_cons, List.length_nil, List.length_take, List.length_drop] at *; omega)), ⟨i + 1, by simp, by omega, he', orL_set _ _, by have := orL_len all l[i].2.2; omega, fun x => ?_⟩, by omega⟩
      rw [mem_orL hs hf.1, hm]
      constructor
      · rintro (⟨f, a, b⟩ | b)
        · exact ⟨f, (tm f).2 (.inl a), b⟩
        · exact ⟨_, (tm _).2 (.inr rfl), b⟩
      · rintro ⟨f, a, b⟩
        rcases (tm f).1 a with a | rfl
        · exact .inl ⟨f, a, b⟩
        · exact .inr b
    refine ⟨fun c => key _ ?_, fun c => ⟨by (first | omega | (unfold I64; omega) | (simp only [List.length_append, List.length_cons, List.length_nil, List.length_take, List.length_drop] at *; omega) | (unfold I64; simp only [List.length_append, List.length_cons, List.length_nil, List.length_take, List.length_drop] at *; omega)), key _ ?_⟩⟩
    · rw [exB_take i1, ← he, c]; rfl
    · rw [exB_take i1, ← he, c, gi_nat i1]; rfl
  · have i1 : i = l.length := by simp at d; omega
    subst i1
    rw [List.take_length] at he hm
    refine loop_up all.length (fun j s => s = (all.take j).filter fun x => inB (l.map bare) x) rfl fun K j o hj ho hK => ?_
    have lo : o.length ≤ j := by rw [ho]; refine Nat.le_trans (List.length_filter_le _ _) ?_; rw [List.length_take]; omega
    show ref19_All_l2 l Q e all _ o (j : Int)
    unfold ref19_All_l2
    refine ⟨fun d2 => ?_, fun d2 => ?_⟩
    · have j1 : j < all.length := by omega
      refine anyR_ok (out := o) hg j1 (by omega) lo (hK (j + 1) _ (by omega) (by omega) ?_)
      rw [List.take_succ_eq_append_getElem j1, List.filter_append, ← ho, he]
      congr 1
      show sel (inB (l.map bare) all[j]) all[j] = _
      unfold sel; cases c : inB (l.map bare) all[j] <;> simp [c]
    · have j1 : j = all.length := by omega
      subst j1
      rw [List.take_length] at ho
      rw [he, ho]
      refine h _ (hs.filter _) fun x => ?_
      rw [List.mem_filter, hm]
      refine ⟨fun q => q.2, fun q => ⟨?_, q⟩⟩
      cases c : exB (l.map bare) with
      | false => obtain ⟨f, a, _, b⟩ := (inB0 c).1 q; exact ⟨f, a, b⟩
      | true =>
        obtain ⟨f, a, b⟩ := exB_iff.1 c
        exact ⟨f, a, ((inB1 c).1 q).1 f a b⟩
theorem sameF_ok {e : Bool} {s t : List Ad} {Q : Bool → Prop} (hst : s = t) (hl : s.length ≤ 1000) (h : Q true) : ref19_Same_W e s e t Q := by
  subst hst
  refine ⟨fun _ => sameR_ok (by omega) ?_, fun c => by simp at c⟩
  rw [decide_eq_true rfl]; exact h
abbrev Rec := T_api_Record
def rk (r : Rec) : Int × Ad × List Ad := (r.1, r.2.1, r.2.2.2)
def one1 (k : Int) (g : Ad) (l : List Ad) : List (Int × Ad × List Ad) := if l = [] then [] else [(k, g, l)]
theorem one1_pos {k : Int} {g : Ad} {l : List Ad} (h : 0 < (l.length : Int)) : one1 k g l = [(k, g, l)] := if_neg (List.ne_nil_of_length_pos (by omega))
theorem one1_nil {k : Int} {g : Ad} {l : List Ad} (h : ¬ 0 < (l.length : Int)) : one1 k g l = [] := if_pos (List.length_eq_zero_iff.1 (by omega))
def recsL (g : Ad) (e : Bool) (s : List Ad) (e2 : Bool) (t : List Ad) : List (Int × Ad × List Ad) :=
  if e = e2 then one1 5 g (if e then minusL s t else minusL t s) ++ one1 6 g (if e then minusL t s else minusL s t) else [(if e2 then 4 else 3, g, t)]
theorem minusL_len (a b : List Ad) : (minusL a b).length ≤ a.length := List.length_filter_le _ _
theorem changeP_ok {g : Ad} {e : Bool} {s : List Ad} {e2 : Bool} {t : List Ad} {Q : List Rec → Prop} (hs : ASet s) (ht : ASet t) (ls : s.length ≤ 100) (lt : t.length ≤ 100) (h : ∀ l : List Rec, l.map rk = recsL g e s e2 t → Q l) : merge_Change_W g e s e2 t Q := by
  have j3 : ∀ (less : List Ad) (out : List Rec), out.length ≤ 10 → (out.map rk ++ one1 6 g less = recsL g e s e2 t) → merge_Change_j3 g Q less out := by
    intro less out ho hr
    refine ⟨fun c v => ⟨by simp only [List.length_cons, List.length_nil]; omega, h _ ?_⟩, fun c => h _ ?_⟩
    · rw [← hr, one1_pos c, List.map_append]; rfl
    · rw [← hr, one1_nil c, List.append_nil]
  have j2 : ∀ (more less : List Ad), (one1 5 g more ++ one1 6 g less = recsL g e s e2 t) → merge_Change_j2 g Q more less := by
    intro more less hr
    refine ⟨fun c v => ⟨by simp, j3 _ _ (by simp) ?_⟩, fun c => j3 _ _ (by simp) ?_⟩
    · rw [← hr, one1_pos c]; rfl
    · rw [← hr, one1_nil c]; rfl
  refine ⟨fun c => ?_, fun c => minusP_ok ht hs (by omega) (minusP_ok hs ht (by omega) ⟨fun d => j2 _ _ ?_, fun d => j2 _ _ ?_⟩)⟩
  · have hne : e ≠ e2 := by simpa using c
    refine ⟨fun d => clone_Ad (by omega) fun v => h _ ?_, fun d => clone_Ad (by omega) fun v => h _ ?_⟩ <;> unfold recsL <;> rw [if_neg hne, d] <;> rfl
  · have he : e = e2 := by simpa using c
    unfold recsL; rw [if_pos he, d]; rfl
  · have he : e = e2 := by simpa using c
    unfold recsL; rw [if_pos he, d]; rfl
theorem recs_len (g : Ad) (e : Bool) (s : List Ad) (e2 : Bool) (t : List Ad) : (recsL g e s e2 t).length ≤ 2 := by
  have h1 : ∀ (k : Int) (l : List Ad), (one1 k g l).length ≤ 1 := by intro k l; unfold one1; split <;> simp
  unfold recsL; split
  · rw [List.length_append]
    have a := h1 5 (if e then minusL s t else minusL t s)
    have b := h1 6 (if e then minusL t s else minusL s t)
    omega
  · simp
def noneB (e : Bool) (s : List Ad) : Bool := !e && decide ((s.length : Int) = 0)
theorem noneP_ok {e : Bool} {s : List Ad} {Q : Bool → Prop} (h : Q (noneB e s)) : merge_none_W e s Q := by
  refine ⟨fun c => ?_, fun c => ?_⟩ <;> (unfold noneB at h; rw [c] at h; simpa using h)
theorem noneR_ok {e : Bool} {s : List Ad} {Q : Bool → Prop} (h : Q (noneB e s)) : ref19_None_W e s Q := by
  refine ⟨fun c => ?_, fun c => ?_⟩ <;> (unfold noneB at h; rw [c] at h; simpa using h)
def aGrp (a : Ad) : Bool := if a.1 then decide (b8 a.2 0 = 255) else decide (224 ≤ b8 a.2 0 ∧ b8 a.2 0 ≤ 239)
theorem fdiv16 {n : Int} (h : 0 ≤ n) : n.fdiv (2 ^ (min (4 : Int).toNat IntKind.u8.bits)) = 14 ↔ 224 ≤ n ∧ n ≤ 239 := by
  have e : (2 ^ (min (4 : Int).toNat IntKind.u8.bits) : Int) = 16 := by decide
  rw [e, Int.fdiv_eq_ediv_of_nonneg _ (by decide)]; omega
theorem grpP_ok {a : Ad} {Q : Bool → Prop} (h : Q (aGrp a)) : addr_Group_W a Q := by
  unfold aGrp at h
  refine ⟨fun c => ?_, fun c => ?_⟩
  · rw [c] at h; exact h
  · rw [c] at h
    have hb : (0 : Int) ≤ b8 a.2 0 := by unfold b8; omega
    simp only [fdiv16 hb]
    exact h
def goodA (a : Ad) : Prop := a.1 = true ∨ a.2.1.drop 4 = List.replicate 12 0
def ownA (a : Ad) : Ad := if a.1 = true then a else (false, ⟨a.2.1.take 4 ++ List.replicate 12 0, by rw [List.length_append, List.length_take, a.2.2, List.length_replicate]; rfl⟩)
theorem ownA_good (a : Ad) : goodA (ownA a) := by
  unfold ownA
  split
  · left; assumption
  · right
    show (a.2.1.take 4 ++ List.replicate 12 0).drop 4 = _
    rw [List.drop_left' (by rw [List.length_take, a.2.2]; rfl)]
theorem own_ok {a : Ad} {Q : Ad → Prop} (h : Q (ownA a)) : ref03_Own_W a Q := by
  have h16 := a.2.2
  refine loop_from (fun s => s.2) 4 16 (fun i s => 4 ≤ i ∧ s.1.1 = if a.1 = true then a.2.1 else a.2.1.take 4 ++ List.replicate (i - 4) 0 ++ a.2.1.drop i) rfl (by omega) ⟨by omega, ?_⟩ ?_
  · dsimp only
    split
    · rfl
    · show a.2.1 = a.2.1.take 4 ++ [] ++ a.2.1.drop 4
      rw [List.append_nil, List.take_append_drop]
  · rintro K i ⟨X, _⟩ rfl hi ⟨h4, hX⟩ hK
    dsimp only at hX ⊢
    unfold ref03_Own_l1
    refine ⟨fun c => ⟨fun d => ⟨by omega, by unfold I64; omega, hK (i + 1) _ rfl (by omega) (by omega) ⟨by omega, ?_⟩⟩, fun d => ⟨by unfold I64; omega, hK (i + 1) _ rfl (by omega) (by omega) ⟨by omega, ?_⟩⟩⟩, fun c => ?_⟩
    · have hv : a.1 = false := by simpa using d
      rw [if_neg (by rw [hv]; decide)] at hX ⊢
      show X.1.set (i : Int).toNat (UInt8.ofNat (0 : Int).toNat) = _
      rw [hX, Int.toNat_natCast]
      have hl : (a.2.1.take 4 ++ List.replicate (i - 4) 0).length = i := by rw [List.length_append, List.length_take, h16, List.length_replicate]; omega
      rw [List.set_append_right _ _ (by omega), hl, Nat.sub_self, List.drop_eq_getElem_cons (by omega), List.set_cons_zero, show i + 1 - 4 = (i - 4) + 1 by omega, List.replicate_succ']
      simp
    · have hv : a.1 = true := by simpa using d
      rw [if_pos hv] at hX ⊢; exact hX
    · have i16 : i = 16 := by omega
      subst i16
      have e : (a.1, X) = ownA a := by
        unfold ownA
        split
        · rename_i hv
          rw [if_pos hv] at hX
          exact Prod.ext rfl (Subtype.ext hX)
        · rename_i hv
          rw [if_neg hv, List.drop_eq_nil_of_le (by omega), List.append_nil] at hX
          exact Prod.ext (by simpa using hv) (Subtype.ext hX)
      rw [e]; exact h
end Go.Wk
