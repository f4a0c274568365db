/- Plain words for one law: what it needs. -/
import Derived.Test.YtmbkoonblmfdpaaGreatHtW8
import Derived.Test.YtmbkoonblmfdpaaGreatPl2
set_option linter.unusedSimpArgs false
set_option linter.unusedVariables false
set_option linter.unusedSectionVars false
namespace Go.Wk
open Go.HL
variable [DM]
abbrev Ad := af
theorem DJ (a b : UInt8) (x y : Str) : H5 (a :: x) (b :: y) = if a < b then -1 else if b < a then 1 else H5 x y := by
  unfold H5; rw [Lib.compareBytes]
theorem O1 : ∀ a : Str, H5 a a = 0
  | [] => rfl
  | a :: x => by rw [DJ, if_neg (UInt8.lt_irrefl a), if_neg (UInt8.lt_irrefl a), O1 x]
theorem WT {a b : UInt8} (h : ¬ a < b) (k : ¬ b < a) : a = b := by
  rw [UInt8.lt_iff_toNat_lt] at h k; exact UInt8.toNat_inj.1 (by omega)
theorem WX : ∀ a b : Str, H5 a b = 0 -> a = b
  | [], [], _ => rfl
  | [], _ :: _, h => by simp [H5, Lib.compareBytes] at h
  | _ :: _, [], h => by simp [H5, Lib.compareBytes] at h
  | a :: x, b :: y, h => by
    rw [DJ] at h
    split at h
    · omega
    · split at h
      · omega
      · rename_i p q; rw [WT p q, WX x y h]
theorem Wj : ∀ a b : Str, H5 b a = - H5 a b
  | [], [] => rfl
  | [], _ :: _ => rfl
  | _ :: _, [] => rfl
  | a :: x, b :: y => by
    rw [DJ, DJ, Wj x y]
    have : a < b -> ¬ b < a := fun h k => by rw [UInt8.lt_iff_toNat_lt] at h k; omega
    by_cases p : a < b
    · rw [if_pos p, if_neg (this p), if_pos p]; rfl
    · by_cases q : b < a
      · rw [if_pos q, if_neg p, if_pos q]
      · rw [if_neg q, if_neg p, if_neg p, if_neg q]
theorem Ux : ∀ a b c : Str, H5 a b < 0 -> H5 b c < 0 -> H5 a c < 0
  | [], [], _, h, _ => absurd h (by decide)
  | _, [], [], _, h => absurd h (by decide)
  | [], _ :: _, [], _, h => by simp [H5, Lib.compareBytes] at h
  | [], _ :: _, _ :: _, _, _ => by simp [H5, Lib.compareBytes]
  | _ :: _, [], _, h, _ => by simp [H5, Lib.compareBytes] at h
  | _ :: _, _ :: _, [], _, h => by simp [H5, Lib.compareBytes] at h
  | a :: x, b :: y, c :: z, h, k => by
    rw [DJ] at h k ⊢
    by_cases p : a < b
    · by_cases q : b < c
      · rw [if_pos (by rw [UInt8.lt_iff_toNat_lt] at *; omega)]; decide
      · rw [if_neg q] at k
        by_cases r : c < b
        · rw [if_pos r] at k; omega
        · have := WT q r; subst this; rw [if_pos p]; decide
    · rw [if_neg p] at h
      by_cases q : b < a
      · rw [if_pos q] at h; omega
      · rw [if_neg q] at h
        have := WT p q; subst this
        by_cases r : a < c
        · rw [if_pos r]; decide
        · rw [if_neg r] at k ⊢
          by_cases s : c < a
          · rw [if_pos s] at k; omega
          · rw [if_neg s] at k ⊢; exact Ux x y z h k
theorem Wi : ∀ (i : Nat) (x y : Str), x.take i = y.take i -> i <= x.length -> i <= y.length -> H5 x y = H5 (x.drop i) (y.drop i)
  | 0, _, _, _, _, _ => rfl
  | i + 1, [], _, _, h, _ => by simp at h
  | i + 1, _ :: _, [], _, _, h => by simp at h
  | i + 1, a :: x, b :: y, h, h1, h2 => by
    simp only [List.take_succ_cons, List.cons.injEq] at h
    obtain ⟨rfl, h⟩ := h
    rw [DJ, if_neg (UInt8.lt_irrefl a), if_neg (UInt8.lt_irrefl a)]
    exact Wi i x y h (by simpa using h1) (by simpa using h2)
def aw (a : Ad) : Nat := if a.1 then 16 else 4
def ak (a : Ad) : Str := (if a.1 then 1 else 0) :: a.2.1.take (aw a)
def yj (a b : Ad) : Int := H5 (ak a) (ak b)
def wY (a : Ad) : Bool := a.1 || decide (a.2.1.drop 4 = List.replicate 12 0)
def WN (a b : Ad) : Prop := yj a b < 0
theorem KA (a : Ad) : ¬ WN a a := by unfold WN yj; rw [O1]; omega
theorem Ii (a b c : Ad) : WN a b -> WN b c -> WN a c := Ux _ _ _
theorem Pm (a b : Ad) : yj b a = - yj a b := Wj _ _
theorem abr (a : Ad) : yj a a = 0 := O1 _
theorem aaM {a b : Ad} (ha : wY a = true) (hb : wY b = true) (h : yj a b = 0) : a = b := by
  have h := WX _ _ h
  unfold ak aw at h
  rw [List.cons.injEq] at h
  obtain ⟨h1, h2⟩ := h
  obtain ⟨va, ⟨la, aiE⟩⟩ := a
  obtain ⟨vb, ⟨lb, aiD⟩⟩ := b
  simp only at h1 h2
  have hv : va = vb := by cases va <;> cases vb <;> simp_all
  subst hv
  cases va
  · simp only [wY, Bool.false_or, decide_eq_true_eq] at ha hb
    simp only [Bool.false_eq_true, if_false] at h2
    have : la = lb := by rw [← List.take_append_drop 4 la, ← List.take_append_drop 4 lb, h2, ha, hb]
    subst this; rfl
  · simp only [if_true] at h2
    rw [List.take_of_length_le (by omega), List.take_of_length_le (by omega)] at h2
    subst h2; rfl
theorem XL {a b : Ad} {Q : Int -> Prop} (h : Q (yj a b)) : A8 a b Q := by
  obtain ⟨va, ⟨la, aiE⟩⟩ := a
  obtain ⟨vb, ⟨lb, aiD⟩⟩ := b
  unfold yj ak aw at h
  unfold A8 IY IZ Ha
  cases va <;> cases vb <;> simp [DJ, cut] at h ⊢ <;> exact h
theorem adT {x y : Str} {i : Nat} (h : x.take i = y.take i) (h1 : i < x.length) (h2 : i < y.length) : H5 x y = if x[i] < y[i] then -1 else if y[i] < x[i] then 1 else H5 (x.drop (i + 1)) (y.drop (i + 1)) := by
  rw [Wi i x y h (by omega) (by omega), List.drop_eq_getElem_cons h1, List.drop_eq_getElem_cons h2, DJ]
theorem Y8 {n : Nat} (x : Ba n) {i : Nat} (h : i < n) : b8 x (i : Int) = ((x.1[i]'(by rw [x.2]; exact h)).toNat : Int) := by
  unfold b8; rw [qB (by rw [x.2]; exact h)]
theorem abC {a b : UInt8} : ((a.toNat : Nat) : Int) < (b.toNat : Int) ↔ a < b := by rw [UInt8.lt_iff_toNat_lt]; omega
theorem aaK {a b : Ad} {Q : Int -> Prop} (h : Q (yj a b)) : Fp a b Q := by
  unfold Fp
  refine ⟨fun c => ⟨fun d => ?_, fun d => ?_⟩, fun c => ?_⟩
  · have : a.1 = false := by simp [d] at c; exact c
    have e : yj a b = -1 := by unfold yj ak; rw [this, d]; rfl
    rw [e] at h; exact h
  · have : a.1 = true := by simp [d] at c; exact c
    have e : yj a b = 1 := by unfold yj ak; rw [this, d]; rfl
    rw [e] at h; exact h
  · have hv : a.1 = b.1 := by simpa using c
    have e : yj a b = H5 (a.2.1.take (aw a)) (b.2.1.take (aw b)) := by
      unfold yj ak; rw [hv, DJ, if_neg (UInt8.lt_irrefl _), if_neg (UInt8.lt_irrefl _)]
    have hw : aw b = aw a := by unfold aw; rw [hv]
    have hw16 : aw a <= 16 := by unfold aw; split <;> omega
    have hla : (a.2.1.take (aw a)).length = aw a := by rw [List.length_take, a.2.2]; omega
    have hlb : (b.2.1.take (aw a)).length = aw a := by rw [List.length_take, b.2.2]; omega
    rw [e, hw] at h
    have hend : ∀ i, i = aw a -> a.2.1.take i = b.2.1.take i -> Q 0 := by
      rintro i rfl hi
      rw [hi, O1] at h; exact h
    refine GG (aw a) (fun i => a.2.1.take i = b.2.1.take i) (by simp) fun K i hi hI hK => ?_
    show Gm _ _ _ _ _
    have step : i < aw a -> DN a b Q (i : Int) K := by
      intro hlt
      have h16 : i < 16 := by omega
      unfold DN
      rw [Y8 a.2 h16, Y8 b.2 h16]
      have hx : (a.2.1.take (aw a)).take i = (b.2.1.take (aw a)).take i := by rw [List.take_take, List.take_take, Nat.min_eq_left (by omega)]; exact hI
      have hc := adT hx (by omega) (by omega)
      rw [List.getElem_take, List.getElem_take] at hc
      refine ⟨by (first | omega | (unfold I64; omega) | (simp only [List.length_append, List.length_cons, List.length_nil, List.length_take, List.length_drop] at *; omega) | (unfold I64; simp only [List.length_append, List.length_cons, List.length_nil, List.length_take, List.length_drop] at *; omega)), fun q => ?_, fun q => ⟨fun r => ?_, fun r => ⟨by (first | omega | (unfold I64; omega) | (simp only [List.length_append, List.length_cons, List.length_nil, List.length_take, List.length_drop] at *; omega) | (unfold I64; simp only [List.length_append, List.length_cons, List.length_nil, List.length_take, List.length_drop] at *; omega)), hK (i + 1) (by omega) (by omega) ?_⟩⟩⟩
      · rw [hc, if_pos (abC.1 q)] at h; exact h
      · rw [hc, if_neg (fun k => q (abC.2 k)), if_pos (abC.1 r)] at h; exact h
      · rw [List.take_succ_eq_append_getElem (by rw [a.2.2]; omega), List.take_succ_eq_append_getElem (by rw [b.2.2]; omega), hI, WT (fun k => q (abC.2 k)) (fun k => r (abC.2 k))]
    unfold Gm
    have hwt : a.1 = true -> aw a = 16 := fun q => by unfold aw; rw [q]; rfl
    have hwf : a.1 = false -> aw a = 4 := fun q => by unfold aw; rw [q]; rfl
    refine ⟨fun q => ⟨fun r => step (by have := hwt r; omega), fun r => ⟨fun s => step (by have := hwf r; omega), fun s => hend i (by have := hwf r; omega) hI⟩⟩, fun q => hend i (by omega) hI⟩
theorem YV {a : Ad} {Q : Bool -> Prop} (h : Q (wY a)) : Gl a Q := by
  refine aa5 (s0 := (4 : Int)) (fun s => s) 4 16 (fun i _ => 4 <= i /\ (a.1 = false -> ∀ k (hk : k < 16), 4 <= k -> k < i -> a.2.1[k]'(by rw [a.2.2]; exact hk) = 0)) rfl (by omega) ⟨by omega, fun _ k _ h1 h2 => by omega⟩ ?_
  rintro K i _ rfl hi ⟨h4, hz⟩ hK
  show Eg _ _ _ _
  unfold Eg
  refine ⟨fun c => ⟨fun d => ⟨by (first | omega | (unfold I64; omega) | (simp only [List.length_append, List.length_cons, List.length_nil, List.length_take, List.length_drop] at *; omega) | (unfold I64; simp only [List.length_append, List.length_cons, List.length_nil, List.length_take, List.length_drop] at *; omega)), fun q => ?_, fun q => ⟨by (first | omega | (unfold I64; omega) | (simp only [List.length_append, List.length_cons, List.length_nil, List.length_take, List.length_drop] at *; omega) | (unfold I64; simp only [List.length_append, List.length_cons, List.length_nil, List.length_take, List.length_drop] at *; omega)), hK (i + 1) _ rfl (by omega) (by omega) ⟨by omega, fun v k hk h1 h2 => ?_⟩⟩⟩, fun d => ⟨by (first | omega | (unfold I64; omega) | (simp only [List.length_append, List.length_cons, List.length_nil, List.length_take, List.length_drop] at *; omega) | (unfold I64; simp only [List.length_append, List.length_cons, List.length_nil, List.length_take, List.length_drop] at *; omega)), hK (i + 1) _ rfl (by omega) (by omega) ⟨by omega, fun v => by simp [v] at d⟩⟩⟩, fun c => ?_⟩
  · have ahr : i < 16 := by omega
    rw [Y8 a.2 ahr] at q
    have : wY a = false := by
      have hv : a.1 = false := by simpa using d
      unfold wY; rw [hv, Bool.false_or, decide_eq_false_iff_not]
      intro e
      have h5 : (a.2.1.drop 4)[i - 4]? = (List.replicate 12 (0 : UInt8))[i - 4]? := by rw [e]
      rw [List.getElem?_drop, show 4 + (i - 4) = i by omega, List.getElem?_eq_getElem (by rw [a.2.2]; exact ahr), List.getElem?_replicate, if_pos (by omega)] at h5
      simp only [Option.some.injEq] at h5
      rw [h5] at q; exact q rfl
    rw [this] at h; exact h
  · by_cases e : k < i
    · exact hz v k hk h1 e
    · have : k = i := by omega
      subst this
      rw [Y8 a.2 hk] at q
      exact UInt8.toNat_inj.1 (by show _ = 0; omega)
  · have : wY a = true := by
      unfold wY
      cases hv : a.1 with
      | true => rfl
      | false =>
        rw [Bool.false_or, decide_eq_true_eq]
        apply List.ext_getElem
        · rw [List.length_drop, a.2.2, List.length_replicate]
        · intro k h1 h2
          rw [List.length_replicate] at h2
          rw [List.getElem_drop, List.getElem_replicate]
          exact hz hv (4 + k) (by omega) (by omega) (by omega)
    rw [this] at h; exact h
theorem Vb {a : Ad} {Q : Bool -> Prop} (h : Q (wY a)) : Dw a Q := by
  unfold Dw
  refine ⟨fun v => ?_, fun v => ?_⟩
  · unfold wY at h; rw [v] at h; exact h
  · refine ⟨Qj _ _, Qj _ _, Qj _ _, Qj _ _, ?_⟩
    have e : decide ((a : af) = (false, NK 16 [b8 a.2 0, b8 a.2 1, b8 a.2 2, b8 a.2 3, 0, 0, 0, 0, 0, 0, 0, 0, 0, 0, 0, 0])) = wY a := by
      have hm : (NK 16 [b8 a.2 0, b8 a.2 1, b8 a.2 2, b8 a.2 3, 0, 0, 0, 0, 0, 0, 0, 0, 0, 0, 0, 0]).1 = a.2.1.take 4 ++ List.replicate 12 0 := by
        have hl := a.2.2
        apply List.ext_getElem
        · rw [(NK 16 _).2, List.length_append, List.length_take, hl, List.length_replicate]; rfl
        · intro i h1 h2
          rw [(NK 16 _).2] at h1
          have k0 : ∀ j, j < 4 -> ∀ (hj : j < a.2.1.length), UInt8.ofNat (b8 a.2 (j : Int)).toNat = a.2.1[j] := by
            intro j hj hj'
            rw [Y8 a.2 (by omega), Int.toNat_natCast, UInt8.ofNat_toNat]
          simp only [NK, List.getElem_map, List.getElem_range]
          by_cases hi : i < 4
          · rw [List.getElem_append_left (by rw [List.length_take, hl]; omega), List.getElem_take]
            rw [← k0 i hi (by omega)]
            congr 2
            rcases i with _ | _ | _ | _ | i
            · rfl
            · rfl
            · rfl
            · rfl
            · omega
          · rw [List.getElem_append_right (by rw [List.length_take, hl]; omega), List.getElem_replicate]
            have : ([b8 a.2 0, b8 a.2 1, b8 a.2 2, b8 a.2 3, 0, 0, 0, 0, 0, 0, 0, 0, 0, 0, 0, 0] : List Int).getD i 0 = 0 := by
              rw [show i = 4 + (i - 4) by omega]
              rcases hq : i - 4 with _ | _ | _ | _ | _ | _ | _ | _ | _ | _ | _ | _ | q
              all_goals first | rfl | omega
            rw [this]; rfl
      unfold wY
      rw [v, Bool.false_or]
      apply decide_eq_decide.2
      constructor
      · intro e
        have h2 : a.2.1 = a.2.1.take 4 ++ List.replicate 12 0 := by rw [← hm]; exact congrArg (fun x : Ad => x.2.1) e
        have h3 : (a.2.1.take 4).length = 4 := by rw [List.length_take, a.2.2]; rfl
        rw [h2, List.drop_append, h3, List.drop_of_length_le (by omega)]; rfl
      · intro e
        have h2 : a.2.1 = a.2.1.take 4 ++ List.replicate 12 0 := by rw [← e, List.take_append_drop]
        exact Prod.ext v (Subtype.ext (h2.trans hm.symm))
    show Q _
    rw [e]; exact h
structure vJ (l : List Ad) : Prop where
  rise : l.Pairwise WN
  good : ∀ x ∈ l, wY x = true
theorem vJ.nil : vJ [] := ⟨List.Pairwise.nil, by simp⟩
theorem vJ.ext {l m : List Ad} (hl : vJ l) (hm : vJ m) (h : ∀ x, x ∈ l ↔ x ∈ m) : l = m := Yj KA Ii hl.rise hm.rise h
theorem vJ.filter {l : List Ad} (hl : vJ l) (p : Ad -> Bool) : vJ (l.filter p) := ⟨YY p hl.rise, fun x hx => hl.good x (List.mem_filter.1 hx).1⟩
def ins (l : List Ad) (a : Ad) : List Ad := if a ∈ l ∨ wY a = false then l else (l.takeWhile fun x => decide (yj x a < 0)) ++ a :: l.dropWhile fun x => decide (yj x a < 0)
theorem aam {l : List Ad} {a x : Ad} : x ∈ ins l a ↔ x ∈ l ∨ (x = a /\ wY a = true) := by
  unfold ins
  split
  · rename_i h
    constructor
    · exact .inl
    · rintro (q | ⟨rfl, q⟩)
      · exact q
      · rcases h with h | h
        · exact h
        · rw [h] at q; cases q
  · rename_i h
    have hg : wY a = true := by cases hq : wY a with
      | true => rfl
      | false => exact absurd (.inr hq) h
    have ht : l = (l.takeWhile fun x => decide (yj x a < 0)) ++ l.dropWhile fun x => decide (yj x a < 0) := (List.takeWhile_append_dropWhile).symm
    rw [List.mem_append, List.mem_cons]
    constructor
    · rintro (q | rfl | q)
      · left; rw [ht]; exact List.mem_append_left _ q
      · exact .inr ⟨rfl, hg⟩
      · left; rw [ht]; exact List.mem_append_right _ q
    · rintro (q | ⟨rfl, _⟩)
      · rw [ht, List.mem_append] at q
        rcases q with q | q
        · exact .inl q
        · exact .inr (.inr q)
      · exact .inr (.inl rfl)
theorem ad5 (l : List Ad) (a : Ad) : (ins l a).length <= l.length + 1 := by
  unfold ins
  split
  · omega
  · have := congrArg List.length (List.takeWhile_append_dropWhile (p := fun x => decide (yj x a < 0)) (l := l))
    rw [List.length_append] at this ⊢; rw [List.length_cons]; omega
theorem vJ.ins {l : List Ad} (hl : vJ l) (a : Ad) : vJ (ins l a) := by
  refine ⟨?_, fun x hx => ?_⟩
  · unfold Wk.ins
    split
    · exact hl.rise
    · rename_i h
      have ht : (l.takeWhile fun x => decide (yj x a < 0)) ++ (l.dropWhile fun x => decide (yj x a < 0)) = l := List.takeWhile_append_dropWhile
      have hr := hl.rise
      rw [← ht, List.pairwise_append] at hr
      have hg : wY a = true := by cases hq : wY a with
        | true => rfl
        | false => exact absurd (.inr hq) h
      have hd : ∀ y ∈ (l.dropWhile fun x => decide (yj x a < 0)), WN a y := by
        intro y hy
        have hyl : y ∈ l := by rw [← ht]; exact List.mem_append_right _ hy
        have hne : yj y a ≠ 0 := fun e => h (.inl (by rw [← aaM (hl.good y hyl) hg e]; exact hyl))
        have hfirst : ¬ yj y a < 0 := by
          rcases hd : (l.dropWhile fun x => decide (yj x a < 0)) with _ | ⟨z, r⟩
          · rw [hd] at hy; cases hy
          · have hz : ¬ yj z a < 0 := by
              have := List.head_dropWhile_not (p := fun x => decide (yj x a < 0)) (l := l) (by rw [hd]; simp)
              simp only [hd, List.head_cons, decide_eq_false_iff_not] at this; exact this
            rw [hd] at hy
            rcases List.mem_cons.1 hy with rfl | hy
            · exact hz
            · have h1 := hr.2.1; rw [hd, List.pairwise_cons] at h1
              have h2 := h1.1 y hy
              intro h3
              exact hz (Ii _ _ _ h2 h3)
        have := Pm y a
        show yj a y < 0
        omega
      have htk : ∀ x ∈ (l.takeWhile fun x => decide (yj x a < 0)), WN x a := fun x hx => by
        have := List.all_eq_true.1 (List.all_takeWhile (p := fun x => decide (yj x a < 0)) (l := l)) x hx
        show yj x a < 0
        exact of_decide_eq_true this
      rw [List.pairwise_append, List.pairwise_cons]
      refine ⟨hr.1, ⟨hd, hr.2.1⟩, fun x hx y hy => ?_⟩
      rcases List.mem_cons.1 hy with rfl | hy
      · exact htk x hx
      · exact hr.2.2 x hx y hy
  · rcases aam.1 hx with hx | ⟨rfl, hx⟩
    · exact hl.good x hx
    · exact hx
def Xh (l : List Ad) : List Ad := l.foldl ins []
theorem UR (l : List Ad) (a : Ad) : Xh (l ++ [a]) = ins (Xh l) a := by unfold Xh; rw [List.foldl_append]; rfl
theorem aaj (l : List Ad) : vJ (Xh l) := by
  induction l using Uu with
  | h0 => exact vJ.nil
  | h1 l a ih => rw [UR]; exact ih.ins a
theorem ad3 {l : List Ad} {x : Ad} : x ∈ Xh l ↔ x ∈ l /\ wY x = true := by
  induction l using Uu with
  | h0 => simp [Xh]
  | h1 l a ih =>
    rw [UR, aam, ih, List.mem_append, List.mem_singleton]
    constructor
    · rintro (⟨p, q⟩ | ⟨rfl, q⟩)
      · exact ⟨.inl p, q⟩
      · exact ⟨.inr rfl, q⟩
    · rintro ⟨p | rfl, q⟩
      · exact .inl ⟨p, q⟩
      · exact .inr ⟨rfl, q⟩
theorem Xg (l : List Ad) : (Xh l).length <= l.length := by
  induction l using Uu with
  | h0 => exact Nat.le_refl _
  | h1 l a ih => rw [UR, List.length_append]; have := ad5 (Xh l) a; simp only [List.length_cons, List.length_nil]; omega
theorem Zp {l : List Ad} (h : vJ l) : Xh l = l := (aaj l).ext h fun x => by rw [ad3]; exact ⟨fun q => q.1, fun q => ⟨q, h.good x q⟩⟩
def MK (b : List Ad) (x : Ad) : Bool := decide (x ∈ b)
def Eb (a b : List Ad) : List Ad := a.filter fun x => !MK b x
def orL (a b : List Ad) : List Ad := Xh (a ++ b)
theorem Zr {a b : List Ad} {x : Ad} : x ∈ Eb a b ↔ x ∈ a /\ x ∉ b := by unfold Eb MK; simp
theorem aah (a b : List Ad) : (orL a b).length <= a.length + b.length := by have := Xg (a ++ b); rw [List.length_append] at this; exact this
theorem adx {l : List Ad} {Q : List Ad -> Prop} (h : Q (l.take 6)) : Iz l 6 Q := by
  refine QH l.length (fun i s => s = l.take i /\ i <= 6) ⟨rfl, by omega⟩ fun K i s hi ⟨hs, h8⟩ hK => ?_
  have e : s.length = i := by rw [hs, List.length_take]; omega
  have te : ∀ (h : ¬ (i < l.length /\ i < 6)), l.take i = l.take 6 := by
    intro h
    by_cases q : i = 6
    · rw [q]
    · rw [List.take_of_length_le (by omega), List.take_of_length_le (by omega)]
  show Dp _ _ _ _ _ _
  unfold Dp Dq
  refine ⟨fun h1 => ⟨fun h2 => ⟨by (first | omega | (unfold I64; omega) | (simp only [List.length_append, List.length_cons, List.length_nil, List.length_take, List.length_drop] at *; omega) | (unfold I64; simp only [List.length_append, List.length_cons, List.length_nil, List.length_take, List.length_drop] at *; omega)), by (first | omega | (unfold I64; omega) | (simp only [List.length_append, List.length_cons, List.length_nil, List.length_take, List.length_drop] at *; omega) | (unfold I64; simp only [List.length_append, List.length_cons, List.length_nil, List.length_take, List.length_drop] at *; omega)), by (first | omega | (unfold I64; omega) | (simp only [List.length_append, List.length_cons, List.length_nil, List.length_take, List.length_drop] at *; omega) | (unfold I64; simp only [List.length_append, List.length_cons, List.length_nil, List.length_take, List.length_drop] at *; omega)), hK (i + 1) _ (by omega) (by omega) ⟨?_, ?_⟩⟩, fun h2 => ?_⟩, fun h1 => ⟨fun h => (by cases h), fun _ => ?_⟩⟩
  · rw [hs, qB (by omega), List.take_succ_eq_append_getElem (by omega)]
  · have := of_decide_eq_true h2; omega
  · have := of_decide_eq_false h2; rw [hs, te (by omega)]; exact h
  · rw [hs, te (by omega)]; exact h
theorem KW {l : List Ad} {a : Ad} {Q : Bool -> Prop} (hl : l.length <= 1000000) (h : Q (MK l a)) : tN l a Q := by
  refine GG l.length (fun i => a ∉ l.take i) (by simp) fun K i hi hI hK => ?_
  show Gi _ _ _ _ _
  unfold Gi
  refine ⟨fun c => ⟨by (first | omega | (unfold I64; omega) | (simp only [List.length_append, List.length_cons, List.length_nil, List.length_take, List.length_drop] at *; omega) | (unfold I64; simp only [List.length_append, List.length_cons, List.length_nil, List.length_take, List.length_drop] at *; omega)), ?_⟩, fun c => ?_⟩
  · have hi' : i < l.length := by omega
    rw [qB hi']
    refine ⟨fun q => ?_, fun q => ⟨by (first | omega | (unfold I64; omega) | (simp only [List.length_append, List.length_cons, List.length_nil, List.length_take, List.length_drop] at *; omega) | (unfold I64; simp only [List.length_append, List.length_cons, List.length_nil, List.length_take, List.length_drop] at *; omega)), hK (i + 1) (by omega) (by omega) ?_⟩⟩
    · have : MK l a = true := decide_eq_true (q ▸ List.getElem_mem hi')
      rw [this] at h; exact h
    · rw [List.take_succ_eq_append_getElem hi', List.mem_append, List.mem_singleton]
      rintro (k | k)
      · exact hI k
      · exact q k.symm
  · rw [List.take_of_length_le (by omega)] at hI
    have : MK l a = false := decide_eq_false hI
    rw [this] at h; exact h
theorem aet {l : List Ad} {a : Ad} {Q : List Ad -> Prop} (hl : l.length <= 1000000) (h : Q (ins l a)) : IK l a Q := by
  unfold IK
  refine KW hl ?_
  have hj : ∀ b, (b = true ↔ (a ∈ l ∨ wY a = false)) -> DL l a Q b := by
    intro b hb
    unfold DL
    refine ⟨fun c => ?_, fun c => ?_⟩
    · unfold ins at h; rw [if_pos (hb.1 c)] at h; exact h
    · have hn : ¬ (a ∈ l ∨ wY a = false) := fun q => by rw [hb.2 q] at c; cases c
      unfold ins at h; rw [if_neg hn] at h
      have hend : ∀ i : Nat, i <= l.length -> (∀ x ∈ l.take i, yj x a < 0) -> (∀ (hi : i < l.length), ¬ yj l[i] a < 0) -> DK l a Q (i : Int) := by
        intro i hi h1 h2
        have ht : (l.takeWhile fun x => decide (yj x a < 0)) = l.take i /\ (l.dropWhile fun x => decide (yj x a < 0)) = l.drop i := by
          have hsp : l = l.take i ++ l.drop i := (List.take_append_drop i l).symm
          constructor
          · conv => lhs; rw [hsp]
            rw [List.takeWhile_append_of_pos (fun x hx => decide_eq_true (h1 x hx))]
            rcases hd : l.drop i with _ | ⟨z, r⟩
            · simp
            · have hlt : i < l.length := by
                rcases Nat.lt_or_ge i l.length with q | q
                · exact q
                · rw [List.drop_of_length_le q] at hd; cases hd
              rw [List.drop_eq_getElem_cons hlt] at hd; injection hd with hd1 hd2
              rw [List.takeWhile_cons_of_neg (by simpa [← hd1] using h2 hlt), List.append_nil]
          · conv => lhs; rw [hsp]
            rw [List.dropWhile_append_of_pos (fun x hx => decide_eq_true (h1 x hx))]
            rcases hd : l.drop i with _ | ⟨z, r⟩
            · rfl
            · have hlt : i < l.length := by
                rcases Nat.lt_or_ge i l.length with q | q
                · exact q
                · rw [List.drop_of_length_le q] at hd; cases hd
              rw [List.drop_eq_getElem_cons hlt] at hd; injection hd with hd1 hd2
              rw [List.dropWhile_cons_of_neg (by simpa [← hd1] using h2 hlt)]
        unfold DK
        rw [ae3, agj]
        rw [ht.1, ht.2] at h
        refine ⟨by (first | omega | (unfold I64; omega) | (simp only [List.length_append, List.length_cons, List.length_nil, List.length_take, List.length_drop] at *; omega) | (unfold I64; simp only [List.length_append, List.length_cons, List.length_nil, List.length_take, List.length_drop] at *; omega)), by (first | omega | (unfold I64; omega) | (simp only [List.length_append, List.length_cons, List.length_nil, List.length_take, List.length_drop] at *; omega) | (unfold I64; simp only [List.length_append, List.length_cons, List.length_nil, List.length_take, List.length_drop] at *; omega)), by (first | omega | (unfold I64; omega) | (simp only [List.length_append, List.length_cons, List.length_nil, List.length_take, List.length_drop] at *; omega) | (unfold I64; simp only [List.length_append, List.length_cons, List.length_nil, List.length_take, List.length_drop] at *; omega)), by (first | omega | (unfold I64; omega) | (simp only [List.length_append, List.length_cons, List.length_nil, List.length_take, List.length_drop] at *; omega) | (unfold I64; simp only [List.length_append, List.length_cons, List.length_nil, List.length_take, List.length_drop] at *; omega)), ?_⟩
        simpa using h
      refine GG l.length (fun i => ∀ x ∈ l.take i, yj x a < 0) (by simp) fun K i hi hI hK => ?_
      show Gj _ _ _ _ _
      unfold Gj
      refine ⟨fun c => ⟨by (first | omega | (unfold I64; omega) | (simp only [List.length_append, List.length_cons, List.length_nil, List.length_take, List.length_drop] at *; omega) | (unfold I64; simp only [List.length_append, List.length_cons, List.length_nil, List.length_take, List.length_drop] at *; omega)), ?_⟩, fun c => hend i hi hI (fun q => by omega)⟩
      have hi' : i < l.length := by omega
      rw [qB hi']
      refine aaK ⟨fun q => ⟨by (first | omega | (unfold I64; omega) | (simp only [List.length_append, List.length_cons, List.length_nil, List.length_take, List.length_drop] at *; omega) | (unfold I64; simp only [List.length_append, List.length_cons, List.length_nil, List.length_take, List.length_drop] at *; omega)), hK (i + 1) (by omega) (by omega) ?_⟩, fun q => hend i hi hI (fun _ => q)⟩
      intro x hx
      rw [List.take_succ_eq_append_getElem hi', List.mem_append, List.mem_singleton] at hx
      rcases hx with hx | rfl
      · exact hI x hx
      · exact q
  refine ⟨fun c => hj true (by have := of_decide_eq_true c; simp [this]), fun c => YV (hj _ ?_)⟩
  have := of_decide_eq_false c
  simp [this]
theorem Xf {l : List Ad} {Q : List Ad -> Prop} (hl : l.length <= 100000) (h : Q (Xh l)) : Dj l Q := by
  refine aa6 l ins fun K i s hi hs hK => ?_
  have e : s.length <= i := by rw [hs]; have := Xg (l.take i); rw [List.length_take] at this; unfold Xh at this; omega
  show IJ _ _ _ _ _
  unfold IJ
  refine ⟨fun c => ⟨by (first | omega | (unfold I64; omega) | (simp only [List.length_append, List.length_cons, List.length_nil, List.length_take, List.length_drop] at *; omega) | (unfold I64; simp only [List.length_append, List.length_cons, List.length_nil, List.length_take, List.length_drop] at *; omega)), aet (by simp only; omega) ⟨by (first | omega | (unfold I64; omega) | (simp only [List.length_append, List.length_cons, List.length_nil, List.length_take, List.length_drop] at *; omega) | (unfold I64; simp only [List.length_append, List.length_cons, List.length_nil, List.length_take, List.length_drop] at *; omega)), ?_⟩⟩, fun c => ?_⟩
  · rw [qB (by omega)]; exact hK (by omega)
  · rw [List.take_of_length_le (by omega)] at hs; rw [hs]; exact h
theorem acf {a b : List Ad} {Q : List Ad -> Prop} (ha : a.length <= 10000) (hb : b.length <= 10000) (h : Q (orL a b)) : E8 a b Q := by
  unfold E8
  refine ⟨by (first | omega | (unfold I64; omega) | (simp only [List.length_append, List.length_cons, List.length_nil, List.length_take, List.length_drop] at *; omega) | (unfold I64; simp only [List.length_append, List.length_cons, List.length_nil, List.length_take, List.length_drop] at *; omega)), by (first | omega | (unfold I64; omega) | (simp only [List.length_append, List.length_cons, List.length_nil, List.length_take, List.length_drop] at *; omega) | (unfold I64; simp only [List.length_append, List.length_cons, List.length_nil, List.length_take, List.length_drop] at *; omega)), Xf (by (first | omega | (unfold I64; omega) | (simp only [List.length_append, List.length_cons, List.length_nil, List.length_take, List.length_drop] at *; omega) | (unfold I64; simp only [List.length_append, List.length_cons, List.length_nil, List.length_take, List.length_drop] at *; omega))) ?_⟩
  simpa [orL] using h
theorem Xk {l : List Ad} {p : Ad -> Bool} {Q : Int -> Prop} (hl : l.length <= 1000000) (h0 : (∀ x ∈ l, p x = false) -> Q (-1)) (h1 : ∀ (i : Nat) (hi : i < l.length), p l[i] = true -> (∀ x ∈ l.take i, p x = false) -> Q (i : Int)) : mV l p Q := by
  refine GG l.length (fun i => ∀ x ∈ l.take i, p x = false) (by simp) fun K i hi hI hK => ?_
  show mM _ _ _ _ _
  unfold mM
  refine ⟨fun c => ⟨by (first | omega | (unfold I64; omega) | (simp only [List.length_append, List.length_cons, List.length_nil, List.length_take, List.length_drop] at *; omega) | (unfold I64; simp only [List.length_append, List.length_cons, List.length_nil, List.length_take, List.length_drop] at *; omega)), ?_⟩, fun c => ?_⟩
  · have hi' : i < l.length := by omega
    rw [qB hi']
    refine ⟨fun q => h1 i hi' q hI, fun q => ⟨by (first | omega | (unfold I64; omega) | (simp only [List.length_append, List.length_cons, List.length_nil, List.length_take, List.length_drop] at *; omega) | (unfold I64; simp only [List.length_append, List.length_cons, List.length_nil, List.length_take, List.length_drop] at *; omega)), hK (i + 1) (by omega) (by omega) ?_⟩⟩
    intro x hx
    rw [List.take_succ_eq_append_getElem hi'] at hx
    rcases List.mem_append.1 hx with hx | hx
    · exact hI x hx
    · rw [List.mem_singleton] at hx; subst hx; exact q
  · rw [List.take_of_length_le (by omega)] at hI; exact h0 hI
theorem MG {l : List Ad} {Q : List Ad -> Prop} (hl : l.length <= 1000000) (h : Q l) : kH l Q :=
  ⟨fun c => by subst c; exact h, fun _ => ⟨by (first | omega | (unfold I64; omega) | (simp only [List.length_append, List.length_cons, List.length_nil, List.length_take, List.length_drop] at *; omega) | (unfold I64; simp only [List.length_append, List.length_cons, List.length_nil, List.length_take, List.length_drop] at *; omega)), h⟩⟩
def Ou (f : Bool) (x : Ad) : List Ad := if f then [x] else []
def Jz (f : Bool) (a : List Ad) : List Ad := if f then a else []
def II (f g h : Bool) : List Ad -> List Ad -> List Ad
  | [], b => Jz h b
  | x :: a, [] => Jz f (x :: a)
  | x :: a, y :: b => if yj x y < 0 then Ou f x ++ II f g h a (y :: b) else if 0 < yj x y then Ou h y ++ II f g h (x :: a) b else Ou g x ++ II f g h a b
termination_by a b => a.length + b.length
theorem O7 {f : Bool} {x z : Ad} : z ∈ Ou f x ↔ f = true /\ z = x := by unfold Ou; cases f <;> simp
theorem YM {f : Bool} {a : List Ad} {z : Ad} : z ∈ Jz f a ↔ f = true /\ z ∈ a := by unfold Jz; cases f <;> simp
theorem vJ.tail {x : Ad} {a : List Ad} (h : vJ (x :: a)) : vJ a := ⟨(List.pairwise_cons.1 h.rise).2, fun y hy => h.good y (by simp [hy])⟩
theorem vJ.head {x : Ad} {a : List Ad} (h : vJ (x :: a)) : ∀ z ∈ a, WN x z := (List.pairwise_cons.1 h.rise).1
theorem JQ (f g h : Bool) : ∀ (n : Nat) (a b : List Ad), a.length + b.length <= n -> vJ a -> vJ b ->
    (∀ z, z ∈ II f g h a b ↔ (f = true /\ z ∈ a /\ z ∉ b) ∨ (g = true /\ z ∈ a /\ z ∈ b) ∨ (h = true /\ z ∉ a /\ z ∈ b)) /\ (II f g h a b).Pairwise WN
  | n, [], b, hn, ha, hb => by
    rw [II]
    refine ⟨fun z => by rw [YM]; simp, ?_⟩
    unfold Jz; split
    · exact hb.rise
    · exact List.Pairwise.nil
  | n, x :: a, [], hn, ha, hb => by
    rw [II]
    refine ⟨fun z => by rw [YM]; simp, ?_⟩
    unfold Jz; split
    · exact ha.rise
    · exact List.Pairwise.nil
  | 0, x :: a, y :: b, hn, ha, hb => by simp at hn
  | n + 1, x :: a, y :: b, hn, ha, hb => by
    simp only [List.length_cons] at hn
    rw [II]
    have hxa : x ∉ a := fun q => KA _ (ha.head x q)
    have hyb : y ∉ b := fun q => KA _ (hb.head y q)
    split
    · rename_i c
      have c' : WN x y := c
      obtain ⟨i1, i2⟩ := JQ f g h n a (y :: b) (by simp only [List.length_cons]; omega) ha.tail hb
      have hxb : ∀ z ∈ y :: b, WN x z := by
        intro z hz
        rcases List.mem_cons.1 hz with rfl | hz
        · exact c'
        · exact Ii _ _ _ c' (hb.head z hz)
      have hxn : x ∉ y :: b := fun q => KA _ (hxb x q)
      refine ⟨fun z => ?_, ?_⟩
      · rw [List.mem_append, O7, i1]
        by_cases e : z = x
        · subst e; simp [hxa, hxn]
        · simp [e]
      · rw [List.pairwise_append]
        refine ⟨by unfold Ou; split <;> simp, i2, fun p hp q hq => ?_⟩
        obtain ⟨_, rfl⟩ := O7.1 hp
        rcases (i1 q).1 hq with ⟨_, k, _⟩ | ⟨_, k, _⟩ | ⟨_, _, k⟩
        · exact ha.head q k
        · exact ha.head q k
        · exact hxb q k
    · rename_i c
      split
      · rename_i d
        have d' : WN y x := by unfold WN; have := Pm x y; omega
        obtain ⟨i1, i2⟩ := JQ f g h n (x :: a) b (by simp only [List.length_cons]; omega) ha hb.tail
        have hya : ∀ z ∈ x :: a, WN y z := by
          intro z hz
          rcases List.mem_cons.1 hz with rfl | hz
          · exact d'
          · exact Ii _ _ _ d' (ha.head z hz)
        have hyn : y ∉ x :: a := fun q => KA _ (hya y q)
        refine ⟨fun z => ?_, ?_⟩
        · rw [List.mem_append, O7, i1]
          by_cases e : z = y
          · subst e; simp [hyb, hyn]
          · simp [e]
        · rw [List.pairwise_append]
          refine ⟨by unfold Ou; split <;> simp, i2, fun p hp q hq => ?_⟩
          obtain ⟨_, rfl⟩ := O7.1 hp
          rcases (i1 q).1 hq with ⟨_, k, _⟩ | ⟨_, k, _⟩ | ⟨_, _, k⟩
          · exact hya q k
          · exact hya q k
          · exact hb.head q k
      · rename_i d
        have exy : x = y := aaM (ha.good x (by simp)) (hb.good y (by simp)) (by omega)
        subst exy
        obtain ⟨i1, i2⟩ := JQ f g h n a b (by omega) ha.tail hb.tail
        refine ⟨fun z => ?_, ?_⟩
        · rw [List.mem_append, O7, i1]
          by_cases e : z = x
          · subst e; simp [hxa, hyb]
          · simp [e]
        · rw [List.pairwise_append]
          refine ⟨by unfold Ou; split <;> simp, i2, fun p hp q hq => ?_⟩
          obtain ⟨_, rfl⟩ := O7.1 hp
          rcases (i1 q).1 hq with ⟨_, k, _⟩ | ⟨_, k, _⟩ | ⟨_, _, k⟩
          · exact ha.head q k
          · exact ha.head q k
          · exact hb.head q k
theorem Zg (f g h : Bool) {a b : List Ad} (ha : vJ a) (hb : vJ b) : vJ (II f g h a b) :=
  ⟨(JQ f g h _ a b (Nat.le_refl _) ha hb).2, fun x hx => by
    rcases ((JQ f g h _ a b (Nat.le_refl _) ha hb).1 x).1 hx with ⟨_, k, _⟩ | ⟨_, k, _⟩ | ⟨_, _, k⟩
    · exact ha.good x k
    · exact ha.good x k
    · exact hb.good x k⟩
theorem Yd {a b : List Ad} (ha : vJ a) (hb : vJ b) : II true false false a b = Eb a b :=
  (Zg _ _ _ ha hb).ext (ha.filter _) fun x => by rw [(JQ _ _ _ _ a b (Nat.le_refl _) ha hb).1]; show _ ↔ x ∈ Eb a b; rw [Zr]; simp
theorem Oo {x : Ad} {is : Bool} {c : List Ad} {Q : List Ad -> Prop} (hc : c.length <= 1000000) (h : Q (c ++ Ou is x)) : nR x is c Q := by
  unfold nR
  refine ⟨fun q => ⟨by (first | omega | (unfold I64; omega) | (simp only [List.length_append, List.length_cons, List.length_nil, List.length_take, List.length_drop] at *; omega) | (unfold I64; simp only [List.length_append, List.length_cons, List.length_nil, List.length_take, List.length_drop] at *; omega)), by subst q; exact h⟩, fun q => by subst q; simpa [Ou] using h⟩
theorem Yi {f : Bool} {a : List Ad} {i : Nat} (h : i < a.length) : Jz f (a.take (i + 1)) = Jz f (a.take i) ++ Ou f a[i] := by
  unfold Jz Ou; split
  · rw [List.take_succ_eq_append_getElem h]
  · rfl
theorem Uw (f : Bool) (a : List Ad) : (Jz f a).length <= a.length := by unfold Jz; split <;> simp
theorem Yg {f h : Bool} {a b out : List Ad} {Q : List Ad -> Prop} (hl : out.length + a.length + b.length <= 100000) (hQ : Q (out ++ Jz f a ++ Jz h b)) :
    uH (fun (Ti : (List af × Int) -> Prop) (s : List af × Int) => vF f h Q a b (fun zC fD => Ti (zC, fD)) s.1 s.2) (out, 0) := by
  refine QH a.length (fun i s => s = out ++ Jz f (a.take i)) (by unfold Jz; split <;> simp) fun K i s hi hs hK => ?_
  have e : s.length <= out.length + a.length := by rw [hs, List.length_append]; have := Uw f (a.take i); rw [List.length_take] at this; omega
  simp only
  unfold vF
  refine ⟨fun c => ⟨by (first | omega | (unfold I64; omega) | (simp only [List.length_append, List.length_cons, List.length_nil, List.length_take, List.length_drop] at *; omega) | (unfold I64; simp only [List.length_append, List.length_cons, List.length_nil, List.length_take, List.length_drop] at *; omega)), Oo (by omega) ⟨by (first | omega | (unfold I64; omega) | (simp only [List.length_append, List.length_cons, List.length_nil, List.length_take, List.length_drop] at *; omega) | (unfold I64; simp only [List.length_append, List.length_cons, List.length_nil, List.length_take, List.length_drop] at *; omega)), ?_⟩⟩, fun c => ?_⟩
  · rw [qB (by omega)]
    refine hK (i + 1) _ (by omega) (by omega) ?_
    rw [hs, Yi (by omega), List.append_assoc]
  · rw [List.take_of_length_le (by omega)] at hs
    subst hs
    refine QH b.length (fun i s => s = out ++ Jz f a ++ Jz h (b.take i)) (by unfold Jz; split <;> simp) fun K i s hi hs hK => ?_
    have e : s.length <= out.length + a.length + b.length := by rw [hs, List.length_append, List.length_append]; have := Uw f a; have := Uw h (b.take i); rw [List.length_take] at this; omega
    simp only
    unfold yl
    refine ⟨fun c => ⟨by (first | omega | (unfold I64; omega) | (simp only [List.length_append, List.length_cons, List.length_nil, List.length_take, List.length_drop] at *; omega) | (unfold I64; simp only [List.length_append, List.length_cons, List.length_nil, List.length_take, List.length_drop] at *; omega)), Oo (by omega) ⟨by (first | omega | (unfold I64; omega) | (simp only [List.length_append, List.length_cons, List.length_nil, List.length_take, List.length_drop] at *; omega) | (unfold I64; simp only [List.length_append, List.length_cons, List.length_nil, List.length_take, List.length_drop] at *; omega)), ?_⟩⟩, fun c => ?_⟩
    · rw [qB (by omega)]
      refine hK (i + 1) _ (by omega) (by omega) ?_
      rw [hs, Yi (by omega), ← List.append_assoc]
    · rw [List.take_of_length_le (by omega)] at hs
      rw [hs]; exact hQ
theorem ahZ {x : Ad} {a : List Ad} : cut (x :: a) 1 ((x :: a).length : Int) = a := by
  have := agj (x :: a) 1; simpa using this
theorem abz {f g h : Bool} {a b : List Ad} {Q : List Ad -> Prop} (hl : a.length + b.length <= 10000) (hQ : Q (II f g h a b)) : vX a b yj f g h Q := by
  refine ⟨fun s => s.2.2 ++ II f g h s.1 s.2.1 = II f g h a b /\ s.2.2.length + s.1.length + s.2.1.length <= 10000, fun s => s.1.length + s.2.1.length, ⟨rfl, by simpa using hl⟩, ?_⟩
  rintro ⟨x, y, out⟩ ⟨hw, hn⟩
  simp only at hw hn ⊢
  unfold yt vG
  have fin : x = [] ∨ y = [] -> Q (out ++ Jz f x ++ Jz h y) := by
    intro q
    have : II f g h x y = Jz f x ++ Jz h y := by
      rcases x with _ | ⟨u, x⟩
      · rw [II]; unfold Jz; split <;> simp
      · rcases q with q | rfl
        · cases q
        · rw [II]; unfold Jz; split <;> simp
    rw [List.append_assoc, ← this, hw]; exact hQ
  refine ⟨fun c => ⟨fun d => ?_, fun d => Yg (by omega) (fin (.inr ?_))⟩, fun c => ⟨fun d => (by cases d), fun _ => Yg (by omega) (fin (.inl ?_))⟩⟩
  · have d := of_decide_eq_true d
    rcases x with _ | ⟨u, x⟩
    · simp at c
    · rcases y with _ | ⟨v, y⟩
      · simp at d
      · have g0 : ∀ (z : Ad) (r : List Ad), gi (z :: r) 0 = z := fun _ _ => rfl
        rw [g0, g0, ahZ, ahZ]
        simp only [List.length_cons] at hn c d ⊢
        rw [II] at hw
        refine ⟨by omega, by omega, fun p => ?_, fun p => ⟨fun q => ?_, fun q => ?_⟩⟩
        · rw [if_pos p] at hw
          refine Oo (by omega) ⟨by omega, ⟨by rw [List.append_assoc]; exact hw, ?_⟩, by omega⟩
          rw [List.length_append]; have : (Ou f u).length <= 1 := by unfold Ou; split <;> simp
          first | omega | (simp only [List.length_cons]; omega)
        · rw [if_neg p, if_pos q] at hw
          refine Oo (by omega) ⟨by omega, ⟨by rw [List.append_assoc]; exact hw, ?_⟩, by omega⟩
          rw [List.length_append]; have : (Ou h v).length <= 1 := by unfold Ou; split <;> simp
          first | omega | (simp only [List.length_cons]; omega)
        · rw [if_neg p, if_neg q] at hw
          refine Oo (by omega) ⟨by omega, by omega, ⟨by rw [List.append_assoc]; exact hw, ?_⟩, by omega⟩
          rw [List.length_append]; have : (Ou g u).length <= 1 := by unfold Ou; split <;> simp
          omega
  · have := of_decide_eq_false d
    exact List.length_eq_zero_iff.1 (by omega)
  · exact List.length_eq_zero_iff.1 (by omega)
theorem Wv {a b : List Ad} {Q : List Ad -> Prop} (ha : vJ a) (hb : vJ b) (hl : a.length + b.length <= 10000) (h : Q (Eb a b)) : DI a b Q :=
  ⟨yj, fun _ _ => XL rfl, abz hl (by rw [Yd ha hb]; exact h)⟩
theorem afg : Swo yj where
  irrefl x := by unfold Go.Proofs.ltOf; rw [decide_eq_false_iff_not, abr]; omega
  trans x y z := by unfold Go.Proofs.ltOf; rw [decide_eq_true_eq, decide_eq_true_eq, decide_eq_true_eq]; exact Ii x y z
  ntrans x y z := by
    unfold Go.Proofs.ltOf
    rw [decide_eq_false_iff_not, decide_eq_false_iff_not, decide_eq_false_iff_not]
    intro h k q
    have h1 := Pm x y
    have h2 := Pm y z
    rcases Int.lt_trichotomy (yj x y) 0 with c | c | c
    · exact h c
    · have e := WX _ _ c
      apply k; unfold yj at q ⊢; rw [← e]; exact q
    · have c' : WN y x := by unfold WN; omega
      exact k (Ii y x z c' q)
theorem adQ {l : List Ad} {Q : Bool -> Prop} (hl : l.length <= 1000000) (h : ∀ b, (b = true ↔ vJ l) -> Q b) : KJ l Q := by
  refine GG l.length (fun i => vJ (l.take i)) (by simpa using vJ.nil) fun K i hi hI hK => ?_
  show FX _ _ _ _
  unfold FX
  refine ⟨fun c => ⟨by (first | omega | (unfold I64; omega) | (simp only [List.length_append, List.length_cons, List.length_nil, List.length_take, List.length_drop] at *; omega) | (unfold I64; simp only [List.length_append, List.length_cons, List.length_nil, List.length_take, List.length_drop] at *; omega)), Vb ⟨fun q => ?_, fun q => ⟨fun d => ⟨by (first | omega | (unfold I64; omega) | (simp only [List.length_append, List.length_cons, List.length_nil, List.length_take, List.length_drop] at *; omega) | (unfold I64; simp only [List.length_append, List.length_cons, List.length_nil, List.length_take, List.length_drop] at *; omega)), by (first | omega | (unfold I64; omega) | (simp only [List.length_append, List.length_cons, List.length_nil, List.length_take, List.length_drop] at *; omega) | (unfold I64; simp only [List.length_append, List.length_cons, List.length_nil, List.length_take, List.length_drop] at *; omega)), XL ⟨fun r => ?_, fun r => ⟨by (first | omega | (unfold I64; omega) | (simp only [List.length_append, List.length_cons, List.length_nil, List.length_take, List.length_drop] at *; omega) | (unfold I64; simp only [List.length_append, List.length_cons, List.length_nil, List.length_take, List.length_drop] at *; omega)), hK (i + 1) (by omega) (by omega) ?_⟩⟩⟩, fun d => ⟨by (first | omega | (unfold I64; omega) | (simp only [List.length_append, List.length_cons, List.length_nil, List.length_take, List.length_drop] at *; omega) | (unfold I64; simp only [List.length_append, List.length_cons, List.length_nil, List.length_take, List.length_drop] at *; omega)), hK (i + 1) (by omega) (by omega) ?_⟩⟩⟩⟩, fun c => ?_⟩
  · refine h false ⟨fun q => (by cases q), fun hs => ?_⟩
    rw [qB (show i < l.length by omega)] at q
    have := hs.good l[i] (List.getElem_mem _)
    rw [this] at q; cases q
  · refine h false ⟨fun q => (by cases q), fun hs => ?_⟩
    have e1 : ((i : Int) - 1) = ((i - 1 : Nat) : Int) := by omega
    rw [e1, qB (show i - 1 < l.length by omega), qB (show i < l.length by omega)] at r
    have := List.pairwise_iff_getElem.1 hs.rise (i - 1) i (by omega) (by omega) (by omega)
    unfold WN at this; omega
  · have hi' : i < l.length := by omega
    have e1 : ((i : Int) - 1) = ((i - 1 : Nat) : Int) := by omega
    rw [e1, qB (show i - 1 < l.length by omega), qB hi'] at r
    rw [qB hi'] at q
    have hg : wY l[i] = true := by simpa using q
    rw [List.take_succ_eq_append_getElem hi']
    refine ⟨?_, fun x hx => ?_⟩
    · rw [List.pairwise_append]
      refine ⟨hI.rise, by simp, fun x hx y hy => ?_⟩
      rw [List.mem_singleton] at hy; subst hy
      obtain ⟨k, hk, rfl⟩ := List.mem_iff_getElem.1 hx
      rw [List.length_take] at hk
      rw [List.getElem_take]
      have hlast : WN l[i - 1] l[i] := by unfold WN; omega
      by_cases e : k = i - 1
      · subst e; exact hlast
      · have := List.pairwise_iff_getElem.1 hI.rise k (i - 1) (by rw [List.length_take]; omega) (by rw [List.length_take]; omega) (by omega)
        rw [List.getElem_take, List.getElem_take] at this
        exact Ii _ _ _ this hlast
    · rw [List.mem_append, List.mem_singleton] at hx
      rcases hx with hx | rfl
      · exact hI.good x hx
      · exact hg
  · have hi' : i < l.length := by omega
    rw [qB hi'] at q
    have hg : wY l[i] = true := by simpa using q
    have : i = 0 := by omega
    subst this
    rw [List.take_succ_eq_append_getElem hi', List.take_zero, List.nil_append]
    exact ⟨by simp, by simpa using hg⟩
  · rw [List.take_of_length_le (by omega)] at hI
    exact h true ⟨fun _ => hI, fun _ => rfl⟩
def QI (f : Bool × List Ad) (x : Ad) : Bool := !(MK f.2 x == f.1)
theorem aed {e : Bool} {s : List Ad} {Q : Bool -> List Ad -> Prop} (h : Q e (Xh (s.take 6))) : KR e s Q :=
  adx (Xf (by rw [List.length_take]; omega) h)
theorem acn {e : Bool} {s : List Ad} {a : Ad} {Q : Bool -> Prop} (hl : s.length <= 1000) (h : Q (QI (e, s) a)) : JA e s a Q := by
  refine ⟨fun c => ?_, fun c => ?_⟩ <;> subst c <;> refine KW (by omega) ?_
  · have : (!MK s a) = QI (true, s) a := by unfold QI; cases MK s a <;> rfl
    rw [this]; exact h
  · have : MK s a = QI (false, s) a := by unfold QI; cases MK s a <;> rfl
    rw [this]; exact h
def kI (k : Int) : Bool := decide (k = 1 ∨ k = 3 ∨ k = 5)
def kX (k : Int) : Bool := decide (k = 2 ∨ k = 4)
def gOn (e : Bool) (k : Int) (a b c : Bool) : Bool := if c && !a && !b && e && (kX k || decide (k = 6)) then true else if kX k && !c then false else if kI k && c then true else a
def TE (e : Bool) (k : Int) (a b c : Bool) : Bool := if c && !a && !b && !e && kX k then true else if kX k && !c then false else if kI k && c then false else b
def NS (e : Bool) (k : Int) (a b c : Bool) : Bool := (kI k && c) || (c && !a && !b && e && (kX k || decide (k = 6)) && decide (k = 2))
def NR (e : Bool) (k : Int) (a b c : Bool) : Bool := c && !a && !b && e && (kX k || decide (k = 6)) && !decide (k = 2)
def TF (e : Bool) (k : Int) (a b c : Bool) : Bool := if decide (k = 6) || decide (k = 4) then c && (a || (e && !b)) else decide (k = 3) && a && !c
def allL (on off b : List Ad) : List Ad := orL (orL on off) b
def QB (g : Bool -> Bool -> Bool -> Bool) (on off b : List Ad) : List Ad := (allL on off b).filter fun x => g (MK on x) (MK off x) (MK b x)
structure ajs (e : Bool) (on off : List Ad) : Prop where
  sOn : vJ on
  ajK : vJ off
  apart : ∀ x, x ∈ on -> x ∉ off
  inc : e = false -> off = []
  lon : on.length <= 100
  aiC : off.length <= 100
theorem acY (l : List Ad) (p : Ad -> Bool) : (l.filter p).length <= l.length := List.length_filter_le p l
abbrev adz := Bool -> List Ad -> List Ad -> List Ad -> List Ad -> Bool -> List Ad -> Bool -> Prop
def agJ (e : Bool) (k : Int) (on off b : List Ad) (Q : adz) : Prop :=
  ∀ E On Off Full Rest G Ask All, E = (e || kX k) -> On = QB (gOn e k) on off b -> Off = QB (TE e k) on off b -> Full = QB (NS e k) on off b -> Rest = QB (NR e k) on off b -> G = kX k -> Ask = QB (TF e k) on off b -> All = (e && decide (k = 3)) -> Q E On Off Full Rest G Ask All
set_option maxHeartbeats 8000000 in
theorem abn {e inn ex : Bool} {kind i : Int} {all o1 o2 o3 o4 o6 : List Ad} {K : List Ad -> List Ad -> List Ad -> List Ad -> List Ad -> Int -> Prop} (r4 r5 r6 : Bool) (hi : inn = kI kind) (hx : ex = kX kind)
    (l1 : o1.length <= 1000) (l2 : o2.length <= 1000) (l3 : o3.length <= 1000) (l4 : o4.length <= 1000) (l6 : o6.length <= 1000) (hI : I64 (i + 1))
    (h : K (o1 ++ Ou (gOn e kind r4 r5 r6) (gi all i)) (o2 ++ Ou (TE e kind r4 r5 r6) (gi all i)) (o3 ++ Ou (NS e kind r4 r5 r6) (gi all i)) (o4 ++ Ou (NR e kind r4 r5 r6) (gi all i)) (o6 ++ Ou (TF e kind r4 r5 r6) (gi all i)) (i + 1)) :
    (inn = true -> xN e kind ex all o1 o2 o3 o4 o6 i K r4 r5 r6 r6) /\ (inn = false -> xN e kind ex all o1 o2 o3 o4 o6 i K r4 r5 r6 false) := by
  subst hi; subst hx
  have m1 : (o1.length + 1) * 17 <= 140737488355328 := by omega
  have m2 : (o2.length + 1) * 17 <= 140737488355328 := by omega
  have m3 : (o3.length + 1) * 17 <= 140737488355328 := by omega
  have m4 : (o4.length + 1) * 17 <= 140737488355328 := by omega
  have m6 : (o6.length + 1) * 17 <= 140737488355328 := by omega
  unfold xN Di zM uz uy zL yI BD uX BC BB
  by_cases k1 : kind = 1
  · subst k1; cases e <;> cases r4 <;> cases r5 <;> cases r6 <;> simp [gOn, TE, NS, NR, TF, kI, kX, Ou, m1, m2, m3, m4, m6, hI] at h ⊢ <;> first | exact h | exact ⟨hI, h⟩
  by_cases k2 : kind = 2
  · subst k2; cases e <;> cases r4 <;> cases r5 <;> cases r6 <;> simp [gOn, TE, NS, NR, TF, kI, kX, Ou, m1, m2, m3, m4, m6, hI] at h ⊢ <;> first | exact h | exact ⟨hI, h⟩
  by_cases k3 : kind = 3
  · subst k3; cases e <;> cases r4 <;> cases r5 <;> cases r6 <;> simp [gOn, TE, NS, NR, TF, kI, kX, Ou, m1, m2, m3, m4, m6, hI] at h ⊢ <;> first | exact h | exact ⟨hI, h⟩
  by_cases k4 : kind = 4
  · subst k4; cases e <;> cases r4 <;> cases r5 <;> cases r6 <;> simp [gOn, TE, NS, NR, TF, kI, kX, Ou, m1, m2, m3, m4, m6, hI] at h ⊢ <;> first | exact h | exact ⟨hI, h⟩
  by_cases k5 : kind = 5
  · subst k5; cases e <;> cases r4 <;> cases r5 <;> cases r6 <;> simp [gOn, TE, NS, NR, TF, kI, kX, Ou, m1, m2, m3, m4, m6, hI] at h ⊢ <;> first | exact h | exact ⟨hI, h⟩
  by_cases k6 : kind = 6
  · subst k6; cases e <;> cases r4 <;> cases r5 <;> cases r6 <;> simp [gOn, TE, NS, NR, TF, kI, kX, Ou, m1, m2, m3, m4, m6, hI] at h ⊢ <;> first | exact h | exact ⟨hI, h⟩
  cases e <;> cases r4 <;> cases r5 <;> cases r6 <;> simp [gOn, TE, NS, NR, TF, kI, kX, Ou, m1, m2, m3, m4, m6, hI, k1, k2, k3, k4, k5, k6] at h ⊢ <;> first | exact h | exact ⟨hI, h⟩
theorem MB {l : List Ad} {p : Ad -> Bool} {i : Nat} (h : i < l.length) : (l.take (i + 1)).filter p = (l.take i).filter p ++ Ou (p l[i]) l[i] := by
  rw [List.take_succ_eq_append_getElem h, List.filter_append]; congr 1; unfold Ou; split <;> simp_all
theorem abo {e : Bool} {kind : Int} {on off b : List Ad} {Q : adz} (hF : ajs e on off) (hb : vJ b) (hl : b.length <= 100) (hQ : agJ e kind on off b Q) : BQ e on off kind b Q := by
  have q1 := hF.lon
  have q2 := hF.aiC
  have main : ∀ inn ex, inn = kI kind -> ex = kX kind -> sS e on off kind b Q inn ex := by
    intro inn ex hi hx
    have core : ∀ G7, G7 = (e && decide (kind = 3)) -> zN e on off kind b Q inn ex (e || ex) ex G7 := by
      intro G7 h7
      unfold zN
      refine acf (by omega) (by omega) (Xf (by omega) ?_)
      have hlo := aah on off
      rw [Zp hb]
      refine acf (by omega) (by omega) ?_
      have hla := aah (orL on off) b
      have hall : orL (orL on off) b = allL on off b := rfl
      rw [hall] at hla ⊢
      have fl : ∀ (p : Ad -> Bool) (i : Nat), (((allL on off b).take i).filter p).length <= 1000 := fun p i => by
        have := acY ((allL on off b).take i) p; rw [List.length_take] at this; omega
      refine Iy (fun s => s.2.2.2.2.2) (allL on off b).length (fun i s => s.1 = ((allL on off b).take i).filter (fun x => gOn e kind (MK on x) (MK off x) (MK b x)) /\ s.2.1 = ((allL on off b).take i).filter (fun x => TE e kind (MK on x) (MK off x) (MK b x)) /\ s.2.2.1 = ((allL on off b).take i).filter (fun x => NS e kind (MK on x) (MK off x) (MK b x)) /\ s.2.2.2.1 = ((allL on off b).take i).filter (fun x => NR e kind (MK on x) (MK off x) (MK b x)) /\ s.2.2.2.2.1 = ((allL on off b).take i).filter (fun x => TF e kind (MK on x) (MK off x) (MK b x))) rfl (by simp) ?_
      rintro K i ⟨o1, o2, o3, o4, o6, _⟩ rfl hi' ⟨e1, e2, e3, e4, e6⟩ hK
      simp only at e1 e2 e3 e4 e6 ⊢
      unfold Gh
      refine ⟨fun c => ⟨by (first | omega | (unfold I64; omega) | (simp only [List.length_append, List.length_cons, List.length_nil, List.length_take, List.length_drop] at *; omega) | (unfold I64; simp only [List.length_append, List.length_cons, List.length_nil, List.length_take, List.length_drop] at *; omega)), KW (by omega) (KW (by omega) (KW (by omega) ?_))⟩, fun c => ?_⟩
      · have hlt : i < (allL on off b).length := by omega
        refine abn _ _ _ hi hx (by rw [e1]; exact fl _ _) (by rw [e2]; exact fl _ _) (by rw [e3]; exact fl _ _) (by rw [e4]; exact fl _ _) (by rw [e6]; exact fl _ _) (by (first | omega | (unfold I64; omega) | (simp only [List.length_append, List.length_cons, List.length_nil, List.length_take, List.length_drop] at *; omega) | (unfold I64; simp only [List.length_append, List.length_cons, List.length_nil, List.length_take, List.length_drop] at *; omega))) ?_
        rw [qB hlt]
        refine hK (i + 1) _ (by simp) (by omega) (by omega) ⟨?_, ?_, ?_, ?_, ?_⟩
        · simp only; rw [e1, MB hlt]
        · simp only; rw [e2, MB hlt]
        · simp only; rw [e3, MB hlt]
        · simp only; rw [e4, MB hlt]
        · simp only; rw [e6, MB hlt]
      · rw [List.take_of_length_le (by omega)] at e1 e2 e3 e4 e6
        exact hQ _ _ _ _ _ _ _ _ (by rw [hx]) e1 e2 e3 e4 hx e6 h7
    have two : zO e on off kind b Q inn ex (e || ex) ex := by
      unfold zO
      exact ⟨fun c => core _ (by rw [c]; rfl), fun c => core _ (by rw [c]; rfl)⟩
    unfold sS
    refine ⟨fun c => ?_, fun c => ?_⟩
    · subst c; simpa using two
    · subst c; simpa using two
  unfold BQ
  refine ⟨fun c => ⟨fun d => by omega, fun d => main _ _ (by simp [kI, c]) (by simp [kX, d])⟩, fun c => ⟨fun d => ⟨fun f => by omega, fun f => main _ _ (by simp [kI, d]) (by simp [kX, f])⟩, fun d => ⟨fun f => main _ _ (by simp [kI, c, d]) (by simp [kX, f]), fun f => main _ _ (by simp [kI, c, d]) (by simp [kX, f])⟩⟩⟩
abbrev Rec := aY
def rk (r : Rec) : Int × Ad × List Ad := (r.1, r.2.1, r.2.2.2)
def one1 (k : Int) (g : Ad) (l : List Ad) : List (Int × Ad × List Ad) := if l = [] then [] else [(k, g, l)]
theorem YA {k : Int} {g : Ad} {l : List Ad} (h : 0 < (l.length : Int)) : one1 k g l = [(k, g, l)] := if_neg (List.ne_nil_of_length_pos (by omega))
theorem YB {k : Int} {g : Ad} {l : List Ad} (h : ¬ 0 < (l.length : Int)) : one1 k g l = [] := if_pos (List.length_eq_zero_iff.1 (by omega))
def LY (g : Ad) (e : Bool) (s : List Ad) (e2 : Bool) (t : List Ad) : List (Int × Ad × List Ad) :=
  if e = e2 then one1 5 g (if e then Eb s t else Eb t s) ++ one1 6 g (if e then Eb t s else Eb s t) else [(if e2 then 4 else 3, g, t)]
theorem UX (a b : List Ad) : (Eb a b).length <= a.length := List.length_filter_le _ _
theorem ZN {g : Ad} {e : Bool} {s : List Ad} {e2 : Bool} {t : List Ad} {Q : List Rec -> Prop} (hs : vJ s) (ht : vJ t) (ls : s.length <= 100) (lt : t.length <= 100) (h : ∀ l : List Rec, l.map rk = LY g e s e2 t -> Q l) : Gy g e s e2 t Q := by
  have j3 : ∀ (less : List Ad) (out : List Rec), out.length <= 10 -> (out.map rk ++ one1 6 g less = LY g e s e2 t) -> BG g Q less out := by
    intro less out ho hr
    refine ⟨fun c v => ⟨by simp only [List.length_cons, List.length_nil]; omega, h _ ?_⟩, fun c => h _ ?_⟩
    · rw [← hr, YA c, List.map_append]; rfl
    · rw [← hr, YB c, List.append_nil]
  have j2 : ∀ (more less : List Ad), (one1 5 g more ++ one1 6 g less = LY g e s e2 t) -> BH g Q more less := by
    intro more less hr
    refine ⟨fun c v => ⟨by simp, j3 _ _ (by simp) ?_⟩, fun c => j3 _ _ (by simp) ?_⟩
    · rw [← hr, YA c]; rfl
    · rw [← hr, YB c]; rfl
  refine ⟨fun c => ?_, fun c => Wv ht hs (by omega) (Wv hs ht (by omega) ⟨fun d => j2 _ _ ?_, fun d => j2 _ _ ?_⟩)⟩
  · have hne : e ≠ e2 := by simpa using c
    refine ⟨fun d => MG (by omega) fun v => h _ ?_, fun d => MG (by omega) fun v => h _ ?_⟩ <;> unfold LY <;> rw [if_neg hne, d] <;> rfl
  · have he : e = e2 := by simpa using c
    unfold LY; rw [if_pos he, d]; rfl
  · have he : e = e2 := by simpa using c
    unfold LY; rw [if_pos he, d]; rfl
theorem abV (g : Ad) (e : Bool) (s : List Ad) (e2 : Bool) (t : List Ad) : (LY g e s e2 t).length <= 2 := by
  have h1 : ∀ (k : Int) (l : List Ad), (one1 k g l).length <= 1 := by intro k l; unfold one1; split <;> simp
  unfold LY; split
  · rw [List.length_append]
    have a := h1 5 (if e then Eb s t else Eb t s)
    have b := h1 6 (if e then Eb t s else Eb s t)
    omega
  · simp
def Ej (e : Bool) (s : List Ad) : Bool := !e && decide ((s.length : Int) = 0)
theorem UT {e : Bool} {s : List Ad} {Q : Bool -> Prop} (h : Q (Ej e s)) : Gx e s Q := by
  refine ⟨fun c => ?_, fun c => ?_⟩ <;> (unfold Ej at h; rw [c] at h; simpa using h)
def YO (e : Bool) : Int := if e then 2 else 1
theorem Y5 {g : Ad} {e : Bool} {s : List Ad} {Q : Int -> Bool -> Ba 16 -> List Ad -> Bool -> Prop} (hl : s.length <= 1000) (h0 : Ej e s = true -> Q 0 false (default : Ba 16) [] false) (h1 : Ej e s = false -> Q (YO e) g.1 g.2 s true) : EN g e s Q := by
  refine UT ⟨h0, fun c => MG (by omega) ?_⟩
  have := h1 c
  refine ⟨fun d => ?_, fun d => ?_⟩ <;> (subst d; exact this)
def Py (a : Ad) : Bool := if a.1 then decide (b8 a.2 0 = 255) else decide (224 <= b8 a.2 0 /\ b8 a.2 0 <= 239)
theorem afI {n : Int} (h : 0 <= n) : n.fdiv (2 ^ (min (4 : Int).toNat IntKind.u8.bits)) = 14 ↔ 224 <= n /\ n <= 239 := by
  have e : (2 ^ (min (4 : Int).toNat IntKind.u8.bits) : Int) = 16 := by decide
  rw [e, Int.fdiv_eq_ediv_of_nonneg _ (by decide)]; omega
theorem Xr {a : Ad} {Q : Bool -> Prop} (h : Q (Py a)) : JO a Q := by
  unfold Py at h
  refine ⟨fun c => ?_, fun c => ?_⟩
  · rw [c] at h; exact h
  · rw [c] at h
    have hb : (0 : Int) <= b8 a.2 0 := by unfold b8; omega
    simp only [afI hb]
    exact h
theorem Xq {a : Ad} {Q : Bool -> Prop} (h : Q (Py a)) : BU a Q := by
  unfold Py at h
  refine ⟨fun c => ⟨fun d => ?_, fun d => ⟨fun e => ?_, fun _ => ?_⟩⟩, fun c => ⟨fun d => ⟨fun e => ?_, fun e => ?_⟩, fun d => ?_⟩⟩
  · rw [c, if_pos rfl, decide_eq_true d] at h; exact h
  · rw [c] at e; cases e
  · rw [c, if_pos rfl, decide_eq_false d] at h; exact h
  · rw [c] at h; simp only [Bool.false_eq_true, if_false] at h
    have : (decide (224 <= b8 a.2 0 /\ b8 a.2 0 <= 239)) = decide (b8 a.2 0 <= 239) := by simp [e]
    rw [← this]; exact h
  · rw [c] at h; simp only [Bool.false_eq_true, if_false] at h
    rw [decide_eq_false (fun q => e q.1)] at h; exact h
  · rw [c] at d; cases d
end Go.Wk
