/- Plain words for one law: what it needs. -/
import Derived.Test.YtmbkoonblmfdpaaGreatHzW7
import Derived.Test.YtmbkoonblmfdpaaGreatPl2
set_option linter.unusedSimpArgs false
set_option linter.unusedVariables false
set_option linter.unusedSectionVars false
namespace Go.Wk
open Go.HL
variable [DM]
abbrev Ad := T_api_Addr
theorem scmp_cons (a b : UInt8) (x y : Str) : scmp (a :: x) (b :: y) = if a < b then -1 else if b < a then 1 else scmp x y := by
  unfold scmp; rw [Lib.compareBytes]
theorem scmp_refl : ∀ a : Str, scmp a a = 0
  | [] => rfl
  | a :: x => by rw [scmp_cons, if_neg (UInt8.lt_irrefl a), if_neg (UInt8.lt_irrefl a), scmp_refl x]
theorem u8_tri {a b : UInt8} (h : ¬ a < b) (k : ¬ b < a) : a = b := by
  rw [UInt8.lt_iff_toNat_lt] at h k; exact UInt8.toNat_inj.1 (by omega)
theorem scmp_eq : ∀ a b : Str, scmp a b = 0 → a = b
  | [], [], _ => rfl
  | [], _ :: _, h => by simp [scmp, Lib.compareBytes] at h
  | _ :: _, [], h => by simp [scmp, Lib.compareBytes] at h
  | a :: x, b :: y, h => by
    rw [scmp_cons] at h
    split at h
    · omega
    · split at h
      · omega
      · rename_i p q; rw [u8_tri p q, scmp_eq x y h]
theorem scmp_flip : ∀ a b : Str, scmp b a = - scmp a b
  | [], [] => rfl
  | [], _ :: _ => rfl
  | _ :: _, [] => rfl
  | a :: x, b :: y => by
    rw [scmp_cons, scmp_cons, scmp_flip x y]
    have : a < b → ¬ b < a := fun h k => by rw [UInt8.lt_iff_toNat_lt] at h k; omega
    by_cases p : a < b
    · rw [if_pos p, if_neg (this p), if_pos p]; rfl
    · by_cases q : b < a
      · rw [if_pos q, if_neg p, if_pos q]
      · rw [if_neg q, if_neg p, if_neg p, if_neg q]
theorem scmp_trans : ∀ a b c : Str, scmp a b < 0 → scmp b c < 0 → scmp a c < 0
  | [], [], _, h, _ => absurd h (by decide)
  | _, [], [], _, h => absurd h (by decide)
  | [], _ :: _, [], _, h => by simp [scmp, Lib.compareBytes] at h
  | [], _ :: _, _ :: _, _, _ => by simp [scmp, Lib.compareBytes]
  | _ :: _, [], _, h, _ => by simp [scmp, Lib.compareBytes] at h
  | _ :: _, _ :: _, [], _, h => by simp [scmp, Lib.compareBytes] at h
  | a :: x, b :: y, c :: z, h, k => by
    rw [scmp_cons] at h k ⊢
    by_cases p : a < b
    · by_cases q : b < c
      · rw [if_pos (by rw [UInt8.lt_iff_toNat_lt] at *; omega)]; decide
      · rw [if_neg q] at k
        by_cases r : c < b
        · rw [if_pos r] at k; omega
        · have := u8_tri q r; subst this; rw [if_pos p]; decide
    · rw [if_neg p] at h
      by_cases q : b < a
      · rw [if_pos q] at h; omega
      · rw [if_neg q] at h
        have := u8_tri p q; subst this
        by_cases r : a < c
        · rw [if_pos r]; decide
        · rw [if_neg r] at k ⊢
          by_cases s : c < a
          · rw [if_pos s] at k; omega
          · rw [if_neg s] at k ⊢; exact scmp_trans x y z h k
def aw (a : Ad) : Nat := if a.1 then 16 else 4
def ak (a : Ad) : Str := (if a.1 then 1 else 0) :: a.2.1.take (aw a)
def aCmp (a b : Ad) : Int := scmp (ak a) (ak b)
def aGood (a : Ad) : Bool := a.1 || decide (a.2.1.drop 4 = List.replicate 12 0)
def aLt (a b : Ad) : Prop := aCmp a b < 0
theorem aLt_irrefl (a : Ad) : ¬ aLt a a := by unfold aLt aCmp; rw [scmp_refl]; omega
theorem aLt_trans (a b c : Ad) : aLt a b → aLt b c → aLt a c := scmp_trans _ _ _
theorem aCmp_flip (a b : Ad) : aCmp b a = - aCmp a b := scmp_flip _ _
theorem aCmp_refl (a : Ad) : aCmp a a = 0 := scmp_refl _
theorem aCmp_eq {a b : Ad} (ha : aGood a = true) (hb : aGood b = true) (h : aCmp a b = 0) : a = b := by
  have h := scmp_eq _ _ h
  unfold ak aw at h
  rw [List.cons.injEq] at h
  obtain ⟨h1, h2⟩ := h
  obtain ⟨va, ⟨la, la16⟩⟩ := a
  obtain ⟨vb, ⟨lb, lb16⟩⟩ := b
  simp only at h1 h2
  have hv : va = vb := by cases va <;> cases vb <;> simp_all
  subst hv
  cases va
  · simp only [aGood, Bool.false_or, decide_eq_true_eq] at ha hb
    simp only [Bool.false_eq_true, if_false] at h2
    have : la = lb := by rw [← List.take_append_drop 4 la, ← List.take_append_drop 4 lb, h2, ha, hb]
    subst this; rfl
  · simp only [if_true] at h2
    rw [List.take_of_length_le (by omega), List.take_of_length_le (by omega)] at h2
    subst h2; rfl
theorem cmpP_ok {a b : Ad} {Q : Int → Prop} (h : Q (aCmp a b)) : addr_Cmp_W a b Q := by
  obtain ⟨va, ⟨la, la16⟩⟩ := a
  obtain ⟨vb, ⟨lb, lb16⟩⟩ := b
  unfold aCmp ak aw at h
  unfold addr_Cmp_W addr_Cmp_j2 addr_Cmp_j1 addr_bytes_W
  cases va <;> cases vb <;> simp [scmp_cons, cut] at h ⊢ <;> exact h
theorem b8_at {n : Nat} (x : Ba n) {i : Nat} (h : i < n) : b8 x (i : Int) = ((x.1[i]'(by rw [x.2]; exact h)).toNat : Int) := by
  unfold b8; rw [gi_nat (by rw [x.2]; exact h)]
theorem goodR_ok {a : Ad} {Q : Bool → Prop} (h : Q (aGood a)) : ref03_Good_W a Q := by
  refine loop_from (s0 := (4 : Int)) (fun s => s) 4 16 (fun i _ => 4 ≤ i ∧ (a.1 = false → ∀ k (hk : k < 16), 4 ≤ k → k < i → a.2.1[k]'(by rw [a.2.2]; exact hk) = 0)) rfl (by omega) ⟨by omega, fun _ k _ h1 h2 => by omega⟩ ?_
  rintro K i _ rfl hi ⟨h4, hz⟩ hK
  show ref03_Good_l1 _ _ _ _
  unfold ref03_Good_l1
  refine ⟨fun c => ⟨fun d => ⟨by (first | omega | (unfold I64; omega) | (simp only [List.length_append, List.length_cons, List.length_nil, List.length_take, List.length_drop] at *; omega) | (unfold I64; simp only [List.length_append, List.length_cons, List.length_nil, List.length_take, List.length_drop] at *; omega)), fun q => ?_, fun q => ⟨by (first | omega | (unfold I64; omega) | (simp only [List.length_append, List.length_cons, List.length_nil, List.length_take, List.length_drop] at *; omega) | (unfold I64; simp only [List.length_append, List.length_cons, List.length_nil, List.length_take, List.length_drop] at *; omega)), hK (i + 1) _ rfl (by omega) (by omega) ⟨by omega, fun v k hk h1 h2 => ?_⟩⟩⟩, fun d => ⟨by (first | omega | (unfold I64; omega) | (simp only [List.length_append, List.length_cons, List.length_nil, List.length_take, List.length_drop] at *; omega) | (unfold I64; simp only [List.length_append, List.length_cons, List.length_nil, List.length_take, List.length_drop] at *; omega)), hK (i + 1) _ rfl (by omega) (by omega) ⟨by omega, fun v => by simp [v] at d⟩⟩⟩, fun c => ?_⟩
  · have hi16 : i < 16 := by omega
    rw [b8_at a.2 hi16] at q
    have : aGood a = false := by
      have hv : a.1 = false := by simpa using d
      unfold aGood; rw [hv, Bool.false_or, decide_eq_false_iff_not]
      intro e
      have h5 : (a.2.1.drop 4)[i - 4]? = (List.replicate 12 (0 : UInt8))[i - 4]? := by rw [e]
      rw [List.getElem?_drop, show 4 + (i - 4) = i by omega, List.getElem?_eq_getElem (by rw [a.2.2]; exact hi16), List.getElem?_replicate, if_pos (by omega)] at h5
      simp only [Option.some.injEq] at h5
      rw [h5] at q; exact q rfl
    rw [this] at h; exact h
  · by_cases e : k < i
    · exact hz v k hk h1 e
    · have : k = i := by omega
      subst this
      rw [b8_at a.2 hk] at q
      exact UInt8.toNat_inj.1 (by show _ = 0; omega)
  · have : aGood a = true := by
      unfold aGood
      cases hv : a.1 with
      | true => rfl
      | false =>
        rw [Bool.false_or, decide_eq_true_eq]
        apply List.ext_getElem
        · rw [List.length_drop, a.2.2, List.length_replicate]
        · intro k h1 h2
          rw [List.length_replicate] at h2
          rw [List.getElem_drop, List.getElem_replicate]
          exact hz hv (4 + k) (by omega) (by omega) (by omega)
    rw [this] at h; exact h
theorem goodP_ok {a : Ad} {Q : Bool → Prop} (h : Q (aGood a)) : addr_Good_W a Q := by
  unfold addr_Good_W
  refine ⟨fun v => ?_, fun v => ?_⟩
  · unfold aGood at h; rw [v] at h; exact h
  · refine ⟨b8_rng _ _, b8_rng _ _, b8_rng _ _, b8_rng _ _, ?_⟩
    have e : decide ((a : T_api_Addr) = (false, mkB 16 [b8 a.2 0, b8 a.2 1, b8 a.2 2, b8 a.2 3, 0, 0, 0, 0, 0, 0, 0, 0, 0, 0, 0, 0])) = aGood a := by
      have hm : (mkB 16 [b8 a.2 0, b8 a.2 1, b8 a.2 2, b8 a.2 3, 0, 0, 0, 0, 0, 0, 0, 0, 0, 0, 0, 0]).1 = a.2.1.take 4 ++ List.replicate 12 0 := by
        have hl := a.2.2
        apply List.ext_getElem
        · rw [(mkB 16 _).2, List.length_append, List.length_take, hl, List.length_replicate]; rfl
        · intro i h1 h2
          rw [(mkB 16 _).2] at h1
          have k0 : ∀ j, j < 4 → ∀ (hj : j < a.2.1.length), UInt8.ofNat (b8 a.2 (j : Int)).toNat = a.2.1[j] := by
            intro j hj hj'
            rw [b8_at a.2 (by omega), Int.toNat_natCast, UInt8.ofNat_toNat]
          simp only [mkB, List.getElem_map, List.getElem_range]
          by_cases hi : i < 4
          · rw [List.getElem_append_left (by rw [List.length_take, hl]; omega), List.getElem_take]
            rw [← k0 i hi (by omega)]
            congr 2
            rcases i with _ | _ | _ | _ | i
            · rfl
            · rfl
            · rfl
            · rfl
            · omega
          · rw [List.getElem_append_right (by rw [List.length_take, hl]; omega), List.getElem_replicate]
            have : ([b8 a.2 0, b8 a.2 1, b8 a.2 2, b8 a.2 3, 0, 0, 0, 0, 0, 0, 0, 0, 0, 0, 0, 0] : List Int).getD i 0 = 0 := by
              rw [show i = 4 + (i - 4) by omega]
              rcases hq : i - 4 with _ | _ | _ | _ | _ | _ | _ | _ | _ | _ | _ | _ | q
              all_goals first | rfl | omega
            rw [this]; rfl
      unfold aGood
      rw [v, Bool.false_or]
      apply decide_eq_decide.2
      constructor
      · intro e
        have h2 : a.2.1 = a.2.1.take 4 ++ List.replicate 12 0 := by rw [← hm]; exact congrArg (fun x : Ad => x.2.1) e
        have h3 : (a.2.1.take 4).length = 4 := by rw [List.length_take, a.2.2]; rfl
        rw [h2, List.drop_append, h3, List.drop_of_length_le (by omega)]; rfl
      · intro e
        have h2 : a.2.1 = a.2.1.take 4 ++ List.replicate 12 0 := by rw [← e, List.take_append_drop]
        exact Prod.ext v (Subtype.ext (h2.trans hm.symm))
    show Q _
    rw [e]; exact h
structure ASet (l : List Ad) : Prop where
  rise : l.Pairwise aLt
  good : ∀ x ∈ l, aGood x = true
theorem ASet.nil : ASet [] := ⟨List.Pairwise.nil, by simp⟩
theorem ASet.ext {l m : List Ad} (hl : ASet l) (hm : ASet m) (h : ∀ x, x ∈ l ↔ x ∈ m) : l = m := rise_ext aLt_irrefl aLt_trans hl.rise hm.rise h
theorem ASet.filter {l : List Ad} (hl : ASet l) (p : Ad → Bool) : ASet (l.filter p) := ⟨filter_rise p hl.rise, fun x hx => hl.good x (List.mem_filter.1 hx).1⟩
def aIn (b : List Ad) (x : Ad) : Bool := decide (x ∈ b)
def minusL (a b : List Ad) : List Ad := a.filter fun x => !aIn b x
theorem mem_minusL {a b : List Ad} {x : Ad} : x ∈ minusL a b ↔ x ∈ a ∧ x ∉ b := by unfold minusL aIn; simp
theorem addrs_ok {l : List Ad} {Q : List Ad → Prop} (h : Q (l.take 6)) : law08_Addrs_W l 6 Q := by
  refine loop_up l.length (fun i s => s = l.take i ∧ i ≤ 6) ⟨rfl, by omega⟩ fun K i s hi ⟨hs, h8⟩ hK => ?_
  have e : s.length = i := by rw [hs, List.length_take]; omega
  have te : ∀ (h : ¬ (i < l.length ∧ i < 6)), l.take i = l.take 6 := by
    intro h
    by_cases q : i = 6
    · rw [q]
    · rw [List.take_of_length_le (by omega), List.take_of_length_le (by omega)]
  show law08_Addrs_l1 _ _ _ _ _ _
  unfold law08_Addrs_l1 law08_Addrs_j1
  refine ⟨fun h1 => ⟨fun h2 => ⟨by (first | omega | (unfold I64; omega) | (simp only [List.length_append, List.length_cons, List.length_nil, List.length_take, List.length_drop] at *; omega) | (unfold I64; simp only [List.length_append, List.length_cons, List.length_nil, List.length_take, List.length_drop] at *; omega)), by (first | omega | (unfold I64; omega) | (simp only [List.length_append, List.length_cons, List.length_nil, List.length_take, List.length_drop] at *; omega) | (unfold I64; simp only [List.length_append, List.length_cons, List.length_nil, List.length_take, List.length_drop] at *; omega)), by (first | omega | (unfold I64; omega) | (simp only [List.length_append, List.length_cons, List.length_nil, List.length_take, List.length_drop] at *; omega) | (unfold I64; simp only [List.length_append, List.length_cons, List.length_nil, List.length_take, List.length_drop] at *; omega)), hK (i + 1) _ (by omega) (by omega) ⟨?_, ?_⟩⟩, fun h2 => ?_⟩, fun h1 => ⟨fun h => (by cases h), fun _ => ?_⟩⟩
  · rw [hs, gi_nat (by omega), List.take_succ_eq_append_getElem (by omega)]
  · have := of_decide_eq_true h2; omega
  · have := of_decide_eq_false h2; rw [hs, te (by omega)]; exact h
  · rw [hs, te (by omega)]; exact h
theorem indexFunc_Ad {l : List Ad} {p : Ad → Bool} {Q : Int → Prop} (hl : l.length ≤ 1000000) (h0 : (∀ x ∈ l, p x = false) → Q (-1)) (h1 : ∀ (i : Nat) (hi : i < l.length), p l[i] = true → (∀ x ∈ l.take i, p x = false) → Q (i : Int)) : slices_IndexFunc_s_api_Addr_api_Addr_W l p Q := by
  refine loop_up1 l.length (fun i => ∀ x ∈ l.take i, p x = false) (by simp) fun K i hi hI hK => ?_
  show slices_IndexFunc_s_api_Addr_api_Addr_l1 _ _ _ _ _
  unfold slices_IndexFunc_s_api_Addr_api_Addr_l1
  refine ⟨fun c => ⟨by (first | omega | (unfold I64; omega) | (simp only [List.length_append, List.length_cons, List.length_nil, List.length_take, List.length_drop] at *; omega) | (unfold I64; simp only [List.length_append, List.length_cons, List.length_nil, List.length_take, List.length_drop] at *; omega)), ?_⟩, fun c => ?_⟩
  · have hi' : i < l.length := by omega
    rw [gi_nat hi']
    refine ⟨fun q => h1 i hi' q hI, fun q => ⟨by (first | omega | (unfold I64; omega) | (simp only [List.length_append, List.length_cons, List.length_nil, List.length_take, List.length_drop] at *; omega) | (unfold I64; simp only [List.length_append, List.length_cons, List.length_nil, List.length_take, List.length_drop] at *; omega)), hK (i + 1) (by omega) (by omega) ?_⟩⟩
    intro x hx
    rw [List.take_succ_eq_append_getElem hi'] at hx
    rcases List.mem_append.1 hx with hx | hx
    · exact hI x hx
    · rw [List.mem_singleton] at hx; subst hx; exact q
  · rw [List.take_of_length_le (by omega)] at hI; exact h0 hI
theorem clone_Ad {l : List Ad} {Q : List Ad → Prop} (hl : l.length ≤ 1000000) (h : Q l) : slices_Clone_s_api_Addr_api_Addr_W l Q :=
  ⟨fun c => by subst c; exact h, fun _ => ⟨by (first | omega | (unfold I64; omega) | (simp only [List.length_append, List.length_cons, List.length_nil, List.length_take, List.length_drop] at *; omega) | (unfold I64; simp only [List.length_append, List.length_cons, List.length_nil, List.length_take, List.length_drop] at *; omega)), h⟩⟩
def sel (f : Bool) (x : Ad) : List Ad := if f then [x] else []
def selL (f : Bool) (a : List Ad) : List Ad := if f then a else []
def walkL (f g h : Bool) : List Ad → List Ad → List Ad
  | [], b => selL h b
  | x :: a, [] => selL f (x :: a)
  | x :: a, y :: b => if aCmp x y < 0 then sel f x ++ walkL f g h a (y :: b) else if 0 < aCmp x y then sel h y ++ walkL f g h (x :: a) b else sel g x ++ walkL f g h a b
termination_by a b => a.length + b.length
theorem mem_sel {f : Bool} {x z : Ad} : z ∈ sel f x ↔ f = true ∧ z = x := by unfold sel; cases f <;> simp
theorem mem_selL {f : Bool} {a : List Ad} {z : Ad} : z ∈ selL f a ↔ f = true ∧ z ∈ a := by unfold selL; cases f <;> simp
theorem ASet.tail {x : Ad} {a : List Ad} (h : ASet (x :: a)) : ASet a := ⟨(List.pairwise_cons.1 h.rise).2, fun y hy => h.good y (by simp [hy])⟩
theorem ASet.head {x : Ad} {a : List Ad} (h : ASet (x :: a)) : ∀ z ∈ a, aLt x z := (List.pairwise_cons.1 h.rise).1
theorem walkL_set (f g h : Bool) : ∀ (n : Nat) (a b : List Ad), a.length + b.length ≤ n → ASet a → ASet b →
    (∀ z, z ∈ walkL f g h a b ↔ (f = true ∧ z ∈ a ∧ z ∉ b) ∨ (g = true ∧ z ∈ a ∧ z ∈ b) ∨ (h = true ∧ z ∉ a ∧ z ∈ b)) ∧ (walkL f g h a b).Pairwise aLt
  | n, [], b, hn, ha, hb => by
    rw [walkL]
    refine ⟨fun z => by rw [mem_selL]; simp, ?_⟩
    unfold selL; split
    · exact hb.rise
    · exact List.Pairwise.nil
  | n, x :: a, [], hn, ha, hb => by
    rw [walkL]
    refine ⟨fun z => by rw [mem_selL]; simp, ?_⟩
    unfold selL; split
    · exact ha.rise
    · exact List.Pairwise.nil
  | 0, x :: a, y :: b, hn, ha, hb => by simp at hn
  | n + 1, x :: a, y :: b, hn, ha, hb => by
    simp only [List.length_cons] at hn
    rw [walkL]
    have hxa : x ∉ a := fun q => aLt_irrefl _ (ha.head x q)
    have hyb : y ∉ b := fun q => aLt_irrefl _ (hb.head y q)
    split
    · rename_i c
      have c' : aLt x y := c
      obtain ⟨i1, i2⟩ := walkL_set f g h n a (y :: b) (by simp only [List.length_cons]; omega) ha.tail hb
      have hxb : ∀ z ∈ y :: b, aLt x z := by
        intro z hz
        rcases List.mem_cons.1 hz with rfl | hz
        · exact c'
        · exact aLt_trans _ _ _ c' (hb.head z hz)
      have hxn : x ∉ y :: b := fun q => aLt_irrefl _ (hxb x q)
      refine ⟨fun z => ?_, ?_⟩
      · rw [List.mem_append, mem_sel, i1]
        by_cases e : z = x
        · subst e; simp [hxa, hxn]
        · simp [e]
      · rw [List.pairwise_append]
        refine ⟨by unfold sel; split <;> simp, i2, fun p hp q hq => ?_⟩
        obtain ⟨_, rfl⟩ := mem_sel.1 hp
        rcases (i1 q).1 hq with ⟨_, k, _⟩ | ⟨_, k, _⟩ | ⟨_, _, k⟩
        · exact ha.head q k
        · exact ha.head q k
        · exact hxb q k
    · rename_i c
      split
      · rename_i d
        have d' : aLt y x := by unfold aLt; have := aCmp_flip x y; omega
        obtain ⟨i1, i2⟩ := walkL_set f g h n (x :: a) b (by simp only [List.length_cons]; omega) ha hb.tail
        have hya : ∀ z ∈ x :: a, aLt y z := by
          intro z hz
          rcases List.mem_cons.1 hz with rfl | hz
          · exact d'
          · exact aLt_trans _ _ _ d' (ha.head z hz)
        have hyn : y ∉ x :: a := fun q => aLt_irrefl _ (hya y q)
        refine ⟨fun z => ?_, ?_⟩
        · rw [List.mem_append, mem_sel, i1]
          by_cases e : z = y
          · subst e; simp [hyb, hyn]
          · simp [e]
        · rw [List.pairwise_append]
          refine ⟨by unfold sel; split <;> simp, i2, fun p hp q hq => ?_⟩
          obtain ⟨_, rfl⟩ := mem_sel.1 hp
          rcases (i1 q).1 hq with ⟨_, k, _⟩ | ⟨_, k, _⟩ | ⟨_, _, k⟩
          · exact hya q k
          · exact hya q k
          · exact hb.head q k
      · rename_i d
        have exy : x = y := aCmp_eq (ha.good x (by simp)) (hb.good y (by simp)) (by omega)
        subst exy
        obtain ⟨i1, i2⟩ := walkL_set f g h n a b (by omega) ha.tail hb.tail
        refine ⟨fun z => ?_, ?_⟩
        · rw [List.mem_append, mem_sel, i1]
          by_cases e : z = x
          · subst e; simp [hxa, hyb]
          · simp [e]
        · rw [List.pairwise_append]
          refine ⟨by unfold sel; split <;> simp, i2, fun p hp q hq => ?_⟩
          obtain ⟨_, rfl⟩ := mem_sel.1 hp
          rcases (i1 q).1 hq with ⟨_, k, _⟩ | ⟨_, k, _⟩ | ⟨_, _, k⟩
          · exact ha.head q k
          · exact ha.head q k
          · exact hb.head q k
theorem walkL_aset (f g h : Bool) {a b : List Ad} (ha : ASet a) (hb : ASet b) : ASet (walkL f g h a b) :=
  ⟨(walkL_set f g h _ a b (Nat.le_refl _) ha hb).2, fun x hx => by
    rcases ((walkL_set f g h _ a b (Nat.le_refl _) ha hb).1 x).1 hx with ⟨_, k, _⟩ | ⟨_, k, _⟩ | ⟨_, _, k⟩
    · exact ha.good x k
    · exact ha.good x k
    · exact hb.good x k⟩
theorem walkL_minus {a b : List Ad} (ha : ASet a) (hb : ASet b) : walkL true false false a b = minusL a b :=
  (walkL_aset _ _ _ ha hb).ext (ha.filter _) fun x => by rw [(walkL_set _ _ _ _ a b (Nat.le_refl _) ha hb).1]; show _ ↔ x ∈ minusL a b; rw [mem_minusL]; simp
theorem takeP_ok {x : Ad} {is : Bool} {c : List Ad} {Q : List Ad → Prop} (hc : c.length ≤ 1000000) (h : Q (c ++ sel is x)) : srcs_walk_1_api_Addr_W x is c Q := by
  unfold srcs_walk_1_api_Addr_W
  refine ⟨fun q => ⟨by (first | omega | (unfold I64; omega) | (simp only [List.length_append, List.length_cons, List.length_nil, List.length_take, List.length_drop] at *; omega) | (unfold I64; simp only [List.length_append, List.length_cons, List.length_nil, List.length_take, List.length_drop] at *; omega)), by subst q; exact h⟩, fun q => by subst q; simpa [sel] using h⟩
theorem sel_snoc {f : Bool} {a : List Ad} {i : Nat} (h : i < a.length) : selL f (a.take (i + 1)) = selL f (a.take i) ++ sel f a[i] := by
  unfold selL sel; split
  · rw [List.take_succ_eq_append_getElem h]
  · rfl
theorem selL_len (f : Bool) (a : List Ad) : (selL f a).length ≤ a.length := by unfold selL; split <;> simp
theorem tailP_ok {f h : Bool} {a b out : List Ad} {Q : List Ad → Prop} (hl : out.length + a.length + b.length ≤ 100000) (hQ : Q (out ++ selL f a ++ selL h b)) :
    loopW (fun (K_2 : (List T_api_Addr × Int) → Prop) (s : List T_api_Addr × Int) => srcs_walk_api_Addr_l2 f h Q a b (fun out_0_2 n_1 => K_2 (out_0_2, n_1)) s.1 s.2) (out, 0) := by
  refine loop_up a.length (fun i s => s = out ++ selL f (a.take i)) (by unfold selL; split <;> simp) fun K i s hi hs hK => ?_
  have e : s.length ≤ out.length + a.length := by rw [hs, List.length_append]; have := selL_len f (a.take i); rw [List.length_take] at this; omega
  simp only
  unfold srcs_walk_api_Addr_l2
  refine ⟨fun c => ⟨by (first | omega | (unfold I64; omega) | (simp only [List.length_append, List.length_cons, List.length_nil, List.length_take, List.length_drop] at *; omega) | (unfold I64; simp only [List.length_append, List.length_cons, List.length_nil, List.length_take, List.length_drop] at *; omega)), takeP_ok (by omega) ⟨by (first | omega | (unfold I64; omega) | (simp only [List.length_append, List.length_cons, List.length_nil, List.length_take, List.length_drop] at *; omega) | (unfold I64; simp only [List.length_append, List.length_cons, List.length_nil, List.length_take, List.length_drop] at *; omega)), ?_⟩⟩, fun c => ?_⟩
  · rw [gi_nat (by omega)]
    refine hK (i + 1) _ (by omega) (by omega) ?_
    rw [hs, sel_snoc (by omega), List.append_assoc]
  · rw [List.take_of_length_le (by omega)] at hs
    subst hs
    refine loop_up b.length (fun i s => s = out ++ selL f a ++ selL h (b.take i)) (by unfold selL; split <;> simp) fun K i s hi hs hK => ?_
    have e : s.length ≤ out.length + a.length + b.length := by rw [hs, List.length_append, List.length_append]; have := selL_len f a; have := selL_len h (b.take i); rw [List.length_take] at this; omega
    simp only
    unfold srcs_walk_api_Addr_l3
    refine ⟨fun c => ⟨by (first | omega | (unfold I64; omega) | (simp only [List.length_append, List.length_cons, List.length_nil, List.length_take, List.length_drop] at *; omega) | (unfold I64; simp only [List.length_append, List.length_cons, List.length_nil, List.length_take, List.length_drop] at *; omega)), takeP_ok (by omega) ⟨by (first | omega | (unfold I64; omega) | (simp only [List.length_append, List.length_cons, List.length_nil, List.length_take, List.length_drop] at *; omega) | (unfold I64; simp only [List.length_append, List.length_cons, List.length_nil, List.length_take, List.length_drop] at *; omega)), ?_⟩⟩, fun c => ?_⟩
    · rw [gi_nat (by omega)]
      refine hK (i + 1) _ (by omega) (by omega) ?_
      rw [hs, sel_snoc (by omega), ← List.append_assoc]
    · rw [List.take_of_length_le (by omega)] at hs
      rw [hs]; exact hQ
theorem cut1 {x : Ad} {a : List Ad} : cut (x :: a) 1 ((x :: a).length : Int) = a := by
  have := cutn (x :: a) 1; simpa using this
theorem walkP_ok {f g h : Bool} {a b : List Ad} {Q : List Ad → Prop} (hl : a.length + b.length ≤ 10000) (hQ : Q (walkL f g h a b)) : srcs_walk_api_Addr_W a b aCmp f g h Q := by
  refine ⟨fun s => s.2.2 ++ walkL f g h s.1 s.2.1 = walkL f g h a b ∧ s.2.2.length + s.1.length + s.2.1.length ≤ 10000, fun s => s.1.length + s.2.1.length, ⟨rfl, by simpa using hl⟩, ?_⟩
  rintro ⟨x, y, out⟩ ⟨hw, hn⟩
  simp only at hw hn ⊢
  unfold srcs_walk_api_Addr_l1 srcs_walk_api_Addr_j1
  have fin : x = [] ∨ y = [] → Q (out ++ selL f x ++ selL h y) := by
    intro q
    have : walkL f g h x y = selL f x ++ selL h y := by
      rcases x with _ | ⟨u, x⟩
      · rw [walkL]; unfold selL; split <;> simp
      · rcases q with q | rfl
        · cases q
        · rw [walkL]; unfold selL; split <;> simp
    rw [List.append_assoc, ← this, hw]; exact hQ
  refine ⟨fun c => ⟨fun d => ?_, fun d => tailP_ok (by omega) (fin (.inr ?_))⟩, fun c => ⟨fun d => (by cases d), fun _ => tailP_ok (by omega) (fin (.inl ?_))⟩⟩
  · have d := of_decide_eq_true d
    rcases x with _ | ⟨u, x⟩
    · simp at c
    · rcases y with _ | ⟨v, y⟩
      · simp at d
      · have g0 : ∀ (z : Ad) (r : List Ad), gi (z :: r) 0 = z := fun _ _ => rfl
        rw [g0, g0, cut1, cut1]
        simp only [List.length_cons] at hn c d ⊢
        rw [walkL] at hw
        refine ⟨by omega, by omega, fun p => ?_, fun p => ⟨fun q => ?_, fun q => ?_⟩⟩
        · rw [if_pos p] at hw
          refine takeP_ok (by omega) ⟨by omega, ⟨by rw [List.append_assoc]; exact hw, ?_⟩, by omega⟩
          rw [List.length_append]; have : (sel f u).length ≤ 1 := by unfold sel; split <;> simp
          first | omega | (simp only [List.length_cons]; omega)
        · rw [if_neg p, if_pos q] at hw
          refine takeP_ok (by omega) ⟨by omega, ⟨by rw [List.append_assoc]; exact hw, ?_⟩, by omega⟩
          rw [List.length_append]; have : (sel h v).length ≤ 1 := by unfold sel; split <;> simp
          first | omega | (simp only [List.length_cons]; omega)
        · rw [if_neg p, if_neg q] at hw
          refine takeP_ok (by omega) ⟨by omega, by omega, ⟨by rw [List.append_assoc]; exact hw, ?_⟩, by omega⟩
          rw [List.length_append]; have : (sel g u).length ≤ 1 := by unfold sel; split <;> simp
          omega
  · have := of_decide_eq_false d
    exact List.length_eq_zero_iff.1 (by omega)
  · exact List.length_eq_zero_iff.1 (by omega)
theorem minusP_ok {a b : List Ad} {Q : List Ad → Prop} (ha : ASet a) (hb : ASet b) (hl : a.length + b.length ≤ 10000) (h : Q (minusL a b)) : srcs_Minus_W a b Q :=
  ⟨aCmp, fun _ _ => cmpP_ok rfl, walkP_ok hl (by rw [walkL_minus ha hb]; exact h)⟩
theorem swo_ad : Swo aCmp where
  irrefl x := by unfold Go.Proofs.ltOf; rw [decide_eq_false_iff_not, aCmp_refl]; omega
  trans x y z := by unfold Go.Proofs.ltOf; rw [decide_eq_true_eq, decide_eq_true_eq, decide_eq_true_eq]; exact aLt_trans x y z
  ntrans x y z := by
    unfold Go.Proofs.ltOf
    rw [decide_eq_false_iff_not, decide_eq_false_iff_not, decide_eq_false_iff_not]
    intro h k q
    have h1 := aCmp_flip x y
    have h2 := aCmp_flip y z
    rcases Int.lt_trichotomy (aCmp x y) 0 with c | c | c
    · exact h c
    · have e := scmp_eq _ _ c
      apply k; unfold aCmp at q ⊢; rw [← e]; exact q
    · have c' : aLt y x := by unfold aLt; omega
      exact k (aLt_trans y x z c' q)
theorem setP_ok {l : List Ad} {Q : Bool → Prop} (hl : l.length ≤ 1000000) (h : ∀ b, (b = true ↔ ASet l) → Q b) : srcs_Good_W l Q := by
  refine loop_up1 l.length (fun i => ASet (l.take i)) (by simpa using ASet.nil) fun K i hi hI hK => ?_
  show srcs_Good_l1 _ _ _ _
  unfold srcs_Good_l1
  refine ⟨fun c => ⟨by (first | omega | (unfold I64; omega) | (simp only [List.length_append, List.length_cons, List.length_nil, List.length_take, List.length_drop] at *; omega) | (unfold I64; simp only [List.length_append, List.length_cons, List.length_nil, List.length_take, List.length_drop] at *; omega)), goodP_ok ⟨fun q => ?_, fun q => ⟨fun d => ⟨by (first | omega | (unfold I64; omega) | (simp only [List.length_append, List.length_cons, List.length_nil, List.length_take, List.length_drop] at *; omega) | (unfold I64; simp only [List.length_append, List.length_cons, List.length_nil, List.length_take, List.length_drop] at *; omega)), by (first | omega | (unfold I64; omega) | (simp only [List.length_append, List.length_cons, List.length_nil, List.length_take, List.length_drop] at *; omega) | (unfold I64; simp only [List.length_append, List.length_cons, List.length_nil, List.length_take, List.length_drop] at *; omega)), cmpP_ok ⟨fun r => ?_, fun r => ⟨by (first | omega | (unfold I64; omega) | (simp only [List.length_append, List.length_cons, List.length_nil, List.length_take, List.length_drop] at *; omega) | (unfold I64; simp only [List.length_append, List.length_cons, List.length_nil, List.length_take, List.length_drop] at *; omega)), hK (i + 1) (by omega) (by omega) ?_⟩⟩⟩, fun d => ⟨by (first | omega | (unfold I64; omega) | (simp only [List.length_append, List.length_cons, List.length_nil, List.length_take, List.length_drop] at *; omega) | (unfold I64; simp only [List.length_append, List.length_cons, List.length_nil, List.length_take, List.length_drop] at *; omega)), hK (i + 1) (by omega) (by omega) ?_⟩⟩⟩⟩, fun c => ?_⟩
  · refine h false ⟨fun q => (by cases q), fun hs => ?_⟩
    rw [gi_nat (show i < l.length by omega)] at q
    have := hs.good l[i] (List.getElem_mem _)
    rw [this] at q; cases q
  · refine h false ⟨fun q => (by cases q), fun hs => ?_⟩
    have e1 : ((i : Int) - 1) = ((i - 1 : Nat) : Int) := by omega
    rw [e1, gi_nat (show i - 1 < l.length by omega), gi_nat (show i < l.length by omega)] at r
    have := List.pairwise_iff_getElem.1 hs.rise (i - 1) i (by omega) (by omega) (by omega)
    unfold aLt at this; omega
  · have hi' : i < l.length := by omega
    have e1 : ((i : Int) - 1) = ((i - 1 : Nat) : Int) := by omega
    rw [e1, gi_nat (show i - 1 < l.length by omega), gi_nat hi'] at r
    rw [gi_nat hi'] at q
    have hg : aGood l[i] = true := by simpa using q
    rw [List.take_succ_eq_append_getElem hi']
    refine ⟨?_, fun x hx => ?_⟩
    · rw [List.pairwise_append]
      refine ⟨hI.rise, by simp, fun x hx y hy => ?_⟩
      rw [List.mem_singleton] at hy; subst hy
      obtain ⟨k, hk, rfl⟩ := List.mem_iff_getElem.1 hx
      rw [List.length_take] at hk
      rw [List.getElem_take]
      have hlast : aLt l[i - 1] l[i] := by unfold aLt; omega
      by_cases e : k = i - 1
      · subst e; exact hlast
      · have := List.pairwise_iff_getElem.1 hI.rise k (i - 1) (by rw [List.length_take]; omega) (by rw [List.length_take]; omega) (by omega)
        rw [List.getElem_take, List.getElem_take] at this
        exact aLt_trans _ _ _ this hlast
    · rw [List.mem_append, List.mem_singleton] at hx
      rcases hx with hx | rfl
      · exact hI.good x hx
      · exact hg
  · have hi' : i < l.length := by omega
    rw [gi_nat hi'] at q
    have hg : aGood l[i] = true := by simpa using q
    have : i = 0 := by omega
    subst this
    rw [List.take_succ_eq_append_getElem hi', List.take_zero, List.nil_append]
    exact ⟨by simp, by simpa using hg⟩
  · rw [List.take_of_length_le (by omega)] at hI
    exact h true ⟨fun _ => hI, fun _ => rfl⟩
abbrev Fi := T_api_Filter
def bare (f : Fi) : Bool × List Ad := (f.1, f.2.2)
theorem sameA_ok {a : List Ad} {Q : Bool → Prop} (ha : a.length ≤ 100000) (h : Q true) : ref08_SameAddrs_W a a Q := by
  refine ⟨fun c => absurd rfl c, fun _ => ?_⟩
  refine loop_up1 a.length (fun _ => True) trivial fun K i hi _ hK => ?_
  show ref08_SameAddrs_l1 _ _ _ _ _
  unfold ref08_SameAddrs_l1
  refine ⟨fun d => ⟨by (first | omega | (unfold I64; omega) | (simp only [List.length_append, List.length_cons, List.length_nil, List.length_take, List.length_drop] at *; omega) | (unfold I64; simp only [List.length_append, List.length_cons, List.length_nil, List.length_take, List.length_drop] at *; omega)), by (first | omega | (unfold I64; omega) | (simp only [List.length_append, List.length_cons, List.length_nil, List.length_take, List.length_drop] at *; omega) | (unfold I64; simp only [List.length_append, List.length_cons, List.length_nil, List.length_take, List.length_drop] at *; omega)), ?_⟩, fun d => h⟩
  exact ⟨fun q => absurd rfl q, fun _ => ⟨by (first | omega | (unfold I64; omega) | (simp only [List.length_append, List.length_cons, List.length_nil, List.length_take, List.length_drop] at *; omega) | (unfold I64; simp only [List.length_append, List.length_cons, List.length_nil, List.length_take, List.length_drop] at *; omega)), hK (i + 1) (by omega) (by omega) trivial⟩⟩
abbrev Rec := T_api_Record
def rk (r : Rec) : Int × Ad × List Ad := (r.1, r.2.1, r.2.2.2)
theorem sameRecs_ok {a b : List Rec} {Q : Bool → Prop} (h : a.map rk = b.map rk) (hl : ∀ r ∈ b, r.2.2.2.length ≤ 1000) (hn : a.length ≤ 1000) (hq : Q true) : ref08_SameRecords_W a b Q := by
  have hlen : a.length = b.length := by simpa using congrArg List.length h
  refine ⟨fun c => absurd (by omega) c, fun _ => ?_⟩
  refine loop_up1 a.length (fun _ => True) trivial fun K i hi _ hK => ?_
  show ref08_SameRecords_l1 _ _ _ _ _
  unfold ref08_SameRecords_l1
  refine ⟨fun d => ?_, fun d => hq⟩
  have h1 : i < a.length := by omega
  have h2 : i < b.length := by omega
  have e : rk a[i] = rk b[i] := by
    have := congrArg (fun l => l[i]?) h
    simpa [List.getElem?_map, h1, h2] using this
  have e1 := congrArg (fun r => r.1) e
  have e2 := congrArg (fun r => r.2.1) e
  have e3 := congrArg (fun r => r.2.2) e
  simp only [rk] at e1 e2 e3
  have hb := hl b[i] (List.getElem_mem h2)
  rw [gi_nat h1, gi_nat h2, e1, e2, e3]
  exact ⟨by omega, by omega, fun q => absurd rfl q, fun _ => ⟨fun q => absurd rfl q, fun _ => sameA_ok (by omega) ⟨fun q => (by cases q), fun _ => ⟨by (first | omega | (unfold I64; omega) | (simp only [List.length_append, List.length_cons, List.length_nil, List.length_take, List.length_drop] at *; omega) | (unfold I64; simp only [List.length_append, List.length_cons, List.length_nil, List.length_take, List.length_drop] at *; omega)), hK (i + 1) (by omega) (by omega) trivial⟩⟩⟩⟩
def one1 (k : Int) (g : Ad) (l : List Ad) : List (Int × Ad × List Ad) := if l = [] then [] else [(k, g, l)]
theorem one1_pos {k : Int} {g : Ad} {l : List Ad} (h : 0 < (l.length : Int)) : one1 k g l = [(k, g, l)] := if_neg (List.ne_nil_of_length_pos (by omega))
theorem one1_nil {k : Int} {g : Ad} {l : List Ad} (h : ¬ 0 < (l.length : Int)) : one1 k g l = [] := if_pos (List.length_eq_zero_iff.1 (by omega))
def recsL (g : Ad) (e : Bool) (s : List Ad) (e2 : Bool) (t : List Ad) : List (Int × Ad × List Ad) :=
  if e = e2 then one1 5 g (if e then minusL s t else minusL t s) ++ one1 6 g (if e then minusL t s else minusL s t) else [(if e2 then 4 else 3, g, t)]
theorem minusL_len (a b : List Ad) : (minusL a b).length ≤ a.length := List.length_filter_le _ _
theorem changeP_ok {g : Ad} {e : Bool} {s : List Ad} {e2 : Bool} {t : List Ad} {Q : List Rec → Prop} (hs : ASet s) (ht : ASet t) (ls : s.length ≤ 100) (lt : t.length ≤ 100) (h : ∀ l : List Rec, l.map rk = recsL g e s e2 t → Q l) : merge_Change_W g e s e2 t Q := by
  have j3 : ∀ (less : List Ad) (out : List Rec), out.length ≤ 10 → (out.map rk ++ one1 6 g less = recsL g e s e2 t) → merge_Change_j3 g Q less out := by
    intro less out ho hr
    refine ⟨fun c v => ⟨by simp only [List.length_cons, List.length_nil]; omega, h _ ?_⟩, fun c => h _ ?_⟩
    · rw [← hr, one1_pos c, List.map_append]; rfl
    · rw [← hr, one1_nil c, List.append_nil]
  have j2 : ∀ (more less : List Ad), (one1 5 g more ++ one1 6 g less = recsL g e s e2 t) → merge_Change_j2 g Q more less := by
    intro more less hr
    refine ⟨fun c v => ⟨by simp, j3 _ _ (by simp) ?_⟩, fun c => j3 _ _ (by simp) ?_⟩
    · rw [← hr, one1_pos c]; rfl
    · rw [← hr, one1_nil c]; rfl
  refine ⟨fun c => ?_, fun c => minusP_ok ht hs (by omega) (minusP_ok hs ht (by omega) ⟨fun d => j2 _ _ ?_, fun d => j2 _ _ ?_⟩)⟩
  · have hne : e ≠ e2 := by simpa using c
    refine ⟨fun d => clone_Ad (by omega) fun v => h _ ?_, fun d => clone_Ad (by omega) fun v => h _ ?_⟩ <;> unfold recsL <;> rw [if_neg hne, d] <;> rfl
  · have he : e = e2 := by simpa using c
    unfold recsL; rw [if_pos he, d]; rfl
  · have he : e = e2 := by simpa using c
    unfold recsL; rw [if_pos he, d]; rfl
theorem recs_len (g : Ad) (e : Bool) (s : List Ad) (e2 : Bool) (t : List Ad) : (recsL g e s e2 t).length ≤ 2 := by
  have h1 : ∀ (k : Int) (l : List Ad), (one1 k g l).length ≤ 1 := by intro k l; unfold one1; split <;> simp
  unfold recsL; split
  · rw [List.length_append]
    have a := h1 5 (if e then minusL s t else minusL t s)
    have b := h1 6 (if e then minusL t s else minusL s t)
    omega
  · simp
def noneB (e : Bool) (s : List Ad) : Bool := !e && decide ((s.length : Int) = 0)
theorem noneP_ok {e : Bool} {s : List Ad} {Q : Bool → Prop} (h : Q (noneB e s)) : merge_none_W e s Q := by
  refine ⟨fun c => ?_, fun c => ?_⟩ <;> (unfold noneB at h; rw [c] at h; simpa using h)
def kindB (e : Bool) : Int := if e then 2 else 1
theorem currentP_ok {g : Ad} {e : Bool} {s : List Ad} {Q : Int → Bool → Ba 16 → List Ad → Bool → Prop} (hl : s.length ≤ 1000) (h0 : noneB e s = true → Q 0 false (default : Ba 16) [] false) (h1 : noneB e s = false → Q (kindB e) g.1 g.2 s true) : merge_Current_W g e s Q := by
  refine noneP_ok ⟨h0, fun c => clone_Ad (by omega) ?_⟩
  have := h1 c
  refine ⟨fun d => ?_, fun d => ?_⟩ <;> (subst d; exact this)
def aGrp (a : Ad) : Bool := if a.1 then decide (b8 a.2 0 = 255) else decide (224 ≤ b8 a.2 0 ∧ b8 a.2 0 ≤ 239)
theorem fdiv16 {n : Int} (h : 0 ≤ n) : n.fdiv (2 ^ (min (4 : Int).toNat IntKind.u8.bits)) = 14 ↔ 224 ≤ n ∧ n ≤ 239 := by
  have e : (2 ^ (min (4 : Int).toNat IntKind.u8.bits) : Int) = 16 := by decide
  rw [e, Int.fdiv_eq_ediv_of_nonneg _ (by decide)]; omega
theorem grpP_ok {a : Ad} {Q : Bool → Prop} (h : Q (aGrp a)) : addr_Group_W a Q := by
  unfold aGrp at h
  refine ⟨fun c => ?_, fun c => ?_⟩
  · rw [c] at h; exact h
  · rw [c] at h
    have hb : (0 : Int) ≤ b8 a.2 0 := by unfold b8; omega
    simp only [fdiv16 hb]
    exact h
theorem grpR_ok {a : Ad} {Q : Bool → Prop} (h : Q (aGrp a)) : ref03_Group_W a Q := by
  unfold aGrp at h
  refine ⟨fun c => ⟨fun d => ?_, fun d => ⟨fun e => ?_, fun _ => ?_⟩⟩, fun c => ⟨fun d => ⟨fun e => ?_, fun e => ?_⟩, fun d => ?_⟩⟩
  · rw [c, if_pos rfl, decide_eq_true d] at h; exact h
  · rw [c] at e; cases e
  · rw [c, if_pos rfl, decide_eq_false d] at h; exact h
  · rw [c] at h; simp only [Bool.false_eq_true, if_false] at h
    have : (decide (224 ≤ b8 a.2 0 ∧ b8 a.2 0 ≤ 239)) = decide (b8 a.2 0 ≤ 239) := by simp [e]
    rw [← this]; exact h
  · rw [c] at h; simp only [Bool.false_eq_true, if_false] at h
    rw [decide_eq_false (fun q => e q.1)] at h; exact h
  · rw [c] at d; cases d
end Go.Wk
