/- Plain words: the four laws of filters. -/
import Derived.Test.YtokodpeigafenaaFilP
set_option linter.unusedSimpArgs false
set_option linter.unusedVariables false
set_option linter.unusedSectionVars false
namespace Go.Wk
open Go.HL
variable [DM]
/-! ### A small living call -/
def four (n : Int) : Ad := (false, mkB 16 [10, 0, 0, n, 0, 0, 0, 0, 0, 0, 0, 0, 0, 0, 0, 0])
theorem four_ok {n : Int} {Q : Ad → Prop} (h0 : 0 ≤ n ∧ n < 256) (h : Q (four n)) : law15_four_W n Q := ⟨h0, h⟩
instance (a b : Ad) : Decidable (aLt a b) := inferInstanceAs (Decidable (aCmp a b < 0))
theorem lives_few : FewS false [four 1, four 2] [] where
  sOn := ⟨by decide +kernel, by decide +kernel⟩
  sOff := ASet.nil
  apart := by simp
  inc := fun _ => rfl
  lon := by simp
  loff := by simp
theorem lives_ok {Q : Bool → Prop} (h : Q true) : law15_lives_W Q := by
  refine four_ok (by decide) (four_ok (by decide) (four_ok (by decide) (four_ok (by decide) (applyP_ok lives_few (by simp) ?_))))
  intro E On Off Full Rest G Ask All hE hOn hOff _ _ hG _ _
  have e1 : On = [four 2] := hOn.trans (by decide +kernel)
  have e2 : Off = [four 3] := hOff.trans (by decide +kernel)
  have e3 : E = true := hE.trans (by decide)
  have e4 : G = true := hG.trans (by decide)
  have s1 : ASet [four 2] := ⟨by simp, by decide +kernel⟩
  have s2 : ASet [four 3] := ⟨by simp, by decide +kernel⟩
  subst e1 e2 e3 e4
  refine ⟨fun _ => ⟨fun _ => ⟨by simp, four_ok (by decide) ⟨fun _ => ⟨fun _ => ⟨fun _ => four_ok (by decide) (letsP_ok s1 s2 (by simp) (by simp) ?_), fun c => (by cases c)⟩, fun c => absurd rfl c⟩, fun c => absurd rfl c⟩⟩, fun c => absurd rfl c⟩, fun c => (by cases c)⟩
  rw [show lets true [four 2] [four 3] (four 9) = true by decide +kernel]
  refine ⟨fun _ => four_ok (by decide) (letsP_ok s1 s2 (by simp) (by simp) ?_), fun c => (by cases c)⟩
  rw [show lets true [four 2] [four 3] (four 3) = false by decide +kernel]
  exact h
/-! ### What is so of the table -/
theorem aIn_pickL {e : Bool} {g : Bool → Bool → Bool → Bool} {on off b : List Ad} (hF : FewS e on off) (hb : ASet b) (x : Ad) : aIn (pickL g on off b) x = ((aIn on x || aIn off x || aIn b x) && g (aIn on x) (aIn off x) (aIn b x)) := by
  rw [Bool.eq_iff_iff, aIn_iff, mem_pickL hF hb, Bool.and_eq_true, Bool.or_eq_true, Bool.or_eq_true, aIn_iff, aIn_iff, aIn_iff, or_assoc]
theorem few_ab {e : Bool} {on off : List Ad} (hF : FewS e on off) (x : Ad) : (aIn on x && aIn off x) = false ∧ (e || !aIn off x) = true := by
  constructor
  · cases hx : aIn on x
    · rfl
    · cases hy : aIn off x
      · rfl
      · exact absurd (aIn_iff.1 hy) (hF.apart x (aIn_iff.1 hx))
  · cases he : e
    · have : aIn off x = false := by rw [hF.inc he]; rfl
      rw [this]; rfl
    · rfl
theorem g_apart (e : Bool) (k : Int) : ∀ a b c : Bool, (a && b) = false → gOn e k a b c = true → gOff e k a b c = false := by
  have hxi : (kX k && kI k) = false := by
    unfold kX kI
    by_cases p : k = 2 ∨ k = 4
    · rw [decide_eq_false (show ¬ (k = 1 ∨ k = 3 ∨ k = 5) by omega), Bool.and_false]
    · rw [decide_eq_false p]; rfl
  revert hxi
  unfold gOn gOff
  generalize kX k = x
  generalize kI k = i
  generalize decide (k = 6) = s
  cases e <;> cases x <;> cases i <;> cases s <;> decide
theorem g_inc (k : Int) (hx : kX k = false) : ∀ a c : Bool, gOff false k a false c = false := by
  unfold gOff
  rw [hx]
  generalize kI k = i
  cases i <;> decide
theorem st_apply {e : Bool} {on off b : List Ad} (k : Int) (hF : FewS e on off) (hb : ASet b) : stGood (e || kX k) (pickL (gOn e k) on off b) (pickL (gOff e k) on off b) := by
  refine ⟨pickL_set, pickL_set, fun x h1 h2 => ?_, fun h => ?_⟩
  · have h1 := (mem_pickL hF hb).1 h1
    have h2 := (mem_pickL hF hb).1 h2
    rw [g_apart e k _ _ _ (few_ab hF x).1 h1.2] at h2
    exact absurd h2.2 (by decide)
  · rw [Bool.or_eq_false_iff] at h
    obtain ⟨rfl, hx⟩ := h
    apply List.eq_nil_iff_forall_not_mem.2
    intro x hx'
    have h2 := (mem_pickL hF hb).1 hx'
    have : aIn off x = false := by rw [hF.inc rfl]; rfl
    rw [this, g_inc k hx] at h2
    exact absurd h2.2 (by decide)
theorem lets_in {e : Bool} {on off b : List Ad} {k : Int} (hF : FewS e on off) (hb : ASet b) (hk : kI k = true) {x : Ad} (hx : x ∈ b) : lets (e || kX k) (pickL (gOn e k) on off b) (pickL (gOff e k) on off b) x = true := by
  have hkx : kX k = false := by
    unfold kI at hk; unfold kX; have := of_decide_eq_true hk; exact decide_eq_false (by omega)
  have hc : aIn b x = true := aIn_iff.2 hx
  unfold lets
  rw [aIn_pickL hF hb, aIn_pickL hF hb, hc, hkx]
  obtain ⟨h1, h2⟩ := few_ab hF x
  revert h1 h2
  unfold gOn gOff
  rw [hk, hkx]
  generalize aIn on x = p
  generalize aIn off x = q
  generalize decide (k = 6) = s
  cases e <;> cases p <;> cases q <;> cases s <;> decide
theorem lets_ex {e : Bool} {on off b : List Ad} {k : Int} (hF : FewS e on off) (hb : ASet b) (hk : kX k = true) {x : Ad} (hx : x ∉ b) : lets (e || kX k) (pickL (gOn e k) on off b) (pickL (gOff e k) on off b) x = true := by
  have hc : aIn b x = false := by cases h : aIn b x; rfl; exact absurd (aIn_iff.1 h) hx
  unfold lets
  rw [aIn_pickL hF hb, aIn_pickL hF hb, hc, hk]
  obtain ⟨h1, h2⟩ := few_ab hF x
  revert h1 h2
  unfold gOn gOff
  rw [hk]
  generalize aIn on x = p
  generalize aIn off x = q
  generalize decide (k = 6) = s
  generalize kI k = i
  cases e <;> cases p <;> cases q <;> cases s <;> cases i <;> decide
theorem take66 (l : List Ad) : (l.take 6).take 6 = l.take 6 := by rw [List.take_take]; rfl
/-! ### FilterApplies -/
theorem filterApplies_ok (e : Bool) (on off : List Ad) (k : Int) (l : List Ad) {Q : Bool → Prop} (h : Q true) : law15_FilterApplies_W e on off k l Q := by
  have hF := few_set e on off
  have l6 := take6_len l
  refine few_ok (addrs_ok (few_again (addrs_ok ?_)))
  rw [take66]
  refine applyP_ok hF (by omega) ?_
  intro E On Off Full Rest G Ask All h1 h2 h3 h4 h5 h6 h7 h8
  have lo := of6_len l
  refine ofR_ok (by omega) (applyR_ok hF (ofL_set _) (by omega) ?_)
  intro E' On' Off' Full' Rest' G' Ask' All' k1 k2 k3 k4 k5 k6 k7 k8
  have pl : ∀ g, (pickL g (fOn on) (fOff e on off) (ofL (l.take 6))).length ≤ 1000 := fun g => Nat.le_trans (pickL_len hF.lon hF.loff (by omega)) (by decide)
  have q1 := pl (gOn e k); have q2 := pl (gOff e k); have q3 := pl (gFull e k); have q4 := pl (gRest e k); have q5 := pl (gAsk e k)
  rw [← h1] at k1; rw [← h2] at k2 q1; rw [← h3] at k3 q2; rw [← h4] at k4 q3; rw [← h5] at k5 q4; rw [← h6] at k6; rw [← h7] at k7 q5; rw [← h8] at k8
  subst k1 k2 k3 k4 k5 k6 k7 k8
  refine sameStepR_ok q1 q2 q3 q4 q5 ⟨fun _ => sgoodP_ok q1 q2 fun b hb => ⟨fun _ => lives_ok h, fun c => ?_⟩, fun c => (by cases c)⟩
  have := hb.2 (by rw [h1, h2, h3]; exact st_apply k hF (ofL_set _))
  rw [this] at c; cases c
/-! ### FilterSays -/
theorem filterSays_ok (e : Bool) (on off : List Ad) (k : Int) (l : List Ad) {Q : Bool → Prop} (h : Q true) : law15_FilterSays_W e on off k l Q := by
  have hF := few_set e on off
  have l6 := take6_len l
  have lo := of6_len l
  refine few_ok (addrs_ok (ofR_ok (by omega) (few_again (addrs_ok ?_))))
  rw [List.take_of_length_le lo]
  refine applyP_ok hF (by omega) ?_
  rw [ofL_id (ofL_set _)]
  intro E On Off Full Rest G Ask All h1 h2 h3 _ _ _ _ _
  have hb : ASet (ofL (l.take 6)) := ofL_set _
  have pl : ∀ g, (pickL g (fOn on) (fOff e on off) (ofL (l.take 6))).length ≤ 1000 := fun g => Nat.le_trans (pickL_len hF.lon hF.loff (by omega)) (by decide)
  have q1 := pl (gOn e k); have q2 := pl (gOff e k)
  have s1 : ASet On := by rw [h2]; exact pickL_set
  have s2 : ASet Off := by rw [h3]; exact pickL_set
  rw [← h2] at q1; rw [← h3] at q2
  have main : ∀ inn ex, inn = kI k → ex = kX k → law15_FilterSays_j2 Q (fOn on) (fOff e on off) (ofL (l.take 6)) E On Off inn ex := by
    intro inn ex hi hx
    refine loop_up1 (ofL (l.take 6)).length (fun _ => True) trivial fun K i hi' _ hK => ?_
    show law15_FilterSays_l1 _ _ _ _ _ _ _ _ _ _ _
    unfold law15_FilterSays_l1
    refine ⟨fun c => ⟨fun d => ⟨by (first | omega | (unfold I64; omega) | (simp only [List.length_append, List.length_cons, List.length_nil, List.length_take, List.length_drop] at *; omega) | (unfold I64; simp only [List.length_append, List.length_cons, List.length_nil, List.length_take, List.length_drop] at *; omega)), letsP_ok s1 s2 q1 q2 ⟨fun f => ?_, fun f => ⟨by (first | omega | (unfold I64; omega) | (simp only [List.length_append, List.length_cons, List.length_nil, List.length_take, List.length_drop] at *; omega) | (unfold I64; simp only [List.length_append, List.length_cons, List.length_nil, List.length_take, List.length_drop] at *; omega)), hK (i + 1) (by omega) (by omega) trivial⟩⟩⟩, fun d => ⟨by (first | omega | (unfold I64; omega) | (simp only [List.length_append, List.length_cons, List.length_nil, List.length_take, List.length_drop] at *; omega) | (unfold I64; simp only [List.length_append, List.length_cons, List.length_nil, List.length_take, List.length_drop] at *; omega)), hK (i + 1) (by omega) (by omega) trivial⟩⟩, fun c => ?_⟩
    · exfalso
      rw [gi_nat (by omega), h1, h2, h3, lets_in hF hb (hi ▸ d) (List.getElem_mem _)] at f
      exact absurd f (by decide)
    · have o1 := fOn6 on
      have o2 := fOff6 e on off
      refine orR_ok (by omega) (by omega) ?_
      have o3 := orL_len (fOn on) (fOff e on off)
      refine loop_up1 (orL (fOn on) (fOff e on off)).length (fun _ => True) trivial fun K i hi' _ hK => ?_
      show law15_FilterSays_l2 _ _ _ _ _ _ _ _ _
      unfold law15_FilterSays_l2
      refine ⟨fun c => ⟨fun d => ⟨by (first | omega | (unfold I64; omega) | (simp only [List.length_append, List.length_cons, List.length_nil, List.length_take, List.length_drop] at *; omega) | (unfold I64; simp only [List.length_append, List.length_cons, List.length_nil, List.length_take, List.length_drop] at *; omega)), hasR_ok (by omega) ⟨fun f => letsP_ok s1 s2 q1 q2 ⟨fun m => ?_, fun m => ⟨by (first | omega | (unfold I64; omega) | (simp only [List.length_append, List.length_cons, List.length_nil, List.length_take, List.length_drop] at *; omega) | (unfold I64; simp only [List.length_append, List.length_cons, List.length_nil, List.length_take, List.length_drop] at *; omega)), hK (i + 1) (by omega) (by omega) trivial⟩⟩, fun f => ⟨by (first | omega | (unfold I64; omega) | (simp only [List.length_append, List.length_cons, List.length_nil, List.length_take, List.length_drop] at *; omega) | (unfold I64; simp only [List.length_append, List.length_cons, List.length_nil, List.length_take, List.length_drop] at *; omega)), hK (i + 1) (by omega) (by omega) trivial⟩⟩⟩, fun d => ⟨by (first | omega | (unfold I64; omega) | (simp only [List.length_append, List.length_cons, List.length_nil, List.length_take, List.length_drop] at *; omega) | (unfold I64; simp only [List.length_append, List.length_cons, List.length_nil, List.length_take, List.length_drop] at *; omega)), hK (i + 1) (by omega) (by omega) trivial⟩⟩, fun c => ⟨fun d => lives_ok h, fun d => ⟨fun f => goneP_ok ⟨fun m => lives_ok h, fun m => ?_⟩, fun f => ?_⟩⟩⟩
      · exfalso
        have hnb : gi (orL (fOn on) (fOff e on off)) (i : Int) ∉ ofL (l.take 6) := fun q => by rw [aIn_iff.2 q] at f; exact absurd f (by decide)
        rw [h1, h2, h3, lets_ex hF hb (hx ▸ d) hnb] at m
        exact absurd m (by decide)
      · unfold gone at m; rw [f] at m; simp at m
      · have : ex = true := by simpa using d
        rw [h1, ← hx, this] at f; simp at f
  have main1 : ∀ inn, inn = kI k → law15_FilterSays_j1 k Q (fOn on) (fOff e on off) (ofL (l.take 6)) E On Off inn := by
    intro inn hi
    unfold law15_FilterSays_j1
    exact ⟨fun c => main _ _ hi (by simp [kX, c]), fun c => main _ _ hi (by simp [kX, c])⟩
  exact ⟨fun c => main1 _ (by simp [kI, c]), fun c => ⟨fun d => main1 _ (by simp [kI, d]), fun d => main1 _ (by simp [kI, c, d])⟩⟩
/-! ### FilterSame -/
theorem filterSame_ok (e : Bool) (on off : List Ad) (e' : Bool) (on' off' : List Ad) {Q : Bool → Prop} (h : Q true) : law15_FilterSame_W e on off e' on' off' Q := by
  refine addrs_ok (addrs_ok ?_)
  have l1 := take6_len on
  have l2 := take6_len off
  have o1 := fOn6 on
  have o2 := fOff6 e on off
  refine sgoodP_ok (by omega) (by omega) fun b hb => sgoodR_ok (by omega) (by omega) fun c hc => ⟨fun _ => few_ok (few_ok (same3P_ok (by omega) (by omega) (few_ok (few_ok (same3R_ok (by omega) (by omega) ⟨fun _ => few_ok (few_ok (same3P_ok (by omega) (by omega) ⟨fun _ => lives_ok h, fun d => by simp at d⟩)), fun d => by simp at d⟩))))), fun d => ?_⟩
  have : b = c := by rw [Bool.eq_iff_iff, hb, hc]
  rw [this] at d; simp at d
/-! ### FilterLets -/
theorem own_ok {e : Bool} {on off : List Ad} {Q : Bool → List Ad → List Ad → Prop} (l1 : on.length ≤ 1000) (l2 : off.length ≤ 1000) (h : Q e on off) : filter_own_W e on off Q := clone_Ad (by omega) (clone_Ad (by omega) h)
def expOff (e : Bool) (on off b : List Ad) : List Ad := if e then orL off (andL on b) else off
theorem expireP_ok {e : Bool} {on off l : List Ad} {Q : Bool → List Ad → List Ad → Prop} (hF : FewS e on off) (hl : l.length ≤ 100) (h : Q e (minusL on (ofL l)) (expOff e on off (ofL l))) : filter_Expire_W e on off l Q := by
  have q1 := hF.lon
  have q2 := hF.loff
  have lo := ofL_len l
  have la := filt_len on (aIn (ofL l))
  refine ofP_ok (by omega) (own_ok (by omega) (by omega) (minusP_ok hF.sOn (ofL_set l) (by omega) ⟨fun c => andP_ok hF.sOn (ofL_set l) (by omega) (orP_ok hF.sOff (hF.sOn.filter _) (by unfold andL; omega) ?_), fun c => ?_⟩))
  · unfold expOff at h; rw [if_pos c] at h; exact h
  · unfold expOff at h; rw [if_neg (by rw [c]; decide)] at h; exact h
theorem expireR_ok {e : Bool} {on off l : List Ad} {Q : Bool → List Ad → List Ad → Prop} (l1 : on.length ≤ 1000) (l2 : off.length ≤ 1000) (l3 : l.length ≤ 1000) (h : Q e (minusL on l) (expOff e on off l)) : ref15_Expire_W e on off l Q := by
  have la := filt_len on (aIn l)
  refine pickR_ok (by omega) (by omega) ?_
  rw [pick_false]
  refine ⟨fun c => pickR_ok (by omega) (by omega) ?_, fun c => ?_⟩
  · rw [pick_true]
    refine orR_ok (by omega) (by unfold andL; omega) ?_
    unfold expOff at h; rw [if_pos c] at h; exact h
  · unfold expOff at h; rw [if_neg (by rw [c]; decide)] at h; exact h
theorem in_of {on l : List Ad} (h : ASet on) {x : Ad} (hx : x ∈ on) : aIn (ofL l) x = aIn l x := by
  rw [Bool.eq_iff_iff, aIn_iff, aIn_iff, mem_ofL]; exact ⟨fun q => q.1, fun q => ⟨q, h.good x hx⟩⟩
theorem minus_of {on l : List Ad} (h : ASet on) : minusL on (ofL l) = minusL on l := List.filter_congr fun x hx => by rw [in_of h hx]
theorem and_of {on l : List Ad} (h : ASet on) : andL on (ofL l) = andL on l := List.filter_congr fun x hx => by rw [in_of h hx]
end Go.Wk
