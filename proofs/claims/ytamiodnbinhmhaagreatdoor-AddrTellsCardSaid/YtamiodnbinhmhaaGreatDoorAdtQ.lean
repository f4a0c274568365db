/- Plain words for one law: what it needs. -/
import Derived.Test.YtamiodnbinhmhaaGreatDoorAdtP
set_option linter.unusedSimpArgs false
set_option linter.unusedVariables false
set_option linter.unusedSectionVars false
namespace Go.Wk
open Go.HL
variable [DM]
/-! ### The order of texts -/
/-! ### Addresses -/
def aGood (a : Ad) : Bool := a.1 || decide (a.2.1.drop 4 = List.replicate 12 0)
theorem b8_at {n : Nat} (x : Ba n) {i : Nat} (h : i < n) : b8 x (i : Int) = ((x.1[i]'(by rw [x.2]; exact h)).toNat : Int) := by
  unfold b8; rw [gi_nat (by rw [x.2]; exact h)]
theorem goodR_ok {a : Ad} {Q : Bool → Prop} (h : Q (aGood a)) : ref03_Good_W a Q := by
  refine loop_from (s0 := (4 : Int)) (fun s => s) 4 16 (fun i _ => 4 ≤ i ∧ (a.1 = false → ∀ k (hk : k < 16), 4 ≤ k → k < i → a.2.1[k]'(by rw [a.2.2]; exact hk) = 0)) rfl (by omega) ⟨by omega, fun _ k _ h1 h2 => by omega⟩ ?_
  rintro K i _ rfl hi ⟨h4, hz⟩ hK
  show ref03_Good_l1 _ _ _ _
  unfold ref03_Good_l1
  refine ⟨fun c => ⟨fun d => ⟨by (first | omega | (unfold I64; omega) | (simp only [List.length_append, List.length_cons, List.length_nil, List.length_take, List.length_drop] at *; omega) | (unfold I64; simp only [List.length_append, List.length_cons, List.length_nil, List.length_take, List.length_drop] at *; omega)), fun q => ?_, fun q => ⟨by (first | omega | (unfold I64; omega) | (simp only [List.length_append, List.length_cons, List.length_nil, List.length_take, List.length_drop] at *; omega) | (unfold I64; simp only [List.length_append, List.length_cons, List.length_nil, List.length_take, List.length_drop] at *; omega)), hK (i + 1) _ rfl (by omega) (by omega) ⟨by omega, fun v k hk h1 h2 => ?_⟩⟩⟩, fun d => ⟨by (first | omega | (unfold I64; omega) | (simp only [List.length_append, List.length_cons, List.length_nil, List.length_take, List.length_drop] at *; omega) | (unfold I64; simp only [List.length_append, List.length_cons, List.length_nil, List.length_take, List.length_drop] at *; omega)), hK (i + 1) _ rfl (by omega) (by omega) ⟨by omega, fun v => by simp [v] at d⟩⟩⟩, fun c => ?_⟩
  · have hi16 : i < 16 := by omega
    rw [b8_at a.2 hi16] at q
    have : aGood a = false := by
      have hv : a.1 = false := by simpa using d
      unfold aGood; rw [hv, Bool.false_or, decide_eq_false_iff_not]
      intro e
      have h5 : (a.2.1.drop 4)[i - 4]? = (List.replicate 12 (0 : UInt8))[i - 4]? := by rw [e]
      rw [List.getElem?_drop, show 4 + (i - 4) = i by omega, List.getElem?_eq_getElem (by rw [a.2.2]; exact hi16), List.getElem?_replicate, if_pos (by omega)] at h5
      simp only [Option.some.injEq] at h5
      rw [h5] at q; exact q rfl
    rw [this] at h; exact h
  · by_cases e : k < i
    · exact hz v k hk h1 e
    · have : k = i := by omega
      subst this
      rw [b8_at a.2 hk] at q
      exact UInt8.toNat_inj.1 (by show _ = 0; omega)
  · have : aGood a = true := by
      unfold aGood
      cases hv : a.1 with
      | true => rfl
      | false =>
        rw [Bool.false_or, decide_eq_true_eq]
        apply List.ext_getElem
        · rw [List.length_drop, a.2.2, List.length_replicate]
        · intro k h1 h2
          rw [List.length_replicate] at h2
          rw [List.getElem_drop, List.getElem_replicate]
          exact hz hv (4 + k) (by omega) (by omega) (by omega)
    rw [this] at h; exact h
theorem goodP_ok {a : Ad} {Q : Bool → Prop} (h : Q (aGood a)) : addr_Good_W a Q := by
  unfold addr_Good_W
  refine ⟨fun v => ?_, fun v => ?_⟩
  · unfold aGood at h; rw [v] at h; exact h
  · refine ⟨b8_rng _ _, b8_rng _ _, b8_rng _ _, b8_rng _ _, ?_⟩
    have e : decide ((a : T_api_Addr) = (false, mkB 16 [b8 a.2 0, b8 a.2 1, b8 a.2 2, b8 a.2 3, 0, 0, 0, 0, 0, 0, 0, 0, 0, 0, 0, 0])) = aGood a := by
      have hm : (mkB 16 [b8 a.2 0, b8 a.2 1, b8 a.2 2, b8 a.2 3, 0, 0, 0, 0, 0, 0, 0, 0, 0, 0, 0, 0]).1 = a.2.1.take 4 ++ List.replicate 12 0 := by
        have hl := a.2.2
        apply List.ext_getElem
        · rw [(mkB 16 _).2, List.length_append, List.length_take, hl, List.length_replicate]; rfl
        · intro i h1 h2
          rw [(mkB 16 _).2] at h1
          have k0 : ∀ j, j < 4 → ∀ (hj : j < a.2.1.length), UInt8.ofNat (b8 a.2 (j : Int)).toNat = a.2.1[j] := by
            intro j hj hj'
            rw [b8_at a.2 (by omega), Int.toNat_natCast, UInt8.ofNat_toNat]
          simp only [mkB, List.getElem_map, List.getElem_range]
          by_cases hi : i < 4
          · rw [List.getElem_append_left (by rw [List.length_take, hl]; omega), List.getElem_take]
            rw [← k0 i hi (by omega)]
            congr 2
            rcases i with _ | _ | _ | _ | i
            · rfl
            · rfl
            · rfl
            · rfl
            · omega
          · rw [List.getElem_append_right (by rw [List.length_take, hl]; omega), List.getElem_replicate]
            have : ([b8 a.2 0, b8 a.2 1, b8 a.2 2, b8 a.2 3, 0, 0, 0, 0, 0, 0, 0, 0, 0, 0, 0, 0] : List Int).getD i 0 = 0 := by
              rw [show i = 4 + (i - 4) by omega]
              rcases hq : i - 4 with _ | _ | _ | _ | _ | _ | _ | _ | _ | _ | _ | _ | q
              all_goals first | rfl | omega
            rw [this]; rfl
      unfold aGood
      rw [v, Bool.false_or]
      apply decide_eq_decide.2
      constructor
      · intro e
        have h2 : a.2.1 = a.2.1.take 4 ++ List.replicate 12 0 := by rw [← hm]; exact congrArg (fun x : Ad => x.2.1) e
        have h3 : (a.2.1.take 4).length = 4 := by rw [List.length_take, a.2.2]; rfl
        rw [h2, List.drop_append, h3, List.drop_of_length_le (by omega)]; rfl
      · intro e
        have h2 : a.2.1 = a.2.1.take 4 ++ List.replicate 12 0 := by rw [← e, List.take_append_drop]
        exact Prod.ext v (Subtype.ext (h2.trans hm.symm))
    show Q _
    rw [e]; exact h
/-! ### Sets -/
/-! ### The document's functions -/
/-! ### The library's functions -/
end Go.Wk
