/- Plain words: PlanOrders. -/
import Derived.Test.YtjliljlmgepmpaaPlnP3
import Derived.Test.YtjliljlmgepmpaaPlnO1
set_option linter.unusedSimpArgs false
set_option linter.unusedVariables false
set_option linter.unusedSectionVars false
namespace Go.Wk
open Go.HL
variable [DM]
abbrev Si := Int × Int × Bool
theorem indexFunc_Si {l : List Si} {p : Si → Bool} {Q : Int → Prop} (hl : l.length ≤ 1000000) (h0 : (∀ x ∈ l, p x = false) → Q (-1)) (h1 : ∀ (i : Nat) (hi : i < l.length), p l[i] = true → (∀ x ∈ l.take i, p x = false) → Q (i : Int)) : slices_IndexFunc_s_api_Site_api_Site_W l p Q := by
  refine loop_up1 l.length (fun i => ∀ x ∈ l.take i, p x = false) (by simp) fun K i hi hI hK => ?_
  show slices_IndexFunc_s_api_Site_api_Site_l1 _ _ _ _ _
  unfold slices_IndexFunc_s_api_Site_api_Site_l1
  refine ⟨fun c => ⟨by (first | omega | (unfold I64; omega) | (simp only [List.length_append, List.length_cons, List.length_nil, List.length_take, List.length_drop] at *; omega) | (unfold I64; simp only [List.length_append, List.length_cons, List.length_nil, List.length_take, List.length_drop] at *; omega)), ?_⟩, fun c => ?_⟩
  · have hi' : i < l.length := by omega
    rw [gi_nat hi']
    refine ⟨fun q => h1 i hi' q hI, fun q => ⟨by (first | omega | (unfold I64; omega) | (simp only [List.length_append, List.length_cons, List.length_nil, List.length_take, List.length_drop] at *; omega) | (unfold I64; simp only [List.length_append, List.length_cons, List.length_nil, List.length_take, List.length_drop] at *; omega)), hK (i + 1) (by omega) (by omega) ?_⟩⟩
    intro x hx
    rw [List.take_succ_eq_append_getElem hi'] at hx
    rcases List.mem_append.1 hx with hx | hx
    · exact hI x hx
    · rw [List.mem_singleton] at hx; subst hx; exact q
  · rw [List.take_of_length_le (by omega)] at hI; exact h0 hI

theorem deleteFunc_Si {l : List Si} {p : Si → Bool} {Q : List Si → Prop} (hl : l.length ≤ 1000000) (h : Q (l.filter fun x => !p x)) : slices_DeleteFunc_s_api_Site_api_Site_W l p Q := by
  unfold slices_DeleteFunc_s_api_Site_api_Site_W
  refine indexFunc_Si hl (fun hn => ⟨fun _ => ?_, fun c => absurd rfl c⟩) (fun r hr hp hn => ⟨fun c => by omega, fun _ => ⟨by (first | omega | (unfold I64; omega) | (simp only [List.length_append, List.length_cons, List.length_nil, List.length_take, List.length_drop] at *; omega) | (unfold I64; simp only [List.length_append, List.length_cons, List.length_nil, List.length_take, List.length_drop] at *; omega)), ?_⟩⟩)
  · have : (l.filter fun x => !p x) = l := List.filter_eq_self.2 fun x hx => by rw [hn x hx]; rfl
    rw [this] at h; exact h
  · have hr0 : (l.take r).filter (fun x => !p x) = l.take r := List.filter_eq_self.2 fun x hx => by rw [hn x hx]; rfl
    refine loop_from (s0 := (l, (r : Int), (r : Int) + 1)) (fun s => s.2.2) (r + 1) l.length (fun j s => s.1.length = l.length ∧ ∃ k : Nat, s.2.1 = k ∧ k + 1 ≤ j ∧ s.1.take k = (l.take j).filter (fun x => !p x) ∧ ∀ q, j ≤ q → s.1[q]? = l[q]?) (by simp) (by omega) ⟨rfl, r, rfl, by omega, ?_, fun _ _ => rfl⟩ ?_
    · show l.take r = _
      rw [List.take_succ_eq_append_getElem hr, List.filter_append, hr0]; simp [hp]
    · rintro K j ⟨l2, _, _⟩ rfl hj ⟨hl2, k, rfl, k1, ht, hq⟩ hK
      simp only at hl2 ht hq ⊢
      unfold slices_DeleteFunc_s_api_Site_api_Site_l2
      refine ⟨fun c => ⟨by (first | omega | (unfold I64; omega) | (simp only [List.length_append, List.length_cons, List.length_nil, List.length_take, List.length_drop] at *; omega) | (unfold I64; simp only [List.length_append, List.length_cons, List.length_nil, List.length_take, List.length_drop] at *; omega)), ?_⟩, fun c => ?_⟩
      · have hj' : j < l.length := by omega
        have e1 : gi l2 (j : Int) = l[j] := by rw [gi_of (hq j (Nat.le_refl _)), gi_nat hj']
        rw [e1]
        refine ⟨fun q => ⟨by (first | omega | (unfold I64; omega) | (simp only [List.length_append, List.length_cons, List.length_nil, List.length_take, List.length_drop] at *; omega) | (unfold I64; simp only [List.length_append, List.length_cons, List.length_nil, List.length_take, List.length_drop] at *; omega)), by (first | omega | (unfold I64; omega) | (simp only [List.length_append, List.length_cons, List.length_nil, List.length_take, List.length_drop] at *; omega) | (unfold I64; simp only [List.length_append, List.length_cons, List.length_nil, List.length_take, List.length_drop] at *; omega)), by (first | omega | (unfold I64; omega) | (simp only [List.length_append, List.length_cons, List.length_nil, List.length_take, List.length_drop] at *; omega) | (unfold I64; simp only [List.length_append, List.length_cons, List.length_nil, List.length_take, List.length_drop] at *; omega)), hK (j + 1) _ (by simp) (by omega) (by omega) ⟨by simpa using hl2, k + 1, by simp, by omega, ?_, fun x hx => ?_⟩⟩, fun q => ⟨by (first | omega | (unfold I64; omega) | (simp only [List.length_append, List.length_cons, List.length_nil, List.length_take, List.length_drop] at *; omega) | (unfold I64; simp only [List.length_append, List.length_cons, List.length_nil, List.length_take, List.length_drop] at *; omega)), hK (j + 1) _ (by simp) (by omega) (by omega) ⟨hl2, k, rfl, by omega, ?_, fun x hx => hq x (by omega)⟩⟩⟩
        · show (l2.set (k : Int).toNat _).take (k + 1) = _
          rw [Int.toNat_natCast, take_set (by omega), ht, List.take_succ_eq_append_getElem hj', List.filter_append]
          have : p l[j] = false := by simpa using q
          simp [this]
        · show (l2.set (k : Int).toNat _)[x]? = _
          rw [Int.toNat_natCast, List.getElem?_set, if_neg (by omega)]; exact hq x (by omega)
        · rw [List.take_succ_eq_append_getElem hj', List.filter_append, ht]
          have : p l[j] = true := by simpa using q
          simp [this]
      · have hjl : j = l.length := by omega
        subst hjl
        rw [List.take_length] at ht
        have hcl : (clr l2 (k : Int) (l2.length : Int)).length = l2.length := by simp [clr]; omega
        refine ⟨by (first | omega | (unfold I64; omega) | (simp only [List.length_append, List.length_cons, List.length_nil, List.length_take, List.length_drop] at *; omega) | (unfold I64; simp only [List.length_append, List.length_cons, List.length_nil, List.length_take, List.length_drop] at *; omega)), by (first | omega | (unfold I64; omega) | (simp only [List.length_append, List.length_cons, List.length_nil, List.length_take, List.length_drop] at *; omega) | (unfold I64; simp only [List.length_append, List.length_cons, List.length_nil, List.length_take, List.length_drop] at *; omega)), by rw [hcl]; (first | omega | (unfold I64; omega) | (simp only [List.length_append, List.length_cons, List.length_nil, List.length_take, List.length_drop] at *; omega) | (unfold I64; simp only [List.length_append, List.length_cons, List.length_nil, List.length_take, List.length_drop] at *; omega)), ?_⟩
        rw [cut_clr (by omega), ht]; exact h

theorem clone_Si {l : List Si} {Q : List Si → Prop} (hl : l.length ≤ 1000000) (h : Q l) : slices_Clone_s_api_Site_api_Site_W l Q :=
  ⟨fun c => by subst c; exact h, fun _ => ⟨by (first | omega | (unfold I64; omega) | (simp only [List.length_append, List.length_cons, List.length_nil, List.length_take, List.length_drop] at *; omega) | (unfold I64; simp only [List.length_append, List.length_cons, List.length_nil, List.length_take, List.length_drop] at *; omega)), h⟩⟩
/-- A service node is near, or far. -/
def farS (r s : Si) : Int := if s.2.1 = r.2.1 then 0 else 1
def sc (r a b : Si) : Int := if farS r a - farS r b = 0 then ci a.1 b.1 else farS r a - farS r b
theorem far_cases (r s : Si) : (farS r s = 0 ∧ s.2.1 = r.2.1) ∨ (farS r s = 1 ∧ ¬ s.2.1 = r.2.1) := by
  unfold farS; split
  · rename_i h; exact .inl ⟨rfl, h⟩
  · rename_i h; exact .inr ⟨rfl, h⟩
theorem sc_lt (r a b : Si) : sc r a b < 0 ↔ farS r a < farS r b ∨ farS r a = farS r b ∧ a.1 < b.1 := by
  unfold sc ci
  split
  · split
    · omega
    · split <;> omega
  · omega
theorem swo_sc (r : Si) : Swo (sc r) where
  irrefl a := by
    have : ¬ sc r a a < 0 := by rw [sc_lt]; omega
    simpa [Go.Proofs.ltOf] using this
  trans a b c h k := by
    simp only [Go.Proofs.ltOf, decide_eq_true_eq, sc_lt] at *; omega
  ntrans a b c h k := by
    simp only [Go.Proofs.ltOf, decide_eq_false_iff_not, sc_lt] at *; omega
theorem split_pred {α : Type} {R : α → α → Prop} (p : α → Bool) : ∀ {l : List α}, l.Pairwise R → (∀ a b, R a b → p b = true → p a = true) → l = l.filter p ++ l.filter fun x => !p x
  | [], _, _ => rfl
  | a :: l, h, hR => by
    rw [List.pairwise_cons] at h
    cases hp : p a with
    | true =>
      rw [List.filter_cons, if_pos hp, List.filter_cons, if_neg (by simp [hp]), List.cons_append, ← split_pred p h.2 hR]
    | false =>
      have hn : l.filter p = [] := List.filter_eq_nil_iff.2 fun x hx q => by
        have := hR a x (h.1 x hx) q; rw [hp] at this; cases this
      have hy : (l.filter fun x => !p x) = l := List.filter_eq_self.2 fun x hx => by
        cases hq : p x with
        | true => have := hR a x (h.1 x hx) hq; rw [hp] at this; cases this
        | false => rfl
      rw [List.filter_cons, if_neg (by simp [hp]), hn, List.filter_cons, if_pos (by simp [hp]), hy]; rfl
/-- Service nodes in order. -/
structure OrdIs (r : Si) (x : List Si) (l : List Int) : Prop where
  eq : ∃ a b : List Int, l = a ++ b ∧ a.Pairwise (· < ·) ∧ b.Pairwise (· < ·) ∧ (∀ n, n ∈ a ↔ ∃ s ∈ x, s.1 = n ∧ s.2.2 = true ∧ s.2.1 = r.2.1) ∧ ∀ n, n ∈ b ↔ ∃ s ∈ x, s.1 = n ∧ s.2.2 = true ∧ ¬ s.2.1 = r.2.1
theorem OrdIs.uniq {r : Si} {x : List Si} {l m : List Int} (h : OrdIs r x l) (k : OrdIs r x m) : l = m := by
  obtain ⟨a, b, rfl, h1, h2, h3, h4⟩ := h.eq
  obtain ⟨a', b', rfl, k1, k2, k3, k4⟩ := k.eq
  rw [rise_eq h1 k1 fun n => by rw [h3, k3], rise_eq h2 k2 fun n => by rw [h4, k4]]
theorem order33_ok {r : Si} {x : List Si} {Q : List Int → Prop} (hl : x.length ≤ 100) (hn : (x.map (·.1)).Nodup) (h : ∀ l, OrdIs r x l → Q l) : plan_Order_W r x Q := by
  refine clone_Si (by omega) ⟨fun s => !s.2.2, fun s => rfl, deleteFunc_Si (by omega) ⟨farS r, fun s => ?_, sc r, fun a b => ?_, swo_sc r, ?_, fun l hp hs => ?_⟩⟩
  · unfold farS
    exact ⟨fun c => by rw [if_pos c], fun c => by rw [if_neg c]⟩
  · have h1 := far_cases r a; have h2 := far_cases r b
    exact ⟨by unfold I64; omega, compare_ok (or_ok rfl)⟩
  · have := List.length_filter_le (fun s : Si => !(!s.2.2)) x; omega
  · have hll : l.length ≤ 100 := by
      rw [hp.length_eq]; exact Nat.le_trans (List.length_filter_le _ _) hl
    have hmem : ∀ s, s ∈ l ↔ s ∈ x ∧ s.2.2 = true := fun s => by rw [hp.mem_iff, List.mem_filter]; simp
    refine loop_up l.length (fun i s => s = (l.take i).map (·.1)) (by simp) fun K i s hi hs2 hK => ?_
    have hsl : s.length = i := by rw [hs2]; simp; omega
    show plan_Order_l2 _ _ _ s (i : Int)
    unfold plan_Order_l2
    refine ⟨fun c => ?_, fun c => ?_⟩
    · have hlt : i < l.length := by omega
      refine ⟨by omega, by simp only [List.length_cons, List.length_nil]; omega, by unfold I64; omega, hK (i + 1) _ (by omega) hlt ?_⟩
      rw [hs2, List.take_succ_eq_append_getElem hlt, gi_nat hlt, List.map_append]; rfl
    · have : i = l.length := by omega
      subst this
      rw [List.take_length] at hs2
      subst hs2
      refine h _ ⟨(l.filter fun s => decide (s.2.1 = r.2.1)).map (·.1), (l.filter fun s => !decide (s.2.1 = r.2.1)).map (·.1), ?_, ?_, ?_, fun n => ?_, fun n => ?_⟩
      · rw [← List.map_append, ← split_pred _ hs fun a b q hb => ?_]
        rw [sc_lt] at q
        have h1 := far_cases r a; have h2 := far_cases r b
        simp only [decide_eq_true_eq] at hb ⊢
        have : farS r b = 0 := by rcases h2 with h2 | h2; · exact h2.1
                                  · exact absurd hb h2.2
        rcases h1 with h1 | h1
        · exact h1.2
        · exact absurd (.inl (by omega)) q
      all_goals
        first
        | (rw [List.mem_map]
           constructor
           · rintro ⟨s, hs3, rfl⟩
             rw [List.mem_filter, hmem] at hs3
             exact ⟨s, hs3.1.1, rfl, hs3.1.2, by simpa using hs3.2⟩
           · rintro ⟨s, h1, rfl, h2, h3⟩
             exact ⟨s, List.mem_filter.2 ⟨(hmem s).2 ⟨h1, h2⟩, by simpa using h3⟩, rfl⟩)
        | skip
      all_goals
        have hnl : (l.map (·.1)).Nodup := by
          rw [(hp.map _).nodup_iff]
          exact List.Nodup.sublist (List.Sublist.map _ List.filter_sublist) hn
        have hnd : l.Pairwise fun a b => a.1 ≠ b.1 := List.pairwise_map.1 hnl
        refine List.pairwise_map.2 ?_
        refine List.Pairwise.imp_of_mem (R := fun a b => ¬ sc r b a < 0 ∧ a.1 ≠ b.1) (fun {a b} ha hb q => ?_) ((hs.and hnd).sublist List.filter_sublist)
        have ha := (List.mem_filter.1 ha).2; have hb := (List.mem_filter.1 hb).2
        simp only [Bool.not_eq_true', decide_eq_true_eq, decide_eq_false_iff_not] at ha hb
        have h1 := far_cases r a; have h2 := far_cases r b
        obtain ⟨q1, q2⟩ := q
        rw [sc_lt] at q1
        have e : farS r a = farS r b := by
          rcases h1 with h1 | h1 <;> rcases h2 with h2 | h2 <;> first | omega | (exfalso; first | exact h2.2 hb | exact h1.2 ha | exact ha h1.2 | exact hb h2.2)
        omega
theorem refOrder_ok {r : Si} {x : List Si} {Q : List Int → Prop} (hl : x.length ≤ 100) (h : ∀ l, OrdIs r x l → Q l) : ref33_Order_W r x Q := by
  refine loop_by (fun s => s.2.2) x.length (fun i s => (s.1.length ≤ i ∧ s.2.1.length ≤ i) ∧ s.1.Pairwise (· < ·) ∧ s.2.1.Pairwise (· < ·) ∧ (∀ n, n ∈ s.1 ↔ ∃ s ∈ x.take i, s.1 = n ∧ s.2.2 = true ∧ s.2.1 = r.2.1) ∧ ∀ n, n ∈ s.2.1 ↔ ∃ s ∈ x.take i, s.1 = n ∧ s.2.2 = true ∧ ¬ s.2.1 = r.2.1) rfl ⟨⟨by simp, by simp⟩, by simp, by simp, by simp, by simp⟩ ?_
  rintro K i ⟨a, b, _⟩ rfl hi ⟨⟨la, lb⟩, h1, h2, h3, h4⟩ hK
  simp only at la lb h1 h2 h3 h4 hi
  show ref33_Order_l1 _ _ _ _ a b (i : Int)
  unfold ref33_Order_l1
  refine ⟨fun c => ?_, fun c => ?_⟩
  · have hlt : i < x.length := by omega
    have ht : x.take (i + 1) = x.take i ++ [x[i]] := List.take_succ_eq_append_getElem hlt
    have ex : ∀ p : Si → Prop, (∃ s ∈ x.take (i + 1), p s) ↔ (∃ s ∈ x.take i, p s) ∨ p x[i] := fun p => by
      rw [ht]
      constructor
      · rintro ⟨s, hs, q⟩
        rcases List.mem_append.1 hs with hs | hs
        · exact .inl ⟨s, hs, q⟩
        · rw [List.mem_singleton] at hs; subst hs; exact .inr q
      · rintro (⟨s, hs, q⟩ | q)
        · exact ⟨s, List.mem_append_left _ hs, q⟩
        · exact ⟨_, List.mem_append_right _ (List.mem_singleton.2 rfl), q⟩
    have j1 : ∀ b1 : Bool, (b1 = true ↔ (x[i].2.2 = true ∧ x[i].2.1 = r.2.1)) → ref33_Order_j1 x a b (i : Int) (fun near_1 far_1 i_1 => K (near_1, far_1, i_1)) b1 := by
      intro b1 hb1
      unfold ref33_Order_j1
      rw [gi_nat hlt]
      have lxa := len_addI a x[i].1; have lxb := len_addI b x[i].1
      refine ⟨fun q => ⟨by omega, add_ok (by omega) ⟨by unfold I64; omega, hK (i + 1) _ rfl (by omega) hlt ⟨⟨by simp only; omega, by simp only; omega⟩, rise_addI h1, h2, fun n => ?_, fun n => ?_⟩⟩⟩, fun q => ⟨by omega, fun d => add_ok (by omega) ⟨by unfold I64; omega, hK (i + 1) _ rfl (by omega) hlt ⟨⟨by simp only; omega, by simp only; omega⟩, h1, rise_addI h2, fun n => ?_, fun n => ?_⟩⟩, fun d => ⟨by unfold I64; omega, hK (i + 1) _ rfl (by omega) hlt ⟨⟨by simp only; omega, by simp only; omega⟩, h1, h2, fun n => ?_, fun n => ?_⟩⟩⟩⟩
      · have := hb1.1 q
        rw [mem_addI, ex, h3]
        constructor
        · rintro (rfl | e)
          · exact .inr ⟨rfl, this⟩
          · exact .inl e
        · rintro (e | e)
          · exact .inr e
          · exact .inl e.1.symm
      · have := hb1.1 q
        rw [ex, h4]
        exact ⟨.inl, fun e => e.elim id fun e => absurd this.2 e.2.2⟩
      · rw [ex, h3]
        exact ⟨.inl, fun e => e.elim id fun e => by rw [hb1.2 ⟨e.2.1, e.2.2⟩] at q; cases q⟩
      · have hno : ¬ x[i].2.1 = r.2.1 := fun e => by rw [hb1.2 ⟨d, e⟩] at q; cases q
        rw [mem_addI, ex, h4]
        constructor
        · rintro (rfl | e)
          · exact .inr ⟨rfl, d, hno⟩
          · exact .inl e
        · rintro (e | e)
          · exact .inr e
          · exact .inl e.1.symm
      · rw [ex, h3]
        exact ⟨.inl, fun e => e.elim id fun e => by rw [e.2.1] at d; cases d⟩
      · rw [ex, h4]
        exact ⟨.inl, fun e => e.elim id fun e => by rw [e.2.1] at d; cases d⟩
    rw [gi_nat hlt]
    refine ⟨by omega, fun d => j1 _ ?_, fun d => j1 false ?_⟩
    · simp [d]
    · simp [d]
  · have : i = x.length := by omega
    subst this
    rw [List.take_length] at h3 h4
    exact ⟨by omega, h _ ⟨a, b, rfl, h1, h2, h3, h4⟩⟩
theorem same23_ok {a b : List Int} {Q : Bool → Prop} (hl : a.length ≤ 1000000) (e : a = b) (h : Q true) : ref23_Same_W a b Q := by
  subst e
  refine ⟨fun c => absurd rfl c, fun c => ?_⟩
  refine loop_up1 a.length (fun i => True) trivial fun K i hi hI hK => ?_
  unfold ref23_Same_l1
  exact ⟨fun d => ⟨by omega, by omega, fun q => absurd rfl q, fun q => ⟨by unfold I64; omega, hK (i + 1) (by omega) (by omega) trivial⟩⟩, fun d => h⟩
theorem ord_len {r : Si} {x : List Si} {l : List Int} (h : OrdIs r x l) : l.length ≤ 2 * x.length := by
  obtain ⟨a, b, rfl, h1, h2, h3, h4⟩ := h.eq
  have ha := nodup_le (m := x.map (·.1)) (rise_nodup h1) fun n hn => by obtain ⟨s, hs, rfl, _⟩ := (h3 n).1 hn; exact List.mem_map.2 ⟨s, hs, rfl⟩
  have hb := nodup_le (m := x.map (·.1)) (rise_nodup h2) fun n hn => by obtain ⟨s, hs, rfl, _⟩ := (h4 n).1 hn; exact List.mem_map.2 ⟨s, hs, rfl⟩
  simp only [List.length_map, List.length_append] at *; omega
theorem planOrders_ok {r : Si} {l : List Si} {Q : Bool → Prop} (h : Q true) : law33_PlanOrders_W r l Q := by
  refine loop_by (fun s => s.2.2) 13 (fun i s => i ≤ 12 ∧ i ≤ l.length ∧ (s.1.length ≤ i ∧ s.2.1.length ≤ i) ∧ (s.1.map (·.1)).Nodup ∧ ∀ n, n ∈ s.2.1 ↔ n ∈ s.1.map (·.1)) rfl ⟨by omega, by omega, ⟨by simp, by simp⟩, by simp, by simp⟩ ?_
  rintro K i ⟨x, seen, _⟩ rfl hi ⟨hi2, hil, ⟨lx, ls⟩, hn, hm⟩ hK
  simp only at lx ls hn hm hi hi2 hil
  have fin : ∀ b : Bool, (b = true → i < 12 ∧ i < l.length) → law33_PlanOrders_j1 r l Q x seen (i : Int) (fun x_1 seen_1 i_1 => K (x_1, seen_1, i_1)) b := by
    intro b hb
    unfold law33_PlanOrders_j1
    refine ⟨fun q => ?_, fun q => ⟨by simp; omega, order33_ok (by simpa using (by omega : x.length ≤ 100)) (by simpa using hn) fun o ho => refOrder_ok (by omega) fun o' ho' => ?_⟩⟩
    · obtain ⟨h1, h2⟩ := hb q
      rw [gi_nat h2]
      have lxa := len_addI seen l[i].1
      refine ⟨by omega, has_ok (by omega) ⟨fun d => ⟨by simp only [List.length_cons, List.length_nil]; omega, add_ok (by omega) ⟨by unfold I64; omega, hK (i + 1) _ rfl (by omega) (by omega) ⟨by omega, h2, ⟨by simp; omega, by simp only; omega⟩, ?_, fun n => ?_⟩⟩⟩, fun d => ⟨by unfold I64; omega, hK (i + 1) _ rfl (by omega) (by omega) ⟨by omega, h2, ⟨by simp only; omega, by simp only; omega⟩, hn, hm⟩⟩⟩⟩
      · have hno : l[i].1 ∉ x.map (·.1) := fun e => by rw [← hm] at e; simp [e] at d
        rw [List.map_append, List.nodup_append]
        exact ⟨hn, by simp, fun a ha b hb e => by simp only [List.map_cons, List.map_nil, List.mem_singleton] at hb; rw [e, hb] at ha; exact hno ha⟩
      · rw [mem_addI, hm, List.map_append, List.mem_append]; simp only [List.map_cons, List.map_nil, List.mem_singleton]
        exact Or.comm
    · simp only [List.nil_append] at ho
      have hlo := ord_len ho
      exact same23_ok (by omega) (ho.uniq ho') ⟨fun _ => lives_ok h, fun c => by cases c⟩
  show law33_PlanOrders_l1 _ _ _ _ x seen (i : Int)
  unfold law33_PlanOrders_l1
  refine ⟨fun c => fin _ fun q => ?_, fun c => fin false fun q => by cases q⟩
  simp only [decide_eq_true_eq] at q; omega
end Go.Wk
