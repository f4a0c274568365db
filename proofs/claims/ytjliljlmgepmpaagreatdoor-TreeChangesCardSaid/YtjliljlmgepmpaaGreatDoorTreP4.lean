/- Plain words for one law: what it needs. -/
import Derived.Test.YtjliljlmgepmpaaGreatDoorTreP3
import Derived.Test.YtjliljlmgepmpaaGreatDoorTreB1
set_option linter.unusedSimpArgs false
set_option linter.unusedVariables false
set_option linter.unusedSectionVars false
namespace Go.Wk
open Go.HL
variable [DM]
theorem indexFunc_I {l : List Int} {p : Int → Bool} {Q : Int → Prop} (hl : l.length ≤ 1000000) (h0 : (∀ x ∈ l, p x = false) → Q (-1)) (h1 : ∀ (i : Nat) (hi : i < l.length), p l[i] = true → (∀ x ∈ l.take i, p x = false) → Q (i : Int)) : slices_IndexFunc_s_int_int_W l p Q := by
  refine loop_up1 l.length (fun i => ∀ x ∈ l.take i, p x = false) (by simp) fun K i hi hI hK => ?_
  show slices_IndexFunc_s_int_int_l1 _ _ _ _ _
  unfold slices_IndexFunc_s_int_int_l1
  refine ⟨fun c => ⟨by (first | omega | (unfold I64; omega) | (simp only [List.length_append, List.length_cons, List.length_nil, List.length_take, List.length_drop] at *; omega) | (unfold I64; simp only [List.length_append, List.length_cons, List.length_nil, List.length_take, List.length_drop] at *; omega)), ?_⟩, fun c => ?_⟩
  · have hi' : i < l.length := by omega
    rw [gi_nat hi']
    refine ⟨fun q => h1 i hi' q hI, fun q => ⟨by (first | omega | (unfold I64; omega) | (simp only [List.length_append, List.length_cons, List.length_nil, List.length_take, List.length_drop] at *; omega) | (unfold I64; simp only [List.length_append, List.length_cons, List.length_nil, List.length_take, List.length_drop] at *; omega)), hK (i + 1) (by omega) (by omega) ?_⟩⟩
    intro x hx
    rw [List.take_succ_eq_append_getElem hi'] at hx
    rcases List.mem_append.1 hx with hx | hx
    · exact hI x hx
    · rw [List.mem_singleton] at hx; subst hx; exact q
  · rw [List.take_of_length_le (by omega)] at hI; exact h0 hI
theorem deleteFunc_I {l : List Int} {p : Int → Bool} {Q : List Int → Prop} (hl : l.length ≤ 1000000) (h : Q (l.filter fun x => !p x)) : slices_DeleteFunc_s_int_int_W l p Q := by
  unfold slices_DeleteFunc_s_int_int_W
  refine indexFunc_I hl (fun hn => ⟨fun _ => ?_, fun c => absurd rfl c⟩) (fun r hr hp hn => ⟨fun c => by omega, fun _ => ⟨by (first | omega | (unfold I64; omega) | (simp only [List.length_append, List.length_cons, List.length_nil, List.length_take, List.length_drop] at *; omega) | (unfold I64; simp only [List.length_append, List.length_cons, List.length_nil, List.length_take, List.length_drop] at *; omega)), ?_⟩⟩)
  · have : (l.filter fun x => !p x) = l := List.filter_eq_self.2 fun x hx => by rw [hn x hx]; rfl
    rw [this] at h; exact h
  · have hr0 : (l.take r).filter (fun x => !p x) = l.take r := List.filter_eq_self.2 fun x hx => by rw [hn x hx]; rfl
    refine loop_from (s0 := (l, (r : Int), (r : Int) + 1)) (fun s => s.2.2) (r + 1) l.length (fun j s => s.1.length = l.length ∧ ∃ k : Nat, s.2.1 = k ∧ k + 1 ≤ j ∧ s.1.take k = (l.take j).filter (fun x => !p x) ∧ ∀ q, j ≤ q → s.1[q]? = l[q]?) (by simp) (by omega) ⟨rfl, r, rfl, by omega, ?_, fun _ _ => rfl⟩ ?_
    · show l.take r = _
      rw [List.take_succ_eq_append_getElem hr, List.filter_append, hr0]; simp [hp]
    · rintro K j ⟨l2, _, _⟩ rfl hj ⟨hl2, k, rfl, k1, ht, hq⟩ hK
      simp only at hl2 ht hq ⊢
      unfold slices_DeleteFunc_s_int_int_l2
      refine ⟨fun c => ⟨by (first | omega | (unfold I64; omega) | (simp only [List.length_append, List.length_cons, List.length_nil, List.length_take, List.length_drop] at *; omega) | (unfold I64; simp only [List.length_append, List.length_cons, List.length_nil, List.length_take, List.length_drop] at *; omega)), ?_⟩, fun c => ?_⟩
      · have hj' : j < l.length := by omega
        have e1 : gi l2 (j : Int) = l[j] := by rw [gi_of (hq j (Nat.le_refl _)), gi_nat hj']
        rw [e1]
        refine ⟨fun q => ⟨by (first | omega | (unfold I64; omega) | (simp only [List.length_append, List.length_cons, List.length_nil, List.length_take, List.length_drop] at *; omega) | (unfold I64; simp only [List.length_append, List.length_cons, List.length_nil, List.length_take, List.length_drop] at *; omega)), by (first | omega | (unfold I64; omega) | (simp only [List.length_append, List.length_cons, List.length_nil, List.length_take, List.length_drop] at *; omega) | (unfold I64; simp only [List.length_append, List.length_cons, List.length_nil, List.length_take, List.length_drop] at *; omega)), by (first | omega | (unfold I64; omega) | (simp only [List.length_append, List.length_cons, List.length_nil, List.length_take, List.length_drop] at *; omega) | (unfold I64; simp only [List.length_append, List.length_cons, List.length_nil, List.length_take, List.length_drop] at *; omega)), hK (j + 1) _ (by simp) (by omega) (by omega) ⟨by simpa using hl2, k + 1, by simp, by omega, ?_, fun x hx => ?_⟩⟩, fun q => ⟨by (first | omega | (unfold I64; omega) | (simp only [List.length_append, List.length_cons, List.length_nil, List.length_take, List.length_drop] at *; omega) | (unfold I64; simp only [List.length_append, List.length_cons, List.length_nil, List.length_take, List.length_drop] at *; omega)), hK (j + 1) _ (by simp) (by omega) (by omega) ⟨hl2, k, rfl, by omega, ?_, fun x hx => hq x (by omega)⟩⟩⟩
        · show (l2.set (k : Int).toNat _).take (k + 1) = _
          rw [Int.toNat_natCast, take_set (by omega), ht, List.take_succ_eq_append_getElem hj', List.filter_append]
          have : p l[j] = false := by simpa using q
          simp [this]
        · show (l2.set (k : Int).toNat _)[x]? = _
          rw [Int.toNat_natCast, List.getElem?_set, if_neg (by omega)]; exact hq x (by omega)
        · rw [List.take_succ_eq_append_getElem hj', List.filter_append, ht]
          have : p l[j] = true := by simpa using q
          simp [this]
      · have hjl : j = l.length := by omega
        subst hjl
        rw [List.take_length] at ht
        have hcl : (clr l2 (k : Int) (l2.length : Int)).length = l2.length := by simp [clr]; omega
        refine ⟨by (first | omega | (unfold I64; omega) | (simp only [List.length_append, List.length_cons, List.length_nil, List.length_take, List.length_drop] at *; omega) | (unfold I64; simp only [List.length_append, List.length_cons, List.length_nil, List.length_take, List.length_drop] at *; omega)), by (first | omega | (unfold I64; omega) | (simp only [List.length_append, List.length_cons, List.length_nil, List.length_take, List.length_drop] at *; omega) | (unfold I64; simp only [List.length_append, List.length_cons, List.length_nil, List.length_take, List.length_drop] at *; omega)), by rw [hcl]; (first | omega | (unfold I64; omega) | (simp only [List.length_append, List.length_cons, List.length_nil, List.length_take, List.length_drop] at *; omega) | (unfold I64; simp only [List.length_append, List.length_cons, List.length_nil, List.length_take, List.length_drop] at *; omega)), ?_⟩
        rw [cut_clr (by omega), ht]; exact h
theorem equal_Br {a b : List Br} {Q : Bool → Prop} (hl : a.length ≤ 1000000) (h : Q (decide (a = b))) : slices_Equal_s_api_Branch_api_Branch_W a b Q := by
  refine ⟨fun c => ?_, fun c => ?_⟩
  · have : a ≠ b := fun e => by subst e; exact c rfl
    rw [decide_eq_false this] at h; exact h
  · have c : a.length = b.length := by omega
    refine loop_up1 a.length (fun i => a.take i = b.take i) (by simp) fun K i hi hI hK => ?_
    show slices_Equal_s_api_Branch_api_Branch_l1 _ _ _ _ _
    unfold slices_Equal_s_api_Branch_api_Branch_l1
    refine ⟨fun d => ⟨by (first | omega | (unfold I64; omega) | (simp only [List.length_append, List.length_cons, List.length_nil, List.length_take, List.length_drop] at *; omega) | (unfold I64; simp only [List.length_append, List.length_cons, List.length_nil, List.length_take, List.length_drop] at *; omega)), by (first | omega | (unfold I64; omega) | (simp only [List.length_append, List.length_cons, List.length_nil, List.length_take, List.length_drop] at *; omega) | (unfold I64; simp only [List.length_append, List.length_cons, List.length_nil, List.length_take, List.length_drop] at *; omega)), ?_⟩, fun d => ?_⟩
    · have h1 : i < a.length := by omega
      have h2 : i < b.length := by omega
      rw [gi_nat h1, gi_nat h2]
      refine ⟨fun q => ?_, fun q => ⟨by (first | omega | (unfold I64; omega) | (simp only [List.length_append, List.length_cons, List.length_nil, List.length_take, List.length_drop] at *; omega) | (unfold I64; simp only [List.length_append, List.length_cons, List.length_nil, List.length_take, List.length_drop] at *; omega)), hK (i + 1) (by omega) (by omega) ?_⟩⟩
      · have : a ≠ b := fun e => by subst e; exact q rfl
        rw [decide_eq_false this] at h; exact h
      · rw [List.take_succ_eq_append_getElem h1, List.take_succ_eq_append_getElem h2, hI, q]
    · have hab : a = b := by
        have h3 : i = a.length := by omega
        subst h3
        rw [List.take_length, c, List.take_length] at hI; exact hI
      rw [decide_eq_true hab] at h; exact h
theorem less_ok {a b : Br} {Q : Bool → Prop} (h : Q (decide (blt a b))) : ref32_less_W a b Q := by
  have key : ∀ c : Bool, (c = true ↔ blt a b) → Q c := fun c hc => by
    have : c = decide (blt a b) := by rw [Bool.eq_iff_iff, hc, decide_eq_true_eq]
    rw [this]; exact h
  refine ⟨fun c => key true ⟨fun _ => .inl c, fun _ => rfl⟩, fun c => ⟨fun d => key _ ?_, fun d => key false ⟨(fun q => by cases q), fun q => ?_⟩⟩⟩
  · rw [decide_eq_true_eq]
    constructor
    · intro q; exact .inr ⟨d, q⟩
    · rintro (q | q)
      · omega
      · exact q.2
  · rcases q with q | q
    · exact absurd q c
    · exact absurd q.1 d
/-! ### Who is reached, in order -/
structure BI (L : List Br) (n : Int) (out : List Int) : Prop where
  ris : out.Pairwise (· < ·)
  me : n ∈ out
  rch : ∀ x ∈ out, Rch L n x
theorem BI.add {L : List Br} {n : Int} {out : List Int} {e : Br} (b : BI L n out) (he : e ∈ L) (hm : e.1 ∈ out) : BI L n (addI out e.2) :=
  ⟨rise_addI b.ris, mem_addI.2 (.inr b.me), fun x hx => by
    rcases mem_addI.1 hx with rfl | hx
    · exact (b.rch _ hm).step he
    · exact b.rch x hx⟩
theorem below_ok {r n : Int} {L : List Br} {Q : List Int → Prop} (hl : L.length ≤ 100000) (h : ∀ l, l.Pairwise (· < ·) → IsR L n l → Q l) : ref32_Below_W r L n Q := by
  refine loop_by (fun s => s.2) (L.length + 1) (fun k s => BI L n s.1 ∧ ((∀ e ∈ L, e.1 ∈ s.1 → e.2 ∈ s.1) ∨ k + 1 ≤ s.1.length)) rfl ⟨⟨by simp, by simp, fun x hx => by rw [List.mem_singleton] at hx; subst hx; exact .refl⟩, .inr (by simp)⟩ ?_
  rintro K k ⟨out, _⟩ rfl hk ⟨b, hc⟩ hK
  simp only at b hc
  have hlen := rch_len (rise_nodup b.ris) b.rch
  show ref32_Below_l1 _ _ _ out (k : Int)
  unfold ref32_Below_l1
  refine ⟨fun c => ?_, fun c => ?_⟩
  · refine loop_by (fun s => s.2) L.length (fun i s => BI L n s.1 ∧ (∀ x ∈ out, x ∈ s.1) ∧ ∀ e ∈ L.take i, e.1 ∈ out → e.2 ∈ s.1) rfl ⟨b, fun x hx => hx, by simp⟩ ?_
    rintro K2 i ⟨out2, _⟩ rfl hi ⟨b2, hs, hd⟩ hK2
    simp only at b2 hs hd
    have hlen2 := rch_len (rise_nodup b2.ris) b2.rch
    show ref32_Below_l2 _ _ _ _ out2 (i : Int)
    unfold ref32_Below_l2
    refine ⟨fun c2 => ?_, fun c2 => ?_⟩
    · have hlt : i < L.length := by omega
      rw [gi_nat hlt]
      refine ⟨by omega, has_ok (by omega) ⟨fun q => add_ok (by omega) ⟨by unfold I64; omega, hK2 (i + 1) _ rfl (by omega) hlt ⟨b2.add (List.getElem_mem hlt) (by simpa using q), fun x hx => mem_addI.2 (.inr (hs x hx)), fun e he hm => ?_⟩⟩, fun q => ⟨by unfold I64; omega, hK2 (i + 1) _ rfl (by omega) hlt ⟨b2, hs, fun e he hm => ?_⟩⟩⟩⟩
      · rw [List.take_succ_eq_append_getElem hlt] at he
        rcases List.mem_append.1 he with he | he
        · exact mem_addI.2 (.inr (hd e he hm))
        · rw [List.mem_singleton] at he; subst he; exact mem_addI.2 (.inl rfl)
      · rw [List.take_succ_eq_append_getElem hlt] at he
        rcases List.mem_append.1 he with he | he
        · exact hd e he hm
        · rw [List.mem_singleton] at he; subst he
          exact absurd (hs _ hm) (by simpa using q)
    · have hi2 : i = L.length := by omega
      subst hi2
      rw [List.take_length] at hd
      refine ⟨by unfold I64; omega, hK (k + 1) _ rfl (by omega) (by omega) ⟨b2, ?_⟩⟩
      have hle := nodup_le (rise_nodup b.ris) hs
      by_cases e : out2.length = out.length
      · have back : ∀ x ∈ out2, x ∈ out := fun x hx => nodup_full (rise_nodup b.ris) hs (by omega) hx
        exact .inl fun e he hm => hd e he (back _ hm)
      · rcases hc with hc | hc
        · have back : ∀ x ∈ out2, x ∈ out := fun x hx => rch_closed b.me hc (b2.rch x hx)
          exact .inl fun e he hm => hd e he (back _ hm)
        · exact .inr (by simp only; omega)
  · refine h out b.ris (IsR.of_closed (rise_nodup b.ris) b.me b.rch ?_)
    rcases hc with hc | hc
    · exact hc
    · omega
theorem nodes_ok {r : Int} {L : List Br} {Q : List Int → Prop} (hl : L.length ≤ 100000) (h : ∀ l, l.Pairwise (· < ·) → IsR L r l → Q l) : ref32_Nodes_W r L Q := below_ok hl h
theorem refGood_ok {r : Int} {L : List Br} {Q : Bool → Prop} (hl : L.length ≤ 100000) (h : ∀ b : Bool, (b = true ↔ Gd r L) → Q b) : ref32_Good_W r L Q := by
  have no : ¬ Gd r L → Q false := fun c => h false ⟨(fun q => by cases q), fun q => absurd q c⟩
  refine loop_up1 L.length (fun i => (∀ e ∈ L.take i, e.2 ≠ r) ∧ (L.take i).Pairwise blt ∧ ((L.take i).map (·.2)).Nodup) (by simp) fun K i hi ⟨g1, g2, g3⟩ hK => ?_
  unfold ref32_Good_l1
  have j1 : i < L.length → (gi L (i : Int)).2 ≠ r → (∀ y, (L.take i).getLast? = some y → blt y (gi L (i : Int))) → ref32_Good_j1 L Q (i : Int) K := by
    intro hlt h1 h2
    refine loop_up1 i (fun k => ∀ e ∈ L.take k, e.2 ≠ L[i].2) (by simp) fun K2 k hk hI2 hK2 => ?_
    unfold ref32_Good_l2
    refine ⟨fun c => ?_, fun c => ?_⟩
    · have hk' : k < L.length := by omega
      rw [gi_nat hk', gi_nat hlt]
      refine ⟨by omega, by omega, fun d => no fun gd => ?_, fun d => ⟨by unfold I64; omega, hK2 (k + 1) (by omega) (by omega) fun e he => ?_⟩⟩
      · have := List.pairwise_iff_getElem.1 gd.ends k i (by simpa using hk') (by simpa using hlt) (by omega)
        simp only [List.getElem_map] at this; exact this d
      · rw [List.take_succ_eq_append_getElem hk'] at he
        rcases List.mem_append.1 he with he | he
        · exact hI2 e he
        · rw [List.mem_singleton] at he; subst he; exact d
    · have : k = i := by omega
      subst this
      have ht : L.take (k + 1) = L.take k ++ [gi L (k : Int)] := by rw [List.take_succ_eq_append_getElem hlt, gi_nat hlt]
      refine ⟨by unfold I64; omega, hK (k + 1) (by omega) hlt ⟨fun e he => ?_, by rw [ht]; exact pw_snoc blt_tr g2 h2, ?_⟩⟩
      · rw [ht] at he
        rcases List.mem_append.1 he with he | he
        · exact g1 e he
        · rw [List.mem_singleton] at he; subst he; exact h1
      · rw [ht, List.map_append, List.nodup_append]
        refine ⟨g3, by simp, fun a ha b hb => ?_⟩
        simp only [List.map_cons, List.map_nil, List.mem_singleton] at hb
        obtain ⟨e, he, rfl⟩ := List.mem_map.1 ha
        rw [hb, gi_nat hlt]; exact hI2 e he
  refine ⟨fun c => ?_, fun c => ?_⟩
  · have hlt : i < L.length := by omega
    refine ⟨by omega, fun d => no fun q => q.root _ (by rw [gi_nat hlt]; exact List.getElem_mem hlt) d, fun d => ⟨fun e => ⟨by unfold I64; omega, by omega, ?_⟩, fun e => ?_⟩⟩
    · have hi1 : i - 1 < L.length := by omega
      have e1 : gi L ((i : Int) - 1) = L[i - 1] := by rw [show (i : Int) - 1 = ((i - 1 : Nat) : Int) by omega, gi_nat hi1]
      rw [e1]
      refine less_ok ⟨fun q => no fun gd => ?_, fun q => j1 hlt d fun y hy => ?_⟩
      · have h1 := List.pairwise_iff_getElem.1 gd.ris (i - 1) i hi1 hlt (by omega)
        rw [gi_nat hlt] at q; simp only [Bool.not_eq_true', decide_eq_false_iff_not] at q; exact q h1
      · rw [last_take (by omega) (by omega)] at hy; injection hy with hy; subst hy
        simpa using q
    · have : i = 0 := by omega
      subst this
      exact j1 hlt d fun y hy => by simp at hy
  · have hi2 : i = L.length := by omega
    subst hi2
    rw [List.take_length] at g1 g2 g3
    refine ⟨fun c2 => ⟨by unfold I64; omega, below_ok hl fun out hr w => h _ ?_⟩, fun c2 => no fun gd => c2 (by have := gd.few; omega)⟩
    rw [decide_eq_true_eq]
    constructor
    · intro e
      exact { toGd0 := Gd0.of_len g1 g3 w (by omega), ris := g2, few := by omega }
    · intro gd
      have := gd.toGd0.len w; omega
theorem refNext_ok {r n : Int} {L : List Br} {Q : List Int → Prop} (hl : L.length ≤ 100000) (h : Q (kids L n)) : ref32_Next_W r L n Q := by
  refine loop_up L.length (fun i s => s = kids (L.take i) n) (by simp [kids]) fun K i s hi hs hK => ?_
  have hk := kids_len (L.take i) n
  rw [List.length_take] at hk
  unfold ref32_Next_l1
  refine ⟨fun c => ?_, fun c => ?_⟩
  · have hlt : i < L.length := by omega
    have ht : L.take (i + 1) = L.take i ++ [L[i]] := List.take_succ_eq_append_getElem hlt
    have hkk := kids_snoc (L.take i) L[i] n
    rw [← ht] at hkk
    rw [gi_nat hlt]
    refine ⟨by omega, fun d => ⟨by rw [hs]; simp only [List.length_cons, List.length_nil]; omega, by unfold I64; omega, hK (i + 1) _ (by omega) hlt (by rw [hkk, if_pos d, hs])⟩, fun d => ⟨by unfold I64; omega, hK (i + 1) _ (by omega) hlt (by rw [hkk, if_neg d, hs])⟩⟩
  · have : i = L.length := by omega
    subst this; rw [List.take_length] at hs; rw [hs]; exact h
/-! ### Leaves -/
/-- All who are reached and send on to nobody, but the root. -/
structure LeafIs (L : List Br) (r : Int) (l : List Int) : Prop where
  ris : l.Pairwise (· < ·)
  mem : ∀ x, x ∈ l ↔ Rch L r x ∧ x ≠ r ∧ kids L x = []
theorem LeafIs.uniq {L : List Br} {r : Int} {l m : List Int} (h : LeafIs L r l) (k : LeafIs L r m) : l = m := rise_eq h.ris k.ris fun x => by rw [h.mem, k.mem]
theorem isort_perm (l : List Int) : (isort l).Perm l := List.mergeSort_perm _ _
theorem isort_sorted (l : List Int) : (isort l).Pairwise (· ≤ ·) := by
  refine (List.pairwise_mergeSort (le := fun x y : Int => decide (x ≤ y)) ?_ ?_ l).imp ?_
  · intro a b c h1 h2; simp only [decide_eq_true_eq] at *; omega
  · intro a b; simp only [Bool.or_eq_true, decide_eq_true_eq]; omega
  · intro a b h; simpa using h
theorem rising_ok {l : List Int} {Q : List Int → Prop} (hl : l.length ≤ 1000000) (hn : l.Nodup) (h : ∀ m : List Int, m.Pairwise (· < ·) → (∀ x, x ∈ m ↔ x ∈ l) → Q m) : tree_rising_W l Q := by
  refine ⟨by omega, h _ ?_ fun x => (isort_perm l).mem_iff⟩
  have h1 := isort_sorted l
  have h2 : (isort l).Nodup := (isort_perm l).nodup_iff.2 hn
  exact (h1.and h2).imp fun {a b} ⟨p, q⟩ => by omega
theorem leaves_ok {r : Int} {L : List Br} {Q : List Int → Prop} (hl : L.length ≤ 100000) (h : ∀ l, LeafIs L r l → Q l) : tree_Leaves_W r L Q := by
  refine nexts_ok hl fun nx hnx => walk_ok hl fun W hW => ⟨fun n => decide (n = r ∨ kids L n ≠ []), fun n => ?_, ?_⟩
  · unfold tree_Leaves_1_W
    rw [hnx.at_]
    refine ⟨fun c => by simp [c], fun c => ?_⟩
    cases hk : kids L n with
    | nil => simp [c, hk]
    | cons a l => simp [hk]
  · have hwl := hW.toIsR.len_le
    refine deleteFunc_I (by omega) (rising_ok ?_ (hW.nd.filter _) fun m hm hx => h m ⟨hm, fun x => ?_⟩)
    · exact Nat.le_trans (List.length_filter_le _ _) (by omega)
    · rw [hx, List.mem_filter, hW.mem x]
      simp only [Bool.not_eq_true', decide_eq_false_iff_not, not_or, ne_eq, Decidable.not_not]
/-! ### To how many at most -/
/-! ### The same -/
theorem eqI_ok {a b : List Int} {Q : Bool → Prop} (hl : a.length ≤ 1000000) (h : Q (decide (a = b))) : ref32_SameInts_W a b Q := by
  refine ⟨fun c => ?_, fun c => ?_⟩
  · have : a ≠ b := fun e => by subst e; exact c rfl
    rw [decide_eq_false this] at h; exact h
  · have c : a.length = b.length := by omega
    refine loop_up1 a.length (fun i => a.take i = b.take i) (by simp) fun K i hi hI hK => ?_
    unfold ref32_SameInts_l1
    refine ⟨fun d => ⟨by omega, by omega, ?_⟩, fun d => ?_⟩
    · have h1 : i < a.length := by omega
      have h2 : i < b.length := by omega
      rw [gi_nat h1, gi_nat h2]
      refine ⟨fun q => ?_, fun q => ⟨by unfold I64; omega, hK (i + 1) (by omega) (by omega) ?_⟩⟩
      · have : a ≠ b := fun e => by subst e; exact q rfl
        rw [decide_eq_false this] at h; exact h
      · rw [List.take_succ_eq_append_getElem h1, List.take_succ_eq_append_getElem h2, hI, q]
    · have hab : a = b := by
        have h3 : i = a.length := by omega
        subst h3
        rw [List.take_length, c, List.take_length] at hI; exact hI
      rw [decide_eq_true hab] at h; exact h
theorem sameT_ok {r s : Int} {a b : List Br} {Q : Bool → Prop} (hl : a.length ≤ 1000000) (h : Q (decide (r = s ∧ a = b))) : tree_Same_W r a s b Q := by
  refine ⟨fun c => equal_Br hl ?_, fun c => ?_⟩
  · have : decide (a = b) = decide (r = s ∧ a = b) := by simp [c]
    rw [this]; exact h
  · have : decide (r = s ∧ a = b) = false := by simp [c]
    rwa [this] at h
theorem refSame_ok {r s : Int} {a b : List Br} {Q : Bool → Prop} (hl : a.length ≤ 1000000) (h : Q (decide (r = s ∧ a = b))) : ref32_Same_W r a s b Q := by
  have no : ¬ (r = s ∧ a = b) → Q false := fun c => by rwa [decide_eq_false c] at h
  refine ⟨fun c => ⟨fun _ => no fun q => c q.1, fun q => by cases q⟩, fun c => ⟨fun d => no fun q => ?_, fun d => ?_⟩⟩
  · simp [q.2] at d
  · have c2 : a.length = b.length := by have := d; simp at this; omega
    refine loop_up1 a.length (fun i => a.take i = b.take i) (by simp) fun K i hi hI hK => ?_
    unfold ref32_Same_l1
    refine ⟨fun d => ⟨by omega, by omega, ?_⟩, fun d => ?_⟩
    · have h1 : i < a.length := by omega
      have h2 : i < b.length := by omega
      rw [gi_nat h1, gi_nat h2]
      refine ⟨fun q => no fun e => q ?_, fun q => ⟨by unfold I64; omega, hK (i + 1) (by omega) (by omega) ?_⟩⟩
      · have := e.2; subst this; rfl
      · rw [List.take_succ_eq_append_getElem h1, List.take_succ_eq_append_getElem h2, hI, q]
    · have hab : a = b := by
        have h3 : i = a.length := by omega
        subst h3
        rw [List.take_length, c2, List.take_length] at hI; exact hI
      rwa [decide_eq_true ⟨c, hab⟩] at h
end Go.Wk
