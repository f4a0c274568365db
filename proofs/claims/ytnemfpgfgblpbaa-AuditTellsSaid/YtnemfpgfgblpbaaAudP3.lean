/- Plain words: what the audit holds, and what the reference says. -/
import Derived.Test.YtnemfpgfgblpbaaAudP2
set_option linter.unusedSimpArgs false
set_option linter.unusedVariables false
set_option linter.unusedSectionVars false
namespace Go.Wk
open Go.HL
variable [DM]
/-- A sorted list, each once, of those of which p holds. -/
structure SetOf (r : List Spot) (p : Spot → Prop) : Prop where
  srt : r.Pairwise spotLt
  mem : ∀ x, x ∈ r ↔ p x
theorem SetOf.uniq {a b : List Spot} {p : Spot → Prop} (ha : SetOf a p) (hb : SetOf b p) : a = b := by
  have key : ∀ (a b : List Spot), a.Pairwise spotLt → b.Pairwise spotLt → (∀ x, x ∈ a ↔ x ∈ b) → a = b := by
    intro a
    induction a with
    | nil => intro b _ _ h; cases b with
      | nil => rfl
      | cons y b => exact absurd ((h y).2 (by simp)) (by simp)
    | cons x a ih =>
      intro b h1 h2 h
      cases b with
      | nil => exact absurd ((h x).1 (by simp)) (by simp)
      | cons y b =>
        rw [List.pairwise_cons] at h1 h2
        have hxy : x = y := by
          rcases List.mem_cons.1 ((h x).1 (by simp)) with e | e
          · exact e
          · rcases List.mem_cons.1 ((h y).2 (by simp)) with e' | e'
            · exact e'.symm
            · exact absurd (spotLt_trans (h1.1 y e') (h2.1 x e)) (spotLt_irrefl x)
        subst hxy
        congr 1
        refine ih b h1.2 h2.2 fun z => ?_
        constructor
        · intro hz
          rcases List.mem_cons.1 ((h z).1 (List.mem_cons_of_mem _ hz)) with rfl | e
          · exact absurd (h1.1 z hz) (spotLt_irrefl z)
          · exact e
        · intro hz
          rcases List.mem_cons.1 ((h z).2 (List.mem_cons_of_mem _ hz)) with rfl | e
          · exact absurd (h2.1 z hz) (spotLt_irrefl z)
          · exact e
  exact key a b ha.srt hb.srt fun x => (ha.mem x).trans (hb.mem x).symm
theorem set_ok {l : List Spot} {p : Spot → Prop} {Q : List Spot → Prop} (hl : l.length ≤ 100000) (hp : ∀ x, x ∈ l ↔ p x) (h : ∀ r, SetOf r p → r.length ≤ l.length → Q r) : audit_set_W l Q := by
  refine ⟨spotCmp, swo_spot, order_ok, by omega, fun l' q hs => compactS_ok (by rw [q.length_eq]; exact hl) (h _ ⟨?_, fun x => ?_⟩ ?_)⟩
  · exact (dd_sorted (lt := spotLt) (fun a b => spotLt_total) (fun a b c => spotLt_trans) l' (hs.imp fun hn k => hn ((spotCmp_lt _ _).2 k))).1
  · rw [dd_mem, q.mem_iff, hp]
  · exact Nat.le_trans (dd_len l') (Nat.le_of_eq q.length_eq)
theorem index_ok {l : List Spot} {v : Spot} {Q : Int → Prop} (hl : l.length ≤ 100000) (h1 : v ∈ l → ∀ n : Nat, Q n) (h2 : v ∉ l → Q (-1)) : slices_Index_s_api_Spot_api_Spot_W l v Q := by
  refine loop_up1 l.length (fun i => v ∉ l.take i) (by simp) fun K i hi hn hK => ?_
  show slices_Index_s_api_Spot_api_Spot_l1 _ _ _ _ _
  unfold slices_Index_s_api_Spot_api_Spot_l1
  refine ⟨fun c => ?_, fun c => ?_⟩
  · rw [gi_nat (by omega)]
    refine ⟨by (first | omega | (unfold I64; omega) | (simp only [List.length_append, List.length_cons, List.length_nil, List.length_take, List.length_drop] at *; omega) | (unfold I64; simp only [List.length_append, List.length_cons, List.length_nil, List.length_take, List.length_drop] at *; omega)), fun e => h1 (e ▸ List.getElem_mem _) i, fun e => ⟨by (first | omega | (unfold I64; omega) | (simp only [List.length_append, List.length_cons, List.length_nil, List.length_take, List.length_drop] at *; omega) | (unfold I64; simp only [List.length_append, List.length_cons, List.length_nil, List.length_take, List.length_drop] at *; omega)), hK (i + 1) (by omega) (by omega) ?_⟩⟩
    rw [List.take_succ_eq_append_getElem (by omega), List.mem_append, List.mem_singleton]
    rintro (q | q)
    · exact hn q
    · exact e q
  · rw [List.take_of_length_le (by omega)] at hn
    exact h2 hn
theorem contains_ok {l : List Spot} {v : Spot} {Q : Bool → Prop} (hl : l.length ≤ 100000) (h : Q (decide (v ∈ l))) : slices_Contains_s_api_Spot_api_Spot_W l v Q := by
  refine index_ok hl (fun e n => ?_) fun e => ?_
  · rw [decide_eq_true e] at h; rw [decide_eq_true (by omega)]; exact h
  · rw [decide_eq_false e] at h; rw [decide_eq_false (by omega)]; exact h
theorem cnt_pos {g : List Given} {k : Int × Int × Int × Int} : 0 < cnt g k ↔ k ∈ g.map key := by
  unfold cnt
  rw [show (0 : Int) < ((g.countP fun x => decide (key x = k) : Nat) : Int) ↔ 0 < g.countP fun x => decide (key x = k) by omega, List.countP_pos_iff, List.mem_map]
  simp
theorem cnt_zero {g : List Given} {k : Int × Int × Int × Int} : cnt g k = 0 ↔ k ∉ g.map key := by
  rw [← cnt_pos]; have := (cnt_bd g k).1; omega
/-- What 'Held' says. -/
def lackP (g : List Given) (id vlan : Int) (want : List Spot) (but : Spot) (x : Spot) : Prop := x ∈ want ∧ x ≠ but ∧ cnt g (id, vlan, x) = 0
def moreP (g : List Given) (id vlan : Int) (want : List Spot) (but : Spot) (x : Spot) : Prop := (id, vlan, x) ∈ g.map key ∧ (x = but ∨ x ∉ want)
theorem held_ok {m : List ((Int × Int × Int × Int) × Int)} {tw g : List Given} {all id vlan : Int} {want : List Spot} {but : Spot} {Q : List Spot → List Spot → List ((Int × Int × Int × Int) × Int) → List Given → Int → Prop} (hm : Seen m g) (hg : g.length ≤ 500) (hw : want.length ≤ 500)
    (h : ∀ a b, SetOf a (lackP g id vlan want but) → SetOf b (moreP g id vlan want but) → a.length ≤ 1000 → b.length ≤ 1000 → Q a b m tw all) : audit_Audit_Held_W m tw all id vlan want but Q := by
  refine loop_fold want (fun s w => if (decide (w ≠ but ∧ cnt g (id, vlan, w) = 0) : Bool) = true then s ++ [w] else s) fun K i s hi hs hK => ?_
  have e : s.length ≤ i := foldl_len (fun w => decide (w ≠ but ∧ cnt g (id, vlan, w) = 0)) (fun x => x) want i s hs
  show audit_Audit_Held_l1 _ _ _ _ _ _ _ _ _ _ _
  unfold audit_Audit_Held_l1 audit_Audit_Held_j1
  refine ⟨fun c => ?_, fun c => ?_⟩
  · have hk := hK (by omega)
    simp only [decide_eq_true_eq] at hk
    rw [gi_nat (by omega), hm.get]
    refine ⟨by (first | omega | (unfold I64; omega) | (simp only [List.length_append, List.length_cons, List.length_nil, List.length_take, List.length_drop] at *; omega) | (unfold I64; simp only [List.length_append, List.length_cons, List.length_nil, List.length_take, List.length_drop] at *; omega)), fun q => ⟨fun z => ⟨by (first | omega | (unfold I64; omega) | (simp only [List.length_append, List.length_cons, List.length_nil, List.length_take, List.length_drop] at *; omega) | (unfold I64; simp only [List.length_append, List.length_cons, List.length_nil, List.length_take, List.length_drop] at *; omega)), by (first | omega | (unfold I64; omega) | (simp only [List.length_append, List.length_cons, List.length_nil, List.length_take, List.length_drop] at *; omega) | (unfold I64; simp only [List.length_append, List.length_cons, List.length_nil, List.length_take, List.length_drop] at *; omega)), ?_⟩, fun z => ⟨by (first | omega | (unfold I64; omega) | (simp only [List.length_append, List.length_cons, List.length_nil, List.length_take, List.length_drop] at *; omega) | (unfold I64; simp only [List.length_append, List.length_cons, List.length_nil, List.length_take, List.length_drop] at *; omega)), ?_⟩⟩, fun q => ⟨fun z => (by cases z), fun _ => ⟨by (first | omega | (unfold I64; omega) | (simp only [List.length_append, List.length_cons, List.length_nil, List.length_take, List.length_drop] at *; omega) | (unfold I64; simp only [List.length_append, List.length_cons, List.length_nil, List.length_take, List.length_drop] at *; omega)), ?_⟩⟩⟩
    · rwa [if_pos ⟨q, of_decide_eq_true z⟩] at hk
    · rwa [if_neg (fun y => of_decide_eq_false z y.2)] at hk
    · rwa [if_neg (fun y => y.1 q)] at hk
  · rw [List.take_of_length_le (by omega)] at hs
    have hlm : ∀ x, x ∈ s ↔ lackP g id vlan want but x := by
      intro x
      have := foldl_filter_map (fun w : Spot => decide (w ≠ but ∧ cnt g (id, vlan, w) = 0)) (fun x => x) want []
      simp only [List.nil_append, List.map_id_fun'] at this
      rw [hs, this, id_eq, List.mem_filter, decide_eq_true_eq]; rfl
    clear hK hs
    have hmg := hm.len
    refine loop_bagfold m (fun s p => if (decide (p.1.1 = id ∧ p.1.2.1 = vlan ∧ (p.1.2.2 = but ∨ p.1.2.2 ∉ want)) : Bool) = true then s ++ [p.1.2.2] else s) fun K done rem t hp ht hK => ?_
    have e2 := foldl_filter_map (fun p : (Int × Int × Int × Int) × Int => decide (p.1.1 = id ∧ p.1.2.1 = vlan ∧ (p.1.2.2 = but ∨ p.1.2.2 ∉ want))) (fun p => p.1.2.2) done []
    rw [← ht, List.nil_append] at e2
    have el : t.length ≤ m.length := by
      rw [e2, List.length_map, hp.length_eq, List.length_append]
      exact Nat.le_trans (List.length_filter_le _ _) (Nat.le_add_right _ _)
    show audit_Audit_Held_l2 _ _ _ _ _ _ _ _ _ _ _ _
    unfold audit_Audit_Held_l2 audit_Audit_Held_j2
    refine ⟨fun c => ?_, fun p rem' hq => ?_⟩
    · simp only at c; subst c
      rw [List.append_nil] at hp
      refine set_ok (by (first | omega | (unfold I64; omega) | (simp only [List.length_append, List.length_cons, List.length_nil, List.length_take, List.length_drop] at *; omega) | (unfold I64; simp only [List.length_append, List.length_cons, List.length_nil, List.length_take, List.length_drop] at *; omega))) hlm fun a ha la => set_ok (by (first | omega | (unfold I64; omega) | (simp only [List.length_append, List.length_cons, List.length_nil, List.length_take, List.length_drop] at *; omega) | (unfold I64; simp only [List.length_append, List.length_cons, List.length_nil, List.length_take, List.length_drop] at *; omega))) (p := moreP g id vlan want but) ?_ fun b hb lb => h a b ha hb (by simp only at la; omega) (by simp only at lb; omega)
      intro x
      simp only
      rw [e2, List.mem_map]
      constructor
      · rintro ⟨p, hp1, rfl⟩
        rw [List.mem_filter, decide_eq_true_eq] at hp1
        obtain ⟨h1, rfl, rfl, h4⟩ := hp1
        exact ⟨(hm.keys _).1 (List.mem_map_of_mem (hp.mem_iff.2 h1)), h4⟩
      · rintro ⟨h1, h2⟩
        obtain ⟨p, hp1, hp2⟩ := List.mem_map.1 ((hm.keys _).2 h1)
        refine ⟨p, ?_, by rw [hp2]⟩
        rw [List.mem_filter, decide_eq_true_eq, hp2]
        exact ⟨hp.mem_iff.1 hp1, rfl, rfl, h2⟩
    · have hk := hK p rem' hq
      simp only [decide_eq_true_eq] at hk
      refine ⟨fun a => ⟨fun b => ⟨fun d => ⟨fun _ => ⟨by (first | omega | (unfold I64; omega) | (simp only [List.length_append, List.length_cons, List.length_nil, List.length_take, List.length_drop] at *; omega) | (unfold I64; simp only [List.length_append, List.length_cons, List.length_nil, List.length_take, List.length_drop] at *; omega)), ?_⟩, fun z => (by cases z)⟩, fun d => contains_ok (by omega) ⟨fun z => ⟨by (first | omega | (unfold I64; omega) | (simp only [List.length_append, List.length_cons, List.length_nil, List.length_take, List.length_drop] at *; omega) | (unfold I64; simp only [List.length_append, List.length_cons, List.length_nil, List.length_take, List.length_drop] at *; omega)), ?_⟩, fun z => ?_⟩⟩, fun b => ⟨fun z => (by cases z), fun _ => ?_⟩⟩, fun a => ⟨fun z => (by cases z), fun _ => ?_⟩⟩
      · rwa [if_pos ⟨a, b, .inl d⟩] at hk
      · rwa [if_pos ⟨a, b, .inr (by simpa using z)⟩] at hk
      · rwa [if_neg (by rintro ⟨_, _, q | q⟩; exact d q; simp at z; exact q z)] at hk
      · rwa [if_neg (fun q => b q.2.1)] at hk
      · rwa [if_neg (fun q => a q.1)] at hk
/-! The reference's. -/
theorem radd_ok {l : List Spot} {s1 : Spot} {Q : List Spot → Prop} (hl : l.length ≤ 100000) (hs : l.Pairwise spotLt) (h : ∀ r, r.Pairwise spotLt → (∀ x, x ∈ r ↔ x = s1 ∨ x ∈ l) → r.length ≤ l.length + 1 → Q r) : ref44_Add_W l s1 Q := by
  refine loop_up1 l.length (fun i => ∀ x ∈ l.take i, spotLt x s1) (by simp) fun K i hi hI hK => ?_
  have hj2 : (∀ h : i < l.length, spotLt s1 l[i]) → ref44_Add_j2 l s1 Q i := by
    intro hlt
    unfold ref44_Add_j2
    rw [cut0n, cutn]
    refine ⟨by (first | omega | (unfold I64; omega) | (simp only [List.length_append, List.length_cons, List.length_nil, List.length_take, List.length_drop] at *; omega) | (unfold I64; simp only [List.length_append, List.length_cons, List.length_nil, List.length_take, List.length_drop] at *; omega)), by (first | omega | (unfold I64; omega) | (simp only [List.length_append, List.length_cons, List.length_nil, List.length_take, List.length_drop] at *; omega) | (unfold I64; simp only [List.length_append, List.length_cons, List.length_nil, List.length_take, List.length_drop] at *; omega)), by (first | omega | (unfold I64; omega) | (simp only [List.length_append, List.length_cons, List.length_nil, List.length_take, List.length_drop] at *; omega) | (unfold I64; simp only [List.length_append, List.length_cons, List.length_nil, List.length_take, List.length_drop] at *; omega)), by (first | omega | (unfold I64; omega) | (simp only [List.length_append, List.length_cons, List.length_nil, List.length_take, List.length_drop] at *; omega) | (unfold I64; simp only [List.length_append, List.length_cons, List.length_nil, List.length_take, List.length_drop] at *; omega)), ?_⟩
    have e : ((([] : List Spot) ++ l.take i) ++ [s1]) ++ l.drop i = l.take i ++ s1 :: l.drop i := by simp
    have hd : ∀ y ∈ l.drop i, spotLt s1 y := by
      intro y hy
      obtain ⟨n, hn, rfl⟩ := List.mem_iff_getElem.1 hy
      rw [List.length_drop] at hn
      rw [List.getElem_drop]
      rcases Nat.eq_zero_or_pos n with rfl | hp
      · exact hlt (by omega)
      · exact spotLt_trans (hlt (by omega)) (List.pairwise_iff_getElem.1 hs i (i + n) (by omega) (by omega) (by omega))
    have hsplit : l = l.take i ++ l.drop i := (List.take_append_drop i l).symm
    have hs' := hs
    rw [hsplit, List.pairwise_append] at hs'
    show Q (((([] : List Spot) ++ l.take i) ++ [s1]) ++ l.drop i)
    rw [e]
    refine h _ ?_ (fun x => ?_) ?_
    · rw [List.pairwise_append, List.pairwise_cons]
      refine ⟨hs'.1, ⟨hd, hs'.2.1⟩, fun a ha b hb => ?_⟩
      rcases List.mem_cons.1 hb with rfl | hb
      · exact hI a ha
      · exact hs'.2.2 a ha b hb
    · conv => rhs; rw [hsplit]
      rw [List.mem_append, List.mem_cons, List.mem_append]
      constructor
      · rintro (q | q | q)
        · exact .inr (.inl q)
        · exact .inl q
        · exact .inr (.inr q)
      · rintro (q | q | q)
        · exact .inr (.inl q)
        · exact .inl q
        · exact .inr (.inr q)
    · simp; omega
  have hj1 : (∀ h : i < l.length, ¬ spotLt l[i] s1) → ref44_Add_j1 l s1 Q i := by
    intro hn
    unfold ref44_Add_j1
    refine ⟨fun c => ?_, fun c => hj2 fun q => by omega⟩
    have hi' : i < l.length := by omega
    rw [gi_nat hi']
    refine ⟨by (first | omega | (unfold I64; omega) | (simp only [List.length_append, List.length_cons, List.length_nil, List.length_take, List.length_drop] at *; omega) | (unfold I64; simp only [List.length_append, List.length_cons, List.length_nil, List.length_take, List.length_drop] at *; omega)), fun q => h l hs (fun x => ⟨.inr, ?_⟩) (Nat.le_succ _), fun q => hj2 fun _ => ?_⟩
    · rintro (rfl | e)
      · exact q ▸ List.getElem_mem _
      · exact e
    · by_cases e : spotLt s1 l[i]
      · exact e
      · exact absurd (spotLt_total (hn hi') e) q
  show ref44_Add_l1 _ _ _ _ _
  unfold ref44_Add_l1
  refine ⟨fun c => ?_, fun c => hj1 fun q => by omega⟩
  have hi' : i < l.length := by omega
  have hnext : spotLt l[i] s1 → K ((i : Int) + 1) := fun q => hK (i + 1) (by omega) (by omega) (by
    intro x hx
    rw [List.take_succ_eq_append_getElem hi', List.mem_append, List.mem_singleton] at hx
    rcases hx with hx | rfl
    · exact hI x hx
    · exact q)
  rw [gi_nat hi']
  refine ⟨by (first | omega | (unfold I64; omega) | (simp only [List.length_append, List.length_cons, List.length_nil, List.length_take, List.length_drop] at *; omega) | (unfold I64; simp only [List.length_append, List.length_cons, List.length_nil, List.length_take, List.length_drop] at *; omega)), fun a => ⟨by (first | omega | (unfold I64; omega) | (simp only [List.length_append, List.length_cons, List.length_nil, List.length_take, List.length_drop] at *; omega) | (unfold I64; simp only [List.length_append, List.length_cons, List.length_nil, List.length_take, List.length_drop] at *; omega)), hnext (.inl a)⟩, fun a => ⟨fun b => ⟨fun d => ⟨by (first | omega | (unfold I64; omega) | (simp only [List.length_append, List.length_cons, List.length_nil, List.length_take, List.length_drop] at *; omega) | (unfold I64; simp only [List.length_append, List.length_cons, List.length_nil, List.length_take, List.length_drop] at *; omega)), hnext (.inr ⟨b, d⟩)⟩, fun d => hj1 fun _ => ?_⟩, fun b => hj1 fun _ => ?_⟩⟩
  · unfold spotLt; omega
  · unfold spotLt; omega
theorem rheld_ok {g : List Given} {id vlan : Int} {want : List Spot} {but : Spot} {Q : List Spot → List Spot → Prop} (hg : g.length ≤ 500) (hw : want.length ≤ 500)
    (h : ∀ a b, SetOf a (lackP g id vlan want but) → SetOf b (moreP g id vlan want but) → a.length ≤ 1000 → b.length ≤ 1000 → Q a b) : ref44_Held_W g id vlan want but Q := by
  refine loop_up want.length (fun i a => SetOf a (fun x => x ∈ want.take i ∧ x ≠ but ∧ cnt g (id, vlan, x) = 0) ∧ a.length ≤ i) ⟨⟨by simp, by simp⟩, by simp⟩ fun K i a hi ⟨ha, la⟩ hK => ?_
  show ref44_Held_l1 _ _ _ _ _ _ _ _ _
  unfold ref44_Held_l1 ref44_Held_j1
  refine ⟨fun c => ?_, fun c => ?_⟩
  · have hi' : i < want.length := by omega
    rw [gi_nat hi']
    have skip : ¬ (want[i] ≠ but ∧ cnt g (id, vlan, want[i]) = 0) → K (a, (i : Int) + 1) := fun hn => hK (i + 1) a (by omega) (by omega) ⟨⟨ha.srt, fun x => by
      rw [ha.mem, List.take_succ_eq_append_getElem hi', List.mem_append, List.mem_singleton]
      constructor
      · rintro ⟨q, r⟩; exact ⟨.inl q, r⟩
      · rintro ⟨q | rfl, r⟩
        · exact ⟨q, r⟩
        · exact absurd r hn⟩, by omega⟩
    refine ⟨by (first | omega | (unfold I64; omega) | (simp only [List.length_append, List.length_cons, List.length_nil, List.length_take, List.length_drop] at *; omega) | (unfold I64; simp only [List.length_append, List.length_cons, List.length_nil, List.length_take, List.length_drop] at *; omega)), fun q => rcount_ok (by omega) ⟨fun z => ⟨by (first | omega | (unfold I64; omega) | (simp only [List.length_append, List.length_cons, List.length_nil, List.length_take, List.length_drop] at *; omega) | (unfold I64; simp only [List.length_append, List.length_cons, List.length_nil, List.length_take, List.length_drop] at *; omega)), radd_ok (by simp only; omega) ha.srt fun r h1 h2 h3 => ⟨by (first | omega | (unfold I64; omega) | (simp only [List.length_append, List.length_cons, List.length_nil, List.length_take, List.length_drop] at *; omega) | (unfold I64; simp only [List.length_append, List.length_cons, List.length_nil, List.length_take, List.length_drop] at *; omega)), hK (i + 1) r (by omega) (by omega) ⟨⟨h1, fun x => ?_⟩, by simp only at h3; omega⟩⟩⟩, fun z => ⟨by (first | omega | (unfold I64; omega) | (simp only [List.length_append, List.length_cons, List.length_nil, List.length_take, List.length_drop] at *; omega) | (unfold I64; simp only [List.length_append, List.length_cons, List.length_nil, List.length_take, List.length_drop] at *; omega)), skip fun y => of_decide_eq_false z y.2⟩⟩, fun q => ⟨fun z => (by cases z), fun _ => ⟨by (first | omega | (unfold I64; omega) | (simp only [List.length_append, List.length_cons, List.length_nil, List.length_take, List.length_drop] at *; omega) | (unfold I64; simp only [List.length_append, List.length_cons, List.length_nil, List.length_take, List.length_drop] at *; omega)), skip fun y => y.1 q⟩⟩⟩
    rw [h2, List.take_succ_eq_append_getElem hi', List.mem_append, List.mem_singleton]
    simp only
    rw [ha.mem]
    constructor
    · rintro (rfl | ⟨p, r⟩)
      · exact ⟨.inr rfl, q, of_decide_eq_true z⟩
      · exact ⟨.inl p, r⟩
    · rintro ⟨p | rfl, r⟩
      · exact .inr ⟨p, r⟩
      · exact .inl rfl
  · rw [List.take_of_length_le (by omega)] at ha
    clear hK
    refine loop_up g.length (fun j b => SetOf b (moreP (g.take j) id vlan want but) ∧ b.length ≤ j) ⟨⟨by simp, fun x => by simp [moreP]⟩, by simp⟩ fun K j b hj ⟨hb, lb⟩ hK => ?_
    show ref44_Held_l2 _ _ _ _ _ _ _ _ _ _
    unfold ref44_Held_l2 ref44_Held_j2
    refine ⟨fun c => ?_, fun c => ?_⟩
    · have hj' : j < g.length := by omega
      rw [gi_nat hj']
      have hmem : ∀ x, moreP (g.take (j + 1)) id vlan want but x ↔ moreP (g.take j) id vlan want but x ∨ (key g[j] = (id, vlan, x) ∧ (x = but ∨ x ∉ want)) := by
        intro x
        unfold moreP
        rw [List.take_succ_eq_append_getElem hj', List.map_append, List.mem_append, List.map_singleton, List.mem_singleton]
        constructor
        · rintro ⟨q | q, r⟩
          · exact .inl ⟨q, r⟩
          · exact .inr ⟨q.symm, r⟩
        · rintro (⟨q, r⟩ | ⟨q, r⟩)
          · exact ⟨.inl q, r⟩
          · exact ⟨.inr q.symm, r⟩
      have skip : (∀ x, ¬ (key g[j] = (id, vlan, x) ∧ (x = but ∨ x ∉ want))) → K (b, (j : Int) + 1) := fun hn => hK (j + 1) b (by omega) (by omega) ⟨⟨hb.srt, fun x => by rw [hb.mem, hmem]; exact ⟨.inl, fun q => q.elim (fun y => y) fun y => absurd y (hn x)⟩⟩, by omega⟩
      have take : ∀ (a1 : g[j].1 = id) (a2 : g[j].2.2.1 = vlan), ((g[j].2.1, g[j].2.2.2.1) = but ∨ (g[j].2.1, g[j].2.2.2.1) ∉ want) → ref44_Add_W b (g[j].2.1, g[j].2.2.2.1) (fun r => I64 ((j : Int) + 1) ∧ K (r, (j : Int) + 1)) := fun a1 a2 hh => radd_ok (by omega) hb.srt fun r h1 h2 h3 => ⟨by (first | omega | (unfold I64; omega) | (simp only [List.length_append, List.length_cons, List.length_nil, List.length_take, List.length_drop] at *; omega) | (unfold I64; simp only [List.length_append, List.length_cons, List.length_nil, List.length_take, List.length_drop] at *; omega)), hK (j + 1) r (by omega) (by omega) ⟨⟨h1, fun x => by
        rw [h2, hmem, hb.mem]
        constructor
        · rintro (rfl | q)
          · exact .inr ⟨by unfold key; rw [a1, a2], hh⟩
          · exact .inl q
        · rintro (q | ⟨q, _⟩)
          · exact .inr q
          · unfold key at q; exact .inl (by have := congrArg (fun t => t.2.2) q; exact this.symm)⟩, by omega⟩⟩
      refine ⟨by (first | omega | (unfold I64; omega) | (simp only [List.length_append, List.length_cons, List.length_nil, List.length_take, List.length_drop] at *; omega) | (unfold I64; simp only [List.length_append, List.length_cons, List.length_nil, List.length_take, List.length_drop] at *; omega)), fun a1 => ⟨fun a2 => ⟨fun d => ⟨fun _ => take a1 a2 (.inl d), fun z => (by cases z)⟩, fun d => rhas_ok (by omega) ⟨fun z => take a1 a2 (.inr (by simpa using z)), fun z => ⟨by (first | omega | (unfold I64; omega) | (simp only [List.length_append, List.length_cons, List.length_nil, List.length_take, List.length_drop] at *; omega) | (unfold I64; simp only [List.length_append, List.length_cons, List.length_nil, List.length_take, List.length_drop] at *; omega)), skip fun x ⟨y1, y2⟩ => ?_⟩⟩⟩, fun a2 => ⟨fun z => (by cases z), fun _ => ⟨by (first | omega | (unfold I64; omega) | (simp only [List.length_append, List.length_cons, List.length_nil, List.length_take, List.length_drop] at *; omega) | (unfold I64; simp only [List.length_append, List.length_cons, List.length_nil, List.length_take, List.length_drop] at *; omega)), skip fun x ⟨y1, _⟩ => a2 (by unfold key at y1; exact congrArg (fun t => t.2.1) y1)⟩⟩⟩, fun a1 => ⟨fun z => (by cases z), fun _ => ⟨by (first | omega | (unfold I64; omega) | (simp only [List.length_append, List.length_cons, List.length_nil, List.length_take, List.length_drop] at *; omega) | (unfold I64; simp only [List.length_append, List.length_cons, List.length_nil, List.length_take, List.length_drop] at *; omega)), skip fun x ⟨y1, _⟩ => a1 (by unfold key at y1; exact congrArg (fun t => t.1) y1)⟩⟩⟩
      have e : (g[j].2.1, g[j].2.2.2.1) = x := by unfold key at y1; exact congrArg (fun t => t.2.2) y1
      simp at z
      rcases y2 with rfl | y2
      · exact d e
      · exact y2 (e ▸ z)
    · rw [List.take_of_length_le (by omega)] at hb
      exact h a b ha hb (by omega) (by omega)
end Go.Wk
