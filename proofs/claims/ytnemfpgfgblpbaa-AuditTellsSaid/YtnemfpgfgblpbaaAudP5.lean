/- Plain words: AuditTells. -/
import Derived.Test.YtnemfpgfgblpbaaAudP4
set_option linter.unusedSimpArgs false
set_option linter.unusedVariables false
set_option linter.unusedSectionVars false
namespace Go.Wk
open Go.HL
variable [DM]
theorem srt_uniq {α : Type} {lt : α → α → Prop} (irr : ∀ a, ¬ lt a a) (tr : ∀ a b c, lt a b → lt b c → lt a c) : ∀ (a b : List α), a.Pairwise lt → b.Pairwise lt → (∀ x, x ∈ a ↔ x ∈ b) → a = b := by
  intro a
  induction a with
  | nil => intro b _ _ h; cases b with
    | nil => rfl
    | cons y b => exact absurd ((h y).2 (by simp)) (by simp)
  | cons x a ih =>
    intro b h1 h2 h
    cases b with
    | nil => exact absurd ((h x).1 (by simp)) (by simp)
    | cons y b =>
      rw [List.pairwise_cons] at h1 h2
      have hxy : x = y := by
        rcases List.mem_cons.1 ((h x).1 (by simp)) with e | e
        · exact e
        · rcases List.mem_cons.1 ((h y).2 (by simp)) with e' | e'
          · exact e'.symm
          · exact absurd (tr _ _ _ (h1.1 y e') (h2.1 x e)) (irr x)
      subst hxy
      congr 1
      refine ih b h1.2 h2.2 fun z => ?_
      constructor
      · intro hz
        rcases List.mem_cons.1 ((h z).1 (List.mem_cons_of_mem _ hz)) with rfl | e
        · exact absurd (h1.1 z hz) (irr z)
        · exact e
      · intro hz
        rcases List.mem_cons.1 ((h z).2 (List.mem_cons_of_mem _ hz)) with rfl | e
        · exact absurd (h2.1 z hz) (irr z)
        · exact e
theorem isort_perm (l : List Int) : (isort l).Perm l := List.mergeSort_perm l _
theorem isort_srt (l : List Int) : (isort l).Pairwise fun x y => ¬ y < x := by
  have := List.pairwise_mergeSort (le := fun x y : Int => decide (x ≤ y)) (by intro a b c; simp; omega) (by intro a b; simp; omega) l
  exact this.imp fun h => by simp at h; omega
/-- Sorted ints, each once. -/
structure IntsOf (r : List Int) (p : Int → Prop) : Prop where
  srt : r.Pairwise (· < ·)
  mem : ∀ x, x ∈ r ↔ p x
theorem IntsOf.uniq {a b : List Int} {p : Int → Prop} (ha : IntsOf a p) (hb : IntsOf b p) : a = b :=
  srt_uniq (lt := (· < ·)) (fun a => Int.lt_irrefl a) (fun a b c => Int.lt_trans) a b ha.srt hb.srt fun x => (ha.mem x).trans (hb.mem x).symm
theorem twice_append (a pre b : List Given) : twice pre (a ++ b) = twice pre a ++ twice (pre ++ a) b := by
  induction a generalizing pre with
  | nil => simp [twice]
  | cons x a ih => rw [List.cons_append, twice, ih, twice, List.append_assoc, List.append_assoc]; rfl
theorem ids_ok {m : List ((Int × Int × Int × Int) × Int)} {tw g : List Given} {all : Int} {Q : List Int → List ((Int × Int × Int × Int) × Int) → List Given → Int → Prop} (hm : Seen m g) (hg : g.length ≤ 500)
    (h : ∀ r, IntsOf r (fun x => ∃ y ∈ g, y.1 = x) → r.length ≤ 1000 → Q r m tw all) : audit_Audit_Ids_W m tw all Q := by
  have hmg := hm.len
  refine loop_bagfold m (fun s p => if (decide True : Bool) = true then s ++ [p.1.1] else s) fun K done rem t hp ht hK => ?_
  have e2 := foldl_filter_map (fun p : (Int × Int × Int × Int) × Int => decide True) (fun p => p.1.1) done []
  rw [← ht, List.nil_append] at e2
  have el : t.length ≤ m.length := by
    rw [e2, List.length_map, hp.length_eq, List.length_append]
    exact Nat.le_trans (List.length_filter_le _ _) (Nat.le_add_right _ _)
  show audit_Audit_Ids_l1 _ _ _ _ _ _ _
  unfold audit_Audit_Ids_l1
  refine ⟨fun c => ⟨by (first | omega | (unfold I64; omega) | (simp only [List.length_append, List.length_cons, List.length_nil, List.length_take, List.length_drop] at *; omega) | (unfold I64; simp only [List.length_append, List.length_cons, List.length_nil, List.length_take, List.length_drop] at *; omega)), compactI_ok (by rw [(isort_perm _).length_eq]; simp only; omega) (h _ ⟨?_, fun x => ?_⟩ ?_)⟩, fun p rem' hq => ⟨by (first | omega | (unfold I64; omega) | (simp only [List.length_append, List.length_cons, List.length_nil, List.length_take, List.length_drop] at *; omega) | (unfold I64; simp only [List.length_append, List.length_cons, List.length_nil, List.length_take, List.length_drop] at *; omega)), ?_⟩⟩
  · exact (dd_sorted (lt := fun a b : Int => a < b) (fun a b h1 h2 => by omega) (fun a b c h1 h2 => by omega) _ (isort_srt _)).1
  · simp only at c; subst c
    rw [List.append_nil] at hp
    rw [dd_mem, (isort_perm _).mem_iff]
    simp only
    rw [e2, List.mem_map]
    constructor
    · rintro ⟨p, hp1, rfl⟩
      rw [List.mem_filter] at hp1
      obtain ⟨y, hy, hk⟩ := List.mem_map.1 ((hm.keys _).1 (List.mem_map_of_mem (hp.mem_iff.2 hp1.1)))
      exact ⟨y, hy, by rw [← hk]; rfl⟩
    · rintro ⟨y, hy, rfl⟩
      obtain ⟨p, hp1, hp2⟩ := List.mem_map.1 ((hm.keys _).2 (List.mem_map_of_mem hy))
      exact ⟨p, List.mem_filter.2 ⟨hp.mem_iff.1 hp1, by simp⟩, by rw [hp2]; rfl⟩
  · have := dd_len (isort t); rw [(isort_perm t).length_eq] at this; simp only; omega
  · have hk := hK p rem' hq
    simpa using hk
def ofP (g : List Given) (id : Int) (x : Spot) : Prop := ∃ y ∈ g, y.1 = id ∧ (y.2.1, y.2.2.2.1) = x
theorem of_ok {m : List ((Int × Int × Int × Int) × Int)} {tw g : List Given} {all id : Int} {Q : List Spot → List ((Int × Int × Int × Int) × Int) → List Given → Int → Prop} (hm : Seen m g) (hg : g.length ≤ 500)
    (h : ∀ r, SetOf r (ofP g id) → r.length ≤ 1000 → Q r m tw all) : audit_Audit_Of_W m tw all id Q := by
  have hmg := hm.len
  refine loop_bagfold m (fun s p => if (decide (p.1.1 = id) : Bool) = true then s ++ [p.1.2.2] else s) fun K done rem t hp ht hK => ?_
  have e2 := foldl_filter_map (fun p : (Int × Int × Int × Int) × Int => decide (p.1.1 = id)) (fun p => p.1.2.2) done []
  rw [← ht, List.nil_append] at e2
  have el : t.length ≤ m.length := by
    rw [e2, List.length_map, hp.length_eq, List.length_append]
    exact Nat.le_trans (List.length_filter_le _ _) (Nat.le_add_right _ _)
  show audit_Audit_Of_l1 _ _ _ _ _ _ _ _
  unfold audit_Audit_Of_l1
  refine ⟨fun c => set_ok (by (first | omega | (unfold I64; omega) | (simp only [List.length_append, List.length_cons, List.length_nil, List.length_take, List.length_drop] at *; omega) | (unfold I64; simp only [List.length_append, List.length_cons, List.length_nil, List.length_take, List.length_drop] at *; omega))) (p := ofP g id) ?_ fun b hb lb => h b hb (by simp only at lb; omega), fun p rem' hq => ?_⟩
  · simp only at c; subst c
    rw [List.append_nil] at hp
    intro x
    simp only
    rw [e2, List.mem_map]
    constructor
    · rintro ⟨p, hp1, rfl⟩
      rw [List.mem_filter, decide_eq_true_eq] at hp1
      obtain ⟨y, hy, hk⟩ := List.mem_map.1 ((hm.keys _).1 (List.mem_map_of_mem (hp.mem_iff.2 hp1.1)))
      exact ⟨y, hy, by rw [← hp1.2, ← hk]; rfl, by rw [← hk]; rfl⟩
    · rintro ⟨y, hy, rfl, rfl⟩
      obtain ⟨p, hp1, hp2⟩ := List.mem_map.1 ((hm.keys _).2 (List.mem_map_of_mem hy))
      exact ⟨p, List.mem_filter.2 ⟨hp.mem_iff.1 hp1, by rw [hp2]; simp [key]⟩, by rw [hp2]; rfl⟩
  · have hk := hK p rem' hq
    simp only [decide_eq_true_eq] at hk
    refine ⟨fun a => ⟨by (first | omega | (unfold I64; omega) | (simp only [List.length_append, List.length_cons, List.length_nil, List.length_take, List.length_drop] at *; omega) | (unfold I64; simp only [List.length_append, List.length_cons, List.length_nil, List.length_take, List.length_drop] at *; omega)), ?_⟩, fun a => ?_⟩
    · rwa [if_pos a] at hk
    · rwa [if_neg a] at hk
theorem rof_ok {g : List Given} {id : Int} {Q : List Spot → Prop} (hg : g.length ≤ 500) (h : ∀ r, SetOf r (ofP g id) → r.length ≤ 1000 → Q r) : ref44_Of_W g id Q := by
  refine loop_up g.length (fun j b => SetOf b (ofP (g.take j) id) ∧ b.length ≤ j) ⟨⟨by simp, fun x => by simp [ofP]⟩, by simp⟩ fun K j b hj ⟨hb, lb⟩ hK => ?_
  show ref44_Of_l1 _ _ _ _ _ _
  unfold ref44_Of_l1
  refine ⟨fun c => ?_, fun c => ?_⟩
  · have hj' : j < g.length := by omega
    rw [gi_nat hj']
    have hmem : ∀ x, ofP (g.take (j + 1)) id x ↔ ofP (g.take j) id x ∨ (g[j].1 = id ∧ (g[j].2.1, g[j].2.2.2.1) = x) := by
      intro x
      unfold ofP
      rw [List.take_succ_eq_append_getElem hj']
      constructor
      · rintro ⟨y, hy, h2⟩
        rw [List.mem_append, List.mem_singleton] at hy
        rcases hy with hy | rfl
        · exact .inl ⟨y, hy, h2⟩
        · exact .inr h2
      · rintro (⟨y, hy, h2⟩ | h2)
        · exact ⟨y, List.mem_append.2 (.inl hy), h2⟩
        · exact ⟨g[j], List.mem_append.2 (.inr (by simp)), h2⟩
    refine ⟨by (first | omega | (unfold I64; omega) | (simp only [List.length_append, List.length_cons, List.length_nil, List.length_take, List.length_drop] at *; omega) | (unfold I64; simp only [List.length_append, List.length_cons, List.length_nil, List.length_take, List.length_drop] at *; omega)), fun a => radd_ok (by simp only; omega) hb.srt fun r h1 h2 h3 => ⟨by (first | omega | (unfold I64; omega) | (simp only [List.length_append, List.length_cons, List.length_nil, List.length_take, List.length_drop] at *; omega) | (unfold I64; simp only [List.length_append, List.length_cons, List.length_nil, List.length_take, List.length_drop] at *; omega)), hK (j + 1) r (by omega) (by omega) ⟨⟨h1, fun x => ?_⟩, by simp only at h3; omega⟩⟩, fun a => ⟨by (first | omega | (unfold I64; omega) | (simp only [List.length_append, List.length_cons, List.length_nil, List.length_take, List.length_drop] at *; omega) | (unfold I64; simp only [List.length_append, List.length_cons, List.length_nil, List.length_take, List.length_drop] at *; omega)), hK (j + 1) b (by omega) (by omega) ⟨⟨hb.srt, fun x => ?_⟩, by omega⟩⟩⟩
    · rw [h2, hmem]
      simp only
      rw [hb.mem]
      constructor
      · rintro (rfl | q)
        · exact .inr ⟨a, rfl⟩
        · exact .inl q
      · rintro (q | ⟨_, q⟩)
        · exact .inr q
        · exact .inl q.symm
    · rw [hb.mem, hmem]
      exact ⟨.inl, fun q => q.elim (fun y => y) fun y => absurd y.1 a⟩
  · rw [List.take_of_length_le (by omega)] at hb
    exact h b hb (by omega)
theorem same_ok {a : List Spot} {Q : Bool → Prop} (hl : a.length ≤ 100000) (h : Q true) : ref44_Same_W a a Q := by
  refine ⟨fun c => absurd rfl c, fun _ => loop_up1 a.length (fun _ => True) trivial fun K i hi _ hK => ?_⟩
  show ref44_Same_l1 _ _ _ _ _
  unfold ref44_Same_l1
  exact ⟨fun c => ⟨by (first | omega | (unfold I64; omega) | (simp only [List.length_append, List.length_cons, List.length_nil, List.length_take, List.length_drop] at *; omega) | (unfold I64; simp only [List.length_append, List.length_cons, List.length_nil, List.length_take, List.length_drop] at *; omega)), by (first | omega | (unfold I64; omega) | (simp only [List.length_append, List.length_cons, List.length_nil, List.length_take, List.length_drop] at *; omega) | (unfold I64; simp only [List.length_append, List.length_cons, List.length_nil, List.length_take, List.length_drop] at *; omega)), fun n => absurd rfl n, fun _ => ⟨by (first | omega | (unfold I64; omega) | (simp only [List.length_append, List.length_cons, List.length_nil, List.length_take, List.length_drop] at *; omega) | (unfold I64; simp only [List.length_append, List.length_cons, List.length_nil, List.length_take, List.length_drop] at *; omega)), hK (i + 1) (by omega) (by omega) trivial⟩⟩, fun _ => h⟩
theorem sameG_ok {a : List Given} {Q : Bool → Prop} (hl : a.length ≤ 100000) (h : Q true) : ref39_Same_W a a Q := by
  refine ⟨fun c => absurd rfl c, fun _ => loop_up1 a.length (fun _ => True) trivial fun K i hi _ hK => ?_⟩
  show ref39_Same_l1 _ _ _ _ _
  unfold ref39_Same_l1
  exact ⟨fun c => ⟨by (first | omega | (unfold I64; omega) | (simp only [List.length_append, List.length_cons, List.length_nil, List.length_take, List.length_drop] at *; omega) | (unfold I64; simp only [List.length_append, List.length_cons, List.length_nil, List.length_take, List.length_drop] at *; omega)), by (first | omega | (unfold I64; omega) | (simp only [List.length_append, List.length_cons, List.length_nil, List.length_take, List.length_drop] at *; omega) | (unfold I64; simp only [List.length_append, List.length_cons, List.length_nil, List.length_take, List.length_drop] at *; omega)), fun n => absurd rfl n, fun _ => ⟨by (first | omega | (unfold I64; omega) | (simp only [List.length_append, List.length_cons, List.length_nil, List.length_take, List.length_drop] at *; omega) | (unfold I64; simp only [List.length_append, List.length_cons, List.length_nil, List.length_take, List.length_drop] at *; omega)), hK (i + 1) (by omega) (by omega) trivial⟩⟩, fun _ => h⟩
theorem sameI_ok {a : List Int} {Q : Bool → Prop} (hl : a.length ≤ 100000) (h : Q true) : ref32_SameInts_W a a Q := by
  refine ⟨fun c => absurd rfl c, fun _ => loop_up1 a.length (fun _ => True) trivial fun K i hi _ hK => ?_⟩
  show ref32_SameInts_l1 _ _ _ _ _
  unfold ref32_SameInts_l1
  exact ⟨fun c => ⟨by (first | omega | (unfold I64; omega) | (simp only [List.length_append, List.length_cons, List.length_nil, List.length_take, List.length_drop] at *; omega) | (unfold I64; simp only [List.length_append, List.length_cons, List.length_nil, List.length_take, List.length_drop] at *; omega)), by (first | omega | (unfold I64; omega) | (simp only [List.length_append, List.length_cons, List.length_nil, List.length_take, List.length_drop] at *; omega) | (unfold I64; simp only [List.length_append, List.length_cons, List.length_nil, List.length_take, List.length_drop] at *; omega)), fun n => absurd rfl n, fun _ => ⟨by (first | omega | (unfold I64; omega) | (simp only [List.length_append, List.length_cons, List.length_nil, List.length_take, List.length_drop] at *; omega) | (unfold I64; simp only [List.length_append, List.length_cons, List.length_nil, List.length_take, List.length_drop] at *; omega)), hK (i + 1) (by omega) (by omega) trivial⟩⟩, fun _ => h⟩
theorem hasI_ok {l : List Int} {n : Int} {Q : Bool → Prop} (hl : l.length ≤ 1000) (h : Q (decide (n ∈ l))) : ref32_Has_W l n Q := by
  refine loop_up1 l.length (fun i => n ∉ l.take i) (by simp) fun K i hi hn hK => ?_
  show ref32_Has_l1 _ _ _ _ _
  unfold ref32_Has_l1
  refine ⟨fun h1 => ?_, fun h1 => ?_⟩
  · rw [gi_nat (by omega)]
    refine ⟨by (first | omega | (unfold I64; omega) | (simp only [List.length_append, List.length_cons, List.length_nil, List.length_take, List.length_drop] at *; omega) | (unfold I64; simp only [List.length_append, List.length_cons, List.length_nil, List.length_take, List.length_drop] at *; omega)), fun a => ?_, fun a => ⟨by (first | omega | (unfold I64; omega) | (simp only [List.length_append, List.length_cons, List.length_nil, List.length_take, List.length_drop] at *; omega) | (unfold I64; simp only [List.length_append, List.length_cons, List.length_nil, List.length_take, List.length_drop] at *; omega)), hK (i + 1) (by omega) (by omega) ?_⟩⟩
    · rw [decide_eq_true (a ▸ List.getElem_mem _)] at h; exact h
    · rw [List.take_succ_eq_append_getElem (by omega), List.mem_append, List.mem_singleton]
      rintro (q | q)
      · exact hn q
      · exact a q.symm
  · rw [List.take_of_length_le (by omega)] at hn
    rw [decide_eq_false hn] at h; exact h
theorem addI_ok {l : List Int} {n : Int} {Q : List Int → Prop} (hl : l.length ≤ 1000) (hs : l.Pairwise (· < ·)) (h : ∀ r, r.Pairwise (· < ·) → (∀ x, x ∈ r ↔ x = n ∨ x ∈ l) → r.length ≤ l.length + 1 → Q r) : ref32_Add_W l n Q := by
  refine hasI_ok hl ⟨fun c => ?_, fun c => ?_⟩
  · exact h l hs (fun x => ⟨.inr, by rintro (rfl | e); exact of_decide_eq_true c; exact e⟩) (Nat.le_succ _)
  have hn := of_decide_eq_false c
  refine loop_up1 l.length (fun i => ∀ x ∈ l.take i, x < n) (by simp) fun K i hi hI hK => ?_
  have hj1 : (∀ h : i < l.length, n < l[i]) → ref32_Add_j1 l n Q i := by
    intro hlt
    unfold ref32_Add_j1
    rw [cut0n, cutn]
    refine ⟨by (first | omega | (unfold I64; omega) | (simp only [List.length_append, List.length_cons, List.length_nil, List.length_take, List.length_drop] at *; omega) | (unfold I64; simp only [List.length_append, List.length_cons, List.length_nil, List.length_take, List.length_drop] at *; omega)), by (first | omega | (unfold I64; omega) | (simp only [List.length_append, List.length_cons, List.length_nil, List.length_take, List.length_drop] at *; omega) | (unfold I64; simp only [List.length_append, List.length_cons, List.length_nil, List.length_take, List.length_drop] at *; omega)), by (first | omega | (unfold I64; omega) | (simp only [List.length_append, List.length_cons, List.length_nil, List.length_take, List.length_drop] at *; omega) | (unfold I64; simp only [List.length_append, List.length_cons, List.length_nil, List.length_take, List.length_drop] at *; omega)), by (first | omega | (unfold I64; omega) | (simp only [List.length_append, List.length_cons, List.length_nil, List.length_take, List.length_drop] at *; omega) | (unfold I64; simp only [List.length_append, List.length_cons, List.length_nil, List.length_take, List.length_drop] at *; omega)), ?_⟩
    have e : ((([] : List Int) ++ l.take i) ++ [n]) ++ l.drop i = l.take i ++ n :: l.drop i := by simp
    have hd : ∀ y ∈ l.drop i, n < y := by
      intro y hy
      obtain ⟨k, hk, rfl⟩ := List.mem_iff_getElem.1 hy
      rw [List.length_drop] at hk
      rw [List.getElem_drop]
      rcases Nat.eq_zero_or_pos k with rfl | hp
      · exact hlt (by omega)
      · exact Int.lt_trans (hlt (by omega)) (List.pairwise_iff_getElem.1 hs i (i + k) (by omega) (by omega) (by omega))
    have hsplit : l = l.take i ++ l.drop i := (List.take_append_drop i l).symm
    have hs' := hs
    rw [hsplit, List.pairwise_append] at hs'
    rw [e]
    refine h _ ?_ (fun x => ?_) ?_
    · rw [List.pairwise_append, List.pairwise_cons]
      refine ⟨hs'.1, ⟨hd, hs'.2.1⟩, fun a ha b hb => ?_⟩
      rcases List.mem_cons.1 hb with rfl | hb
      · exact hI a ha
      · exact hs'.2.2 a ha b hb
    · conv => rhs; rw [hsplit]
      rw [List.mem_append, List.mem_cons, List.mem_append]
      constructor
      · rintro (q | q | q)
        · exact .inr (.inl q)
        · exact .inl q
        · exact .inr (.inr q)
      · rintro (q | q | q)
        · exact .inr (.inl q)
        · exact .inl q
        · exact .inr (.inr q)
    · simp; omega
  show ref32_Add_l1 _ _ _ _ _
  unfold ref32_Add_l1
  refine ⟨fun c => ?_, fun c => hj1 fun q => by omega⟩
  have hi' : i < l.length := by omega
  rw [gi_nat hi']
  refine ⟨by (first | omega | (unfold I64; omega) | (simp only [List.length_append, List.length_cons, List.length_nil, List.length_take, List.length_drop] at *; omega) | (unfold I64; simp only [List.length_append, List.length_cons, List.length_nil, List.length_take, List.length_drop] at *; omega)), fun a => ⟨by (first | omega | (unfold I64; omega) | (simp only [List.length_append, List.length_cons, List.length_nil, List.length_take, List.length_drop] at *; omega) | (unfold I64; simp only [List.length_append, List.length_cons, List.length_nil, List.length_take, List.length_drop] at *; omega)), hK (i + 1) (by omega) (by omega) ?_⟩, fun a => hj1 fun _ => ?_⟩
  · intro x hx
    rw [List.take_succ_eq_append_getElem hi', List.mem_append, List.mem_singleton] at hx
    rcases hx with hx | rfl
    · exact hI x hx
    · exact a
  · have : l[i] ≠ n := fun e => hn (e ▸ List.getElem_mem _)
    omega
theorem rtwice_ok {l : List Given} {Q : List Given → Prop} (hl : l.length ≤ 500) (h : Q (twice [] l)) : ref44_Twice_W l Q := by
  refine loop_up l.length (fun i s => s = twice [] (l.take i)) rfl fun K i s hi hs hK => ?_
  have e : s.length ≤ i := by rw [hs]; have := twice_len (l.take i) []; rw [List.length_take] at this; omega
  show ref44_Twice_l1 _ _ _ _ _
  unfold ref44_Twice_l1
  refine ⟨fun c => ?_, fun c => ?_⟩
  · have hi' : i < l.length := by omega
    rw [gi_nat hi', cut0n]
    refine ⟨by (first | omega | (unfold I64; omega) | (simp only [List.length_append, List.length_cons, List.length_nil, List.length_take, List.length_drop] at *; omega) | (unfold I64; simp only [List.length_append, List.length_cons, List.length_nil, List.length_take, List.length_drop] at *; omega)), by (first | omega | (unfold I64; omega) | (simp only [List.length_append, List.length_cons, List.length_nil, List.length_take, List.length_drop] at *; omega) | (unfold I64; simp only [List.length_append, List.length_cons, List.length_nil, List.length_take, List.length_drop] at *; omega)), rcount_ok (by rw [List.length_take]; omega) ⟨fun z => ⟨by (first | omega | (unfold I64; omega) | (simp only [List.length_append, List.length_cons, List.length_nil, List.length_take, List.length_drop] at *; omega) | (unfold I64; simp only [List.length_append, List.length_cons, List.length_nil, List.length_take, List.length_drop] at *; omega)), by (first | omega | (unfold I64; omega) | (simp only [List.length_append, List.length_cons, List.length_nil, List.length_take, List.length_drop] at *; omega) | (unfold I64; simp only [List.length_append, List.length_cons, List.length_nil, List.length_take, List.length_drop] at *; omega)), hK (i + 1) _ (by omega) (by omega) ?_⟩, fun z => ⟨by (first | omega | (unfold I64; omega) | (simp only [List.length_append, List.length_cons, List.length_nil, List.length_take, List.length_drop] at *; omega) | (unfold I64; simp only [List.length_append, List.length_cons, List.length_nil, List.length_take, List.length_drop] at *; omega)), hK (i + 1) _ (by omega) (by omega) ?_⟩⟩⟩
    · simp only
      rw [List.take_succ_eq_append_getElem hi', twice_snoc, List.nil_append, hs, if_pos (show 0 < cnt (List.take i l) (key l[i]) from z)]
    · simp only
      rw [List.take_succ_eq_append_getElem hi', twice_snoc, List.nil_append, hs, if_neg (show ¬ 0 < cnt (List.take i l) (key l[i]) from z), List.append_nil]
  · rw [List.take_of_length_le (by omega)] at hs
    simp only; rw [hs]; exact h
theorem auditTells_ok (x y : List Given) (id vlan : Int) (want : List Spot) (but : Spot) {Q : Bool → Prop} (h : Q true) : law44_AuditTells_W x y id vlan want but Q := by
  unfold law44_AuditTells_W audit_New_W
  have hfx := few_len x
  have hfy := few_len y
  have hpx := pos_len ((x.take 12).map short)
  have hpy := pos_len ((y.take 12).map short)
  have htx := twice_len (pos ((x.take 12).map short)) []
  have hw : (want.take 8).length ≤ 8 := by rw [List.length_take]; omega
  have fl : ∀ l : List Given, (l.filter fun g => decide (0 < g.1)) = pos l := fun _ => rfl
  refine few_ok (add_ok Seen.nil (by decide) (by decide) (by decide) (by omega) fun m1 hm1 => few_ok (add_ok hm1 (by simp only [List.nil_append]; omega) (by simp only [List.nil_append]; omega) (by omega) (by omega) fun m hm => few_ok (taken_ok (by omega) (few_ok (taken_ok (by omega) ⟨by rw [fl, fl]; omega, ?_⟩)))))
  rw [fl, fl]
  simp only [List.nil_append] at hm ⊢
  have ht : twice [] (pos ((x.take 12).map short)) ++ twice (pos ((x.take 12).map short)) (pos ((y.take 12).map short)) = twice [] (pos ((x.take 12).map short) ++ pos ((y.take 12).map short)) := by rw [twice_append, List.nil_append]
  rw [ht]
  have htw := twice_len (pos ((x.take 12).map short) ++ pos ((y.take 12).map short)) []
  rw [List.length_append] at htw
  generalize hGx : pos ((x.take 12).map short) = Gx at *
  generalize hGy : pos ((y.take 12).map short) = Gy at *
  have hG : (Gx ++ Gy).length ≤ 24 := by rw [List.length_append]; omega
  refine loop_up (Gx ++ Gy).length (fun i ids => IntsOf ids (fun z => ∃ g ∈ (Gx ++ Gy).take i, g.1 = z) ∧ ids.length ≤ i) ⟨⟨by simp, by simp⟩, by simp⟩ fun K i ids hi ⟨hids, hil⟩ hK => ?_
  show law44_AuditTells_l1 _ _ _ _ _ _ _ _ _ _ _ _ _ _ _ _ _
  unfold law44_AuditTells_l1
  refine ⟨fun c => ?_, fun c => ?_⟩
  · have hi' : i < (Gx ++ Gy).length := by simp only at c; omega
    rw [gi_nat hi']
    refine ⟨by simp only at c ⊢; omega, addI_ok (by simp only; omega) hids.srt fun r h1 h2 h3 => ⟨by simp only; (first | omega | (unfold I64; omega) | (simp only [List.length_append, List.length_cons, List.length_nil, List.length_take, List.length_drop] at *; omega) | (unfold I64; simp only [List.length_append, List.length_cons, List.length_nil, List.length_take, List.length_drop] at *; omega)), hK (i + 1) r (by omega) (by omega) ⟨⟨h1, fun z => ?_⟩, by simp only at h3; omega⟩⟩⟩
    rw [h2, List.take_succ_eq_append_getElem hi']
    simp only
    rw [hids.mem]
    constructor
    · rintro (rfl | ⟨g, hg, q⟩)
      · exact ⟨_, List.mem_append.2 (.inr (by simp)), rfl⟩
      · exact ⟨g, List.mem_append.2 (.inl hg), q⟩
    · rintro ⟨g, hg, q⟩
      rcases List.mem_append.1 hg with e | e
      · exact .inr ⟨g, e, q⟩
      · rw [List.mem_singleton] at e; subst e; exact .inl q.symm
  have hii : i = (Gx ++ Gy).length := by simp only at c; omega
  rw [hii, List.take_length] at hids
  clear hK
  simp only
  refine few_ok (taken_ok (by omega) ⟨fun n => absurd (by rw [fl, hGx]) n, fun _ => few_ok (taken_ok (by omega) ⟨fun n => absurd (by rw [fl, hGy]) n, fun _ => ?_⟩)⟩)
  refine ids_ok hm (by omega) fun r hr lr => ?_
  rw [hr.uniq hids]
  refine sameI_ok (by omega) ⟨fun n => (by cases n), fun _ => twice_ok (by omega) (rtwice_ok (by omega) (sameG_ok (by omega) ?_))⟩
  refine ⟨fun n => (by cases n), fun _ => ?_⟩
  refine own_ok (held_ok hm (by omega) (by omega) fun a b ha hb la lb => own_ok (rheld_ok (by omega) (by omega) fun a' b' ha' hb' la' lb' => ?_))
  rw [ha'.uniq ha, hb'.uniq hb]
  have hj2 : law44_AuditTells_j2 Q Gx Gy m (twice [] (Gx ++ Gy)) (0 + (Gx.length : Int) + (Gy.length : Int)) false := by
    unfold law44_AuditTells_j2 audit_Audit_Clear_W
    refine ⟨fun n => (by cases n), fun _ => ⟨fun _ => ids_ok Seen.nil (by decide) fun r hr lr => ?_, fun n => absurd (by rw [List.length_append]; omega) n⟩⟩
    have hre : r = [] := by rw [List.eq_nil_iff_forall_not_mem]; intro z hz; rw [hr.mem] at hz; obtain ⟨g, hg, _⟩ := hz; cases hg
    subst hre
    exact ⟨fun _ => twice_ok (by decide) ⟨fun _ => ⟨fun _ => lives_ok h, fun n => absurd rfl n⟩, fun n => absurd rfl n⟩, fun n => absurd rfl n⟩
  refine same_ok (by omega) ⟨fun n => (by cases n), fun _ => same_ok (by omega) ⟨fun n => (by cases n), fun _ => ?_⟩⟩
  unfold audit_Audit_Count_W
  refine rcount_ok (by omega) ⟨fun n => absurd (hm.get _) n, fun _ => of_ok hm (by omega) fun a hs ls => rof_ok (by omega) fun a' hs' ls' => ?_⟩
  rw [hs'.uniq hs]
  refine same_ok (by omega) ?_
  exact hj2
end Go.Wk
