/- Plain words: AuditHolds. -/
import Derived.Test.YtnemfpgfgblpbaaAudP3
set_option linter.unusedSimpArgs false
set_option linter.unusedVariables false
set_option linter.unusedSectionVars false
namespace Go.Wk
open Go.HL
variable [DM]
theorem cnt_cons (x : Given) (l : List Given) (k : Int × Int × Int × Int) : cnt (x :: l) k = if key x = k then cnt l k + 1 else cnt l k := by
  unfold cnt; rw [List.countP_cons]
  by_cases h : key x = k
  · rw [if_pos (by simpa using h), if_pos h]; omega
  · rw [if_neg (by simpa using h), if_neg h]; omega
theorem cnt_nil (k : Int × Int × Int × Int) : ¬ 0 < cnt [] k := by show ¬ (0 : Int) < ((0 : Nat) : Int); decide
theorem twice_iff (l pre : List Given) (k : Int × Int × Int × Int) : (∃ g ∈ twice pre l, key g = k) ↔ 2 ≤ (if 0 < cnt pre k then cnt l k + 1 else cnt l k) := by
  induction l generalizing pre with
  | nil =>
    have : cnt ([] : List Given) k = 0 := rfl
    rw [this]
    constructor
    · rintro ⟨g, hg, _⟩; simp [twice] at hg
    · intro h; split at h <;> omega
  | cons x l ih =>
    have e : (∃ g ∈ twice pre (x :: l), key g = k) ↔ (0 < cnt pre (key x) ∧ key x = k) ∨ ∃ g ∈ twice (pre ++ [x]) l, key g = k := by
      rw [twice]
      constructor
      · rintro ⟨g, hg, hk⟩
        rcases List.mem_append.1 hg with q | q
        · split at q
          · rw [List.mem_singleton] at q; subst q; exact .inl ⟨by assumption, hk⟩
          · cases q
        · exact .inr ⟨g, q, hk⟩
      · rintro (⟨q, hk⟩ | ⟨g, q, hk⟩)
        · exact ⟨x, by rw [if_pos q]; simp, hk⟩
        · exact ⟨g, List.mem_append.2 (.inr q), hk⟩
    rw [e, ih, cnt_snoc, cnt_cons]
    have h0 := (cnt_bd pre k).1
    have h1 := (cnt_bd l k).1
    by_cases hk : key x = k
    · subst hk
      simp only [if_pos, and_true]
      rw [if_pos (show 0 < cnt pre (key x) + 1 by omega)]
      by_cases hp : 0 < cnt pre (key x)
      · rw [if_pos hp]; constructor
        · intro; omega
        · intro; exact .inl hp
      · rw [if_neg hp]; constructor
        · rintro (q | q)
          · exact absurd q hp
          · exact q
        · exact .inr
    · simp only [hk, and_false, false_or, if_false]
theorem foldl_or {α : Type} (p : α → Bool) (l : List α) (a : Bool) : l.foldl (fun s x => s || p x) a = (a || l.any p) := by
  induction l generalizing a with
  | nil => simp
  | cons x l ih => rw [List.foldl_cons, ih, List.any_cons, Bool.or_assoc]
theorem foldl_and {α : Type} (p : α → Bool) (l : List α) (a : Bool) : l.foldl (fun s x => s && p x) a = (a && l.all p) := by
  induction l generalizing a with
  | nil => simp
  | cons x l ih => rw [List.foldl_cons, ih, List.all_cons, Bool.and_assoc]
def mine (id vlan : Int) (g : Given) : Bool := decide (g.1 = id) && decide (g.2.2.1 = vlan)
def wantP (g : List Given) (id vlan : Int) (but w : Spot) : Bool := if w = but then decide (cnt g (id, vlan, w) = 0) else decide (cnt g (id, vlan, w) = 1)
def givenP (want : List Spot) (id vlan : Int) (but : Spot) (g : Given) : Bool := !mine id vlan g || (decide ((g.2.1, g.2.2.2.1) ≠ but) && decide ((g.2.1, g.2.2.2.1) ∈ want))
theorem key_mine {id vlan : Int} {g : Given} : mine id vlan g = true ↔ key g = (id, vlan, (g.2.1, g.2.2.2.1)) := by
  unfold mine key; simp
theorem holds_law {G : List Given} {id vlan : Int} {W : List Spot} {but : Spot} {a b : List Spot} (ha : SetOf a (lackP G id vlan W but)) (hb : SetOf b (moreP G id vlan W but)) :
    (W.all (wantP G id vlan but) && G.all (givenP W id vlan but)) = (decide (a = []) && decide (b = []) && !(twice [] G).any (mine id vlan)) := by
  have hag : ((twice [] G).any (mine id vlan) = true) ↔ ∃ s, 2 ≤ cnt G (id, vlan, s) := by
    rw [List.any_eq_true]
    constructor
    · rintro ⟨g, hg, hm⟩
      refine ⟨(g.2.1, g.2.2.2.1), ?_⟩
      have := (twice_iff G [] (id, vlan, (g.2.1, g.2.2.2.1))).1 ⟨g, hg, key_mine.1 hm⟩
      rwa [if_neg (cnt_nil _)] at this
    · rintro ⟨s, hs⟩
      obtain ⟨g, hg, hk⟩ := (twice_iff G [] (id, vlan, s)).2 (by rw [if_neg (cnt_nil _)]; exact hs)
      refine ⟨g, hg, key_mine.2 ?_⟩
      unfold key at hk ⊢
      injection hk with h1 h2; injection h2 with h2 h3
      rw [h1, h2]
  have hag' : ((twice [] G).any (mine id vlan) = false) ↔ ∀ s, cnt G (id, vlan, s) ≤ 1 := by
    rw [← Bool.not_eq_true, hag]
    constructor
    · intro h s; by_cases e : 2 ≤ cnt G (id, vlan, s)
      · exact absurd ⟨s, e⟩ h
      · omega
    · rintro h ⟨s, hs⟩; have := h s; omega
  have hae : a = [] ↔ ∀ x ∈ W, x ≠ but → 0 < cnt G (id, vlan, x) := by
    rw [List.eq_nil_iff_forall_not_mem]
    constructor
    · intro h x hx hn
      have := h x; rw [ha.mem] at this
      have h0 := (cnt_bd G (id, vlan, x)).1
      by_cases e : cnt G (id, vlan, x) = 0
      · exact absurd ⟨hx, hn, e⟩ this
      · omega
    · intro h x hx; rw [ha.mem] at hx
      have := h x hx.1 hx.2.1; have := hx.2.2; omega
  have hbe : b = [] ↔ ∀ x, 0 < cnt G (id, vlan, x) → x ≠ but ∧ x ∈ W := by
    rw [List.eq_nil_iff_forall_not_mem]
    constructor
    · intro h x hx
      have := h x; rw [hb.mem] at this
      have hk := cnt_pos.1 hx
      refine ⟨fun e => this ⟨hk, .inl e⟩, ?_⟩
      by_cases e : x ∈ W
      · exact e
      · exact absurd ⟨hk, .inr e⟩ this
    · intro h x hx; rw [hb.mem] at hx
      obtain ⟨h1, h2⟩ := h x (cnt_pos.2 hx.1)
      rcases hx.2 with q | q
      · exact h1 q
      · exact q h2
  rw [Bool.eq_iff_iff, Bool.and_eq_true, Bool.and_eq_true, Bool.and_eq_true, decide_eq_true_eq, decide_eq_true_eq, Bool.not_eq_true', hag', hae, hbe, List.all_eq_true, List.all_eq_true]
  have key' : ∀ x, 0 < cnt G (id, vlan, x) → ∃ g ∈ G, mine id vlan g = true ∧ (g.2.1, g.2.2.2.1) = x := by
    intro x hx
    obtain ⟨g, hg, hk⟩ := List.mem_map.1 (cnt_pos.1 hx)
    refine ⟨g, hg, ?_, ?_⟩
    · rw [key_mine]; unfold key at hk ⊢; injection hk with h1 h2; injection h2 with h2 h3; rw [h1, h2]
    · unfold key at hk; exact congrArg (fun t => t.2.2) hk
  constructor
  · rintro ⟨hw, hg⟩
    have hb' : ∀ x, 0 < cnt G (id, vlan, x) → x ≠ but ∧ x ∈ W := by
      intro x hx
      obtain ⟨g, hgm, hm, rfl⟩ := key' x hx
      have := hg g hgm
      unfold givenP at this
      rw [hm] at this
      simpa using this
    refine ⟨⟨fun x hx hn => ?_, hb'⟩, fun s => ?_⟩
    · have := hw x hx; unfold wantP at this; rw [if_neg hn, decide_eq_true_eq] at this; omega
    · by_cases e : 0 < cnt G (id, vlan, s)
      · obtain ⟨h1, h2⟩ := hb' s e
        have := hw s h2; unfold wantP at this; rw [if_neg h1, decide_eq_true_eq] at this; omega
      · omega
  · rintro ⟨⟨h1, h2⟩, h3⟩
    refine ⟨fun w hw => ?_, fun g hg => ?_⟩
    · unfold wantP
      have h0 := (cnt_bd G (id, vlan, w)).1
      split
      · rename_i e
        rw [decide_eq_true_eq]
        by_cases e' : 0 < cnt G (id, vlan, w)
        · exact absurd e (h2 w e').1
        · omega
      · rename_i e
        rw [decide_eq_true_eq]
        have := h1 w hw e; have := h3 w; omega
    · unfold givenP
      cases hm : mine id vlan g with
      | false => rfl
      | true =>
        have := h2 (g.2.1, g.2.2.2.1) (cnt_pos.2 (by rw [← key_mine.1 hm]; exact List.mem_map_of_mem hg))
        simpa using this
theorem few_len (x : List Given) : ((x.take 12).map short).length ≤ 12 := by rw [List.length_map, List.length_take]; omega
theorem auditHolds_ok (x : List Given) (id vlan : Int) (want : List Spot) (but : Spot) {Q : Bool → Prop} (h : Q true) : law44_AuditHolds_W x id vlan want but Q := by
  unfold law44_AuditHolds_W audit_New_W
  have hf := few_len x
  have hp := pos_len ((x.take 12).map short)
  have hw : (want.take 8).length ≤ 8 := by rw [List.length_take]; omega
  have htl := twice_len (pos ((x.take 12).map short)) []
  refine few_ok (taken_ok (by omega) (few_ok (add_ok Seen.nil (by decide) (by decide) (by decide) (by omega) fun m hm => own_ok (held_ok hm (by simp only [List.nil_append]; omega) (by omega) fun a b ha hb la lb => twice_ok (by simp only [List.nil_append]; omega) ?_))))
  simp only [List.nil_append] at hm ha hb ⊢
  have hlaw := holds_law ha hb
  show loopW _ _
  generalize hG : pos ((x.take 12).map short) = G at *
  have hG' : (((x.take 12).map short).filter fun g => decide (0 < g.1)) = G := hG
  rw [hG']
  generalize hT : twice [] G = T at *
  refine loop_fold T (fun s g => s || mine id vlan g) fun K i s hi hs hK => ?_
  show law44_AuditHolds_l1 _ _ _ _ _ _ _ _ _ _ _ _
  unfold law44_AuditHolds_l1
  refine ⟨fun c => ?_, fun c => ?_⟩
  · have hk := hK (by omega)
    rw [gi_nat (by omega)]
    refine ⟨fun z => ⟨by (first | omega | (unfold I64; omega) | (simp only [List.length_append, List.length_cons, List.length_nil, List.length_take, List.length_drop] at *; omega) | (unfold I64; simp only [List.length_append, List.length_cons, List.length_nil, List.length_take, List.length_drop] at *; omega)), ?_⟩, fun z => ⟨by (first | omega | (unfold I64; omega) | (simp only [List.length_append, List.length_cons, List.length_nil, List.length_take, List.length_drop] at *; omega) | (unfold I64; simp only [List.length_append, List.length_cons, List.length_nil, List.length_take, List.length_drop] at *; omega)), fun y => ⟨by (first | omega | (unfold I64; omega) | (simp only [List.length_append, List.length_cons, List.length_nil, List.length_take, List.length_drop] at *; omega) | (unfold I64; simp only [List.length_append, List.length_cons, List.length_nil, List.length_take, List.length_drop] at *; omega)), ?_⟩, fun y => ⟨by (first | omega | (unfold I64; omega) | (simp only [List.length_append, List.length_cons, List.length_nil, List.length_take, List.length_drop] at *; omega) | (unfold I64; simp only [List.length_append, List.length_cons, List.length_nil, List.length_take, List.length_drop] at *; omega)), ?_⟩⟩⟩
    · simp only at z; subst z; exact hk
    · simp only at z; subst z; unfold mine at hk; rw [decide_eq_true y] at hk; exact hk
    · simp only at z; subst z; unfold mine at hk; rw [decide_eq_false y] at hk; exact hk
  rw [List.take_of_length_le (by omega), foldl_or, Bool.false_or] at hs
  clear hK c
  simp only
  refine loop_fold (want.take 8) (fun s w => s && wantP G id vlan but w) fun K i2 s2 hi2 hs2 hK => ?_
  show law44_AuditHolds_l2 _ _ _ _ _ _ _ _ _ _ _ _
  unfold law44_AuditHolds_l2
  refine own_ok ⟨fun c => own_ok ⟨by (first | omega | (unfold I64; omega) | (simp only [List.length_append, List.length_cons, List.length_nil, List.length_take, List.length_drop] at *; omega) | (unfold I64; simp only [List.length_append, List.length_cons, List.length_nil, List.length_take, List.length_drop] at *; omega)), rcount_ok (by omega) ?_⟩, fun c => ?_⟩
  · have hk := hK (by simp only at c; omega)
    simp only at c
    rw [gi_nat (by omega)]
    unfold wantP at hk
    refine ⟨fun z => ?_, fun z => ⟨by (first | omega | (unfold I64; omega) | (simp only [List.length_append, List.length_cons, List.length_nil, List.length_take, List.length_drop] at *; omega) | (unfold I64; simp only [List.length_append, List.length_cons, List.length_nil, List.length_take, List.length_drop] at *; omega)), ?_⟩⟩
    · simp only at z; subst z
      rw [Bool.true_and] at hk
      refine ⟨fun y => ?_, fun y => ⟨by (first | omega | (unfold I64; omega) | (simp only [List.length_append, List.length_cons, List.length_nil, List.length_take, List.length_drop] at *; omega) | (unfold I64; simp only [List.length_append, List.length_cons, List.length_nil, List.length_take, List.length_drop] at *; omega)), ?_⟩⟩
      · rw [if_pos y] at hk
        refine ⟨fun v => ⟨by (first | omega | (unfold I64; omega) | (simp only [List.length_append, List.length_cons, List.length_nil, List.length_take, List.length_drop] at *; omega) | (unfold I64; simp only [List.length_append, List.length_cons, List.length_nil, List.length_take, List.length_drop] at *; omega)), ?_⟩, fun v => ⟨by (first | omega | (unfold I64; omega) | (simp only [List.length_append, List.length_cons, List.length_nil, List.length_take, List.length_drop] at *; omega) | (unfold I64; simp only [List.length_append, List.length_cons, List.length_nil, List.length_take, List.length_drop] at *; omega)), ?_⟩⟩
        · rw [decide_eq_true v] at hk; exact hk
        · rw [decide_eq_false v] at hk; exact hk
      · rw [if_neg y] at hk; exact hk
    · simp only at z; subst z; rw [Bool.false_and] at hk; exact hk
  simp only at c
  rw [List.take_of_length_le (by omega), foldl_and, Bool.true_and] at hs2
  clear hK c
  simp only
  refine loop_fold G (fun s g => s && givenP (want.take 8) id vlan but g) fun K i3 s3 hi3 hs3 hK => ?_
  show law44_AuditHolds_l3 _ _ _ _ _ _ _ _ _ _ _ _
  unfold law44_AuditHolds_l3 law44_AuditHolds_j1
  refine ⟨fun c => ?_, fun c => ?_⟩
  · simp only at c
    have hk := hK (by omega)
    rw [gi_nat (by omega)]
    unfold givenP mine at hk
    refine ⟨by (first | omega | (unfold I64; omega) | (simp only [List.length_append, List.length_cons, List.length_nil, List.length_take, List.length_drop] at *; omega) | (unfold I64; simp only [List.length_append, List.length_cons, List.length_nil, List.length_take, List.length_drop] at *; omega)), fun y => ⟨fun v => ⟨fun z => ⟨fun u => own_ok (rhas_ok (by omega) ⟨by (first | omega | (unfold I64; omega) | (simp only [List.length_append, List.length_cons, List.length_nil, List.length_take, List.length_drop] at *; omega) | (unfold I64; simp only [List.length_append, List.length_cons, List.length_nil, List.length_take, List.length_drop] at *; omega)), ?_⟩), fun u => ⟨by (first | omega | (unfold I64; omega) | (simp only [List.length_append, List.length_cons, List.length_nil, List.length_take, List.length_drop] at *; omega) | (unfold I64; simp only [List.length_append, List.length_cons, List.length_nil, List.length_take, List.length_drop] at *; omega)), ?_⟩⟩, fun z => ⟨by (first | omega | (unfold I64; omega) | (simp only [List.length_append, List.length_cons, List.length_nil, List.length_take, List.length_drop] at *; omega) | (unfold I64; simp only [List.length_append, List.length_cons, List.length_nil, List.length_take, List.length_drop] at *; omega)), ?_⟩⟩, fun v => ⟨by (first | omega | (unfold I64; omega) | (simp only [List.length_append, List.length_cons, List.length_nil, List.length_take, List.length_drop] at *; omega) | (unfold I64; simp only [List.length_append, List.length_cons, List.length_nil, List.length_take, List.length_drop] at *; omega)), ?_⟩⟩, fun y => ⟨fun v => (by cases v), fun _ => ⟨by (first | omega | (unfold I64; omega) | (simp only [List.length_append, List.length_cons, List.length_nil, List.length_take, List.length_drop] at *; omega) | (unfold I64; simp only [List.length_append, List.length_cons, List.length_nil, List.length_take, List.length_drop] at *; omega)), ?_⟩⟩⟩
    · simp only at z; subst z
      rw [decide_eq_true y, v, decide_eq_true u] at hk; simpa using hk
    · simp only at z; subst z
      rw [decide_eq_true y, v, decide_eq_false (by simpa using u)] at hk; simpa using hk
    · simp only at z; subst z; rw [Bool.false_and] at hk; exact hk
    · rw [decide_eq_true y, v] at hk; simpa using hk
    · rw [decide_eq_false y] at hk; simpa using hk
  · simp only at c
    rw [show List.take i3 G = G from List.take_of_length_le (by omega), foldl_and, hs2] at hs3
    rw [← hs] at hlaw
    rw [hlaw] at hs3
    simp only
    have ea : ((a.length : Int) = 0) ↔ a = [] := by rw [← List.length_eq_zero_iff]; omega
    have eb : ((b.length : Int) = 0) ↔ b = [] := by rw [← List.length_eq_zero_iff]; omega
    rw [ea, eb]
    refine ⟨fun y => ⟨fun z => ⟨fun _ => lives_ok h, fun v => ?_⟩, fun z => ⟨fun _ => lives_ok h, fun v => ?_⟩⟩, fun y => ⟨fun _ => lives_ok h, fun v => ?_⟩⟩
    · rw [hs3, decide_eq_true y, decide_eq_true z] at v; cases s <;> simp at v
    · rw [hs3, decide_eq_true y, decide_eq_false z] at v; simp at v
    · rw [hs3, decide_eq_false y] at v; simp at v
end Go.Wk
