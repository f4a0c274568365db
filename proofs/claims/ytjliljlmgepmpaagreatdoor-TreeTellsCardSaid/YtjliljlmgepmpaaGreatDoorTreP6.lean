/- Plain words for one law: what it needs. -/
import Derived.Test.YtjliljlmgepmpaaGreatDoorTreV
import Derived.Test.YtjliljlmgepmpaaGreatDoorTreT1
set_option linter.unusedSimpArgs false
set_option linter.unusedVariables false
set_option linter.unusedSectionVars false
namespace Go.Wk
open Go.HL
variable [DM]
/-! ### Who is reached, in order -/
/-! ### Leaves -/
theorem refLeaves_ok {r : Int} {L : List Br} {Q : List Int → Prop} (hl : L.length ≤ 100000) (h : ∀ l, LeafIs L r l → Q l) : ref32_Leaves_W r L Q := by
  refine nodes_ok hl fun N hN hR => ?_
  have hlen := hR.len_le
  refine loop_up N.length (fun i s => s = (N.take i).filter fun x => decide (x ≠ r ∧ kids L x = [])) (by simp) fun K i s hi hs hK => ?_
  have hsl : s.length ≤ i := by rw [hs]; exact Nat.le_trans (List.length_filter_le _ _) (by simp; omega)
  unfold ref32_Leaves_l1
  refine ⟨fun c => ?_, fun c => ?_⟩
  · have hlt : i < N.length := by omega
    have ht : N.take (i + 1) = N.take i ++ [N[i]] := List.take_succ_eq_append_getElem hlt
    have j1 : ∀ b : Bool, (b = true ↔ (N[i] ≠ r ∧ kids L N[i] = [])) → ref32_Leaves_j1 N s (i : Int) (fun out_1 i_1 => K (out_1, i_1)) b := by
      intro b hb
      refine ⟨fun q => ⟨by omega, by simp only [List.length_cons, List.length_nil]; omega, by unfold I64; omega, hK (i + 1) _ (by omega) hlt ?_⟩, fun q => ⟨by unfold I64; omega, hK (i + 1) _ (by omega) hlt ?_⟩⟩
      · rw [ht, List.filter_append, ← hs, gi_nat hlt]; congr 1
        rw [List.filter_cons, if_pos (by simpa using hb.1 q)]; rfl
      · rw [ht, List.filter_append, ← hs]
        have : ¬ (N[i] ≠ r ∧ kids L N[i] = []) := fun q' => by rw [hb.2 q'] at q; cases q
        rw [List.filter_cons, if_neg (by simpa using this)]; simp
    have hgi := gi_nat hlt
    refine ⟨by omega, fun d => refNext_ok hl (j1 _ ?_), fun d => j1 false ⟨(fun q => by cases q), fun q => absurd (by rw [← hgi]; exact d) q.1⟩⟩
    rw [hgi] at d ⊢
    rw [decide_eq_true_eq]
    constructor
    · intro q; exact ⟨d, List.length_eq_zero_iff.1 (by omega)⟩
    · intro q; rw [q.2]; rfl
  · have : i = N.length := by omega
    subst this
    rw [List.take_length] at hs
    subst hs
    refine h _ ⟨hN.sublist List.filter_sublist, fun x => ?_⟩
    rw [List.mem_filter, hR.mem x]; simp
/-! ### To how many at most -/
structure FanIs (L : List Br) (f : Nat) : Prop where
  le : ∀ x, (kids L x).length ≤ f
  is : f = 0 ∨ ∃ x, (kids L x).length = f
theorem FanIs.uniq {L : List Br} {f g : Nat} (h : FanIs L f) (k : FanIs L g) : f = g := by
  rcases h.is with rfl | ⟨x, hx⟩ <;> rcases k.is with rfl | ⟨y, hy⟩
  · rfl
  · have := h.le y; omega
  · have := k.le x; omega
  · have := h.le y; have := k.le x; omega
theorem fan_ok {r : Int} {L : List Br} {Q : Int → Prop} (hl : L.length ≤ 100000) (h : ∀ f : Nat, f ≤ L.length → FanIs L f → Q (f : Int)) : tree_Fan_W r L Q := by
  refine nexts_ok hl fun nx hnx => ?_
  refine ⟨fun s => ∃ f : Nat, s.1 = f ∧ f ≤ L.length ∧ (f = 0 ∨ ∃ x, (kids L x).length = f) ∧ (∀ p ∈ s.2, p ∈ nx) ∧ ∀ p ∈ nx, p ∈ s.2 ∨ (kids L p.1).length ≤ f, fun s => s.2.length, ⟨0, rfl, by omega, .inl rfl, fun p hp => hp, fun p hp => .inl hp⟩, ?_⟩
  rintro ⟨_, rem⟩ ⟨f, rfl, hfl, hf, hsub, hall⟩
  simp only at hsub hall
  show tree_Fan_l1 _ _ (f : Int) rem
  unfold tree_Fan_l1
  refine ⟨fun c => h f hfl ⟨fun x => ?_, hf⟩, fun p rem2 hp => ?_⟩
  · by_cases e : kids L x = []
    · rw [e]; simp
    · obtain ⟨p, hp, rfl⟩ := List.mem_map.1 ((hnx.keys x).2 e)
      rcases hall p hp with q | q
      · rw [c] at q; cases q
      · exact q
  · have hpm : p ∈ nx := hsub p (hp.mem_iff.2 (List.mem_cons_self ..))
    rw [hnx.ent hpm]
    have hkl := kids_len L p.1
    refine ⟨⟨max f (kids L p.1).length, by omega, by omega, ?_, fun q hq => hsub q (hp.mem_iff.2 (List.mem_cons_of_mem _ hq)), fun q hq => ?_⟩, ?_⟩
    · rcases Nat.le_total f (kids L p.1).length with c | c
      · rw [Nat.max_eq_right c]; exact .inr ⟨p.1, rfl⟩
      · rw [Nat.max_eq_left c]; exact hf
    · rcases hall q hq with c | c
      · rcases List.mem_cons.1 (hp.mem_iff.1 c) with rfl | c
        · exact .inr (Nat.le_max_right _ _)
        · exact .inl c
      · exact .inr (by have := Nat.le_max_left f (kids L p.1).length; omega)
    · have := hp.length_eq; simp only [List.length_cons] at this ⊢; omega
theorem refFan_ok {r : Int} {L : List Br} {Q : Int → Prop} (hl : L.length ≤ 100000) (g : Gd0 r L) (h : ∀ f : Nat, f ≤ L.length → FanIs L f → Q (f : Int)) : ref32_Fan_W r L Q := by
  refine nodes_ok hl fun N hN hR => ?_
  have hlen := hR.len_le
  refine loop_by (fun s => s.2) N.length (fun i s => ∃ f : Nat, s.1 = f ∧ f ≤ L.length ∧ (f = 0 ∨ ∃ x, (kids L x).length = f) ∧ ∀ x ∈ N.take i, (kids L x).length ≤ f) rfl ⟨0, rfl, by omega, .inl rfl, by simp⟩ ?_
  rintro K i ⟨_, _⟩ rfl hi ⟨f, rfl, hfl, hf, hall⟩ hK
  simp only at hi hall ⊢
  show ref32_Fan_l1 _ _ _ _ _ (f : Int) (i : Int)
  unfold ref32_Fan_l1
  refine ⟨fun c => ?_, fun c => ?_⟩
  · have hlt : i < N.length := by omega
    have ht : N.take (i + 1) = N.take i ++ [N[i]] := List.take_succ_eq_append_getElem hlt
    have hkl := kids_len L N[i]
    rw [gi_nat hlt]
    refine ⟨by omega, refNext_ok hl ⟨fun d => ⟨by unfold I64; omega, hK (i + 1) _ rfl (by omega) hlt ⟨_, rfl, hkl, .inr ⟨_, rfl⟩, fun x hx => ?_⟩⟩, fun d => ⟨by unfold I64; omega, hK (i + 1) _ rfl (by omega) hlt ⟨f, rfl, hfl, hf, fun x hx => ?_⟩⟩⟩⟩
    · rw [ht] at hx
      rcases List.mem_append.1 hx with hx | hx
      · have := hall x hx; omega
      · rw [List.mem_singleton] at hx; subst hx; exact Nat.le_refl _
    · rw [ht] at hx
      rcases List.mem_append.1 hx with hx | hx
      · exact hall x hx
      · rw [List.mem_singleton] at hx; subst hx; omega
  · have : i = N.length := by omega
    subst this
    rw [List.take_length] at hall
    refine h f hfl ⟨fun x => ?_, hf⟩
    cases hk : kids L x with
    | nil => simp
    | cons a l =>
      rw [← hk]
      have : (x, a) ∈ L := mem_kids.1 (by rw [hk]; simp)
      exact hall x ((hR.mem x).2 (g.from_ this))
/-! ### The same -/
end Go.Wk
