/- Plain words on trees: who is reached from whom, paths, good trees. -/
import Derived.Test.YtjliljlmgepmpaaGreatDoorPl2
set_option linter.unusedSimpArgs false
set_option linter.unusedVariables false
set_option linter.unusedSectionVars false
namespace Go.Wk
open Go.HL
abbrev Br := Int × Int
theorem nodup_le {α : Type} [DecidableEq α] : ∀ {l m : List α}, l.Nodup → (∀ x ∈ l, x ∈ m) → l.length ≤ m.length
  | [], _, _, _ => Nat.zero_le _
  | a :: l, m, hn, hs => by
    rw [List.nodup_cons] at hn
    have ha := hs a (by simp)
    have h1 := nodup_le (l := l) (m := m.erase a) hn.2 (fun x hx => (List.mem_erase_of_ne (by rintro rfl; exact hn.1 hx)).2 (hs x (by simp [hx])))
    rw [List.length_erase_of_mem ha] at h1
    have h2 : 0 < m.length := List.length_pos_of_mem ha
    simp only [List.length_cons]; omega
theorem nodup_full {α : Type} [DecidableEq α] {l m : List α} (hn : l.Nodup) (hs : ∀ x ∈ l, x ∈ m) (hl : m.length ≤ l.length) {x : α} (hx : x ∈ m) : x ∈ l := by
  refine Decidable.byContradiction fun hc => ?_
  have := nodup_le (l := x :: l) (m := m) (List.nodup_cons.2 ⟨hc, hn⟩) (fun y hy => by
    rcases List.mem_cons.1 hy with rfl | hy
    · exact hx
    · exact hs y hy)
  simp only [List.length_cons] at this; omega
theorem nodup_same {α : Type} [DecidableEq α] {l m : List α} (hl : l.Nodup) (hm : m.Nodup) (h : ∀ x, x ∈ l ↔ x ∈ m) : l.length = m.length :=
  Nat.le_antisymm (nodup_le hl fun x hx => (h x).1 hx) (nodup_le hm fun x hx => (h x).2 hx)
/-! ### Who is reached -/
inductive Rch (L : List Br) (a : Int) : Int → Prop
  | refl : Rch L a a
  | step {x y : Int} (h : Rch L a x) (hl : (x, y) ∈ L) : Rch L a y
section
variable {L : List Br} {a b c x y : Int} {l m : List Int}
theorem Rch.trans (h : Rch L a b) (k : Rch L b c) : Rch L a c := by
  induction k with
  | refl => exact h
  | step _ hl ih => exact ih.step hl
theorem Rch.mono {M : List Br} (hs : ∀ e ∈ L, e ∈ M) (h : Rch L a b) : Rch M a b := by
  induction h with
  | refl => exact .refl
  | step _ hl ih => exact ih.step (hs _ hl)
theorem rch_closed (h0 : a ∈ l) (hc : ∀ e ∈ L, e.1 ∈ l → e.2 ∈ l) (h : Rch L a x) : x ∈ l := by
  induction h with
  | refl => exact h0
  | step _ hl ih => exact hc _ hl ih
theorem Rch.ends (h : Rch L a x) : x = a ∨ x ∈ L.map (·.2) := by
  cases h with
  | refl => exact .inl rfl
  | step _ hl => exact .inr (List.mem_map.2 ⟨_, hl, rfl⟩)
structure IsR (L : List Br) (a : Int) (l : List Int) : Prop where
  nd : l.Nodup
  mem : ∀ x, x ∈ l ↔ Rch L a x
theorem rch_len (hn : l.Nodup) (hs : ∀ x ∈ l, Rch L a x) : l.length ≤ L.length + 1 := by
  have := nodup_le (m := a :: L.map (·.2)) hn (fun x hx => by
    rcases (hs x hx).ends with rfl | h
    · simp
    · simp only [List.mem_cons]; exact .inr h)
  simpa using this
theorem IsR.of_closed (hn : l.Nodup) (h0 : a ∈ l) (hs : ∀ x ∈ l, Rch L a x) (hc : ∀ e ∈ L, e.1 ∈ l → e.2 ∈ l) : IsR L a l := ⟨hn, fun x => ⟨hs x, rch_closed h0 hc⟩⟩
theorem IsR.len_eq (h : IsR L a l) (k : IsR L a m) : l.length = m.length := nodup_same h.nd k.nd fun x => (h.mem x).trans (k.mem x).symm
theorem IsR.len_le (h : IsR L a l) : l.length ≤ L.length + 1 := rch_len h.nd fun x hx => (h.mem x).1 hx
/-! ### To whom a node sends on -/
def kids (L : List Br) (n : Int) : List Int := (L.filter fun e => decide (e.1 = n)).map (·.2)
theorem mem_kids : y ∈ kids L x ↔ (x, y) ∈ L := by
  unfold kids
  rw [List.mem_map]
  constructor
  · rintro ⟨⟨p, q⟩, h, rfl⟩
    rw [List.mem_filter] at h
    have := of_decide_eq_true h.2
    simp only at this; subst this; exact h.1
  · intro h; exact ⟨(x, y), List.mem_filter.2 ⟨h, by simp⟩, rfl⟩
theorem kids_snoc (L : List Br) (e : Br) (n : Int) : kids (L ++ [e]) n = if e.1 = n then kids L n ++ [e.2] else kids L n := by
  unfold kids; rw [List.filter_append, List.map_append]
  by_cases h : e.1 = n <;> simp [List.filter_cons, h]
theorem kids_len (L : List Br) (n : Int) : (kids L n).length ≤ L.length := by unfold kids; rw [List.length_map]; exact List.length_filter_le _ _
/-! ### Good trees -/
def blt (p q : Br) : Prop := p.1 < q.1 ∨ p.1 = q.1 ∧ p.2 < q.2
instance (p q : Br) : Decidable (blt p q) := inferInstanceAs (Decidable (_ ∨ _ ∧ _))
theorem blt_irr (p : Br) : ¬ blt p p := by unfold blt; omega
theorem blt_tr (p q r : Br) : blt p q → blt q r → blt p r := by unfold blt; omega
theorem blt_tot (p q : Br) : ¬ blt p q → ¬ blt q p → p = q := by
  unfold blt; intro h k; apply Prod.ext <;> omega
structure Gd0 (r : Int) (L : List Br) : Prop where
  root : ∀ e ∈ L, e.2 ≠ r
  ends : (L.map (·.2)).Nodup
  all : ∀ e ∈ L, Rch L r e.2
structure Gd (r : Int) (L : List Br) : Prop extends Gd0 r L where
  ris : L.Pairwise blt
  few : L.length < 256
theorem Gd0.nd {r : Int} (g : Gd0 r L) : (r :: L.map (·.2)).Nodup := List.nodup_cons.2 ⟨fun h => by obtain ⟨e, he, h⟩ := List.mem_map.1 h; exact g.root e he h, g.ends⟩
theorem Gd0.isR {r : Int} (g : Gd0 r L) : IsR L r (r :: L.map (·.2)) := ⟨g.nd, fun x => by
  rw [List.mem_cons]
  constructor
  · rintro (rfl | h)
    · exact .refl
    · obtain ⟨e, he, rfl⟩ := List.mem_map.1 h; exact g.all e he
  · exact Rch.ends⟩
theorem Gd0.of_len {r : Int} (hr : ∀ e ∈ L, e.2 ≠ r) (he : (L.map (·.2)).Nodup) (h : IsR L r l) (hl : l.length = L.length + 1) : Gd0 r L :=
  ⟨hr, he, fun e hm => (h.mem _).1 (nodup_full (m := r :: L.map (·.2)) h.nd (fun x hx => by
    rcases ((h.mem x).1 hx).ends with rfl | q
    · simp
    · exact List.mem_cons_of_mem _ q) (by simp [hl]) (List.mem_cons_of_mem _ (List.mem_map.2 ⟨e, hm, rfl⟩)))⟩
theorem Gd0.len {r : Int} (g : Gd0 r L) (h : IsR L r l) : l.length = L.length + 1 := by rw [h.len_eq g.isR]; simp
theorem Gd0.reach {r : Int} (g : Gd0 r L) : Rch L r x ↔ x = r ∨ x ∈ L.map (·.2) := by rw [← g.isR.mem x, List.mem_cons]
theorem nodup_map_inj {α β : Type} {f : α → β} : ∀ {l : List α}, (l.map f).Nodup → ∀ {x y}, x ∈ l → y ∈ l → f x = f y → x = y
  | [], _, _, _, h, _, _ => by cases h
  | a :: l, hn, x, y, hx, hy, e => by
    rw [List.map_cons, List.nodup_cons] at hn
    rcases List.mem_cons.1 hx with hx' | hx' <;> rcases List.mem_cons.1 hy with hy' | hy'
    · rw [hx', hy']
    · rw [← hx'] at hn; exact (hn.1 (List.mem_map.2 ⟨y, hy', e.symm⟩)).elim
    · rw [← hy'] at hn; exact (hn.1 (List.mem_map.2 ⟨x, hx', e⟩)).elim
    · exact nodup_map_inj hn.2 hx' hy' e
theorem Gd0.one {r : Int} (g : Gd0 r L) (h : (x, y) ∈ L) (k : (b, y) ∈ L) : x = b := congrArg Prod.fst (nodup_map_inj g.ends h k rfl)
theorem Gd0.from_ {r : Int} (g : Gd0 r L) (h : (x, y) ∈ L) : Rch L r x := by
  have hr := g.all _ h
  generalize hz : (x, y).2 = z at hr
  cases hr with
  | refl => exact absurd hz (g.root _ h)
  | step hx hl => rw [← hz] at hl; rw [g.one h hl]; exact hx
theorem Gd0.perm {r : Int} {M : List Br} (g : Gd0 r L) (hp : M.Perm L) : Gd0 r M :=
  ⟨fun e he => g.root e (hp.mem_iff.1 he), (hp.map _).nodup_iff.2 g.ends, fun e he => (g.all e (hp.mem_iff.1 he)).mono fun e he => hp.mem_iff.2 he⟩
theorem Gd0.ne {r : Int} (g : Gd0 r L) (h : (x, y) ∈ L) : x ≠ y := by
  rintro rfl
  -- who reaches himself alone is not reached
  have key : ∀ z, Rch L r z → z ≠ x := by
    intro z hz
    induction hz with
    | refl => intro e; exact g.root _ h e.symm
    | step hx hl ih => intro e; subst e; exact ih (g.one hl h)
  exact key x (g.from_ h) rfl
/-! ### Paths -/
inductive Pth (L : List Br) (r : Int) : Int → List Int → Prop
  | root : Pth L r r [r]
  | step {x y : Int} {p : List Int} (h : Pth L r x p) (hl : (x, y) ∈ L) : Pth L r y (p ++ [y])
theorem Pth.rch {r : Int} {p : List Int} (h : Pth L r x p) : Rch L r x := by
  induction h with
  | root => exact .refl
  | step _ hl ih => exact ih.step hl
theorem Rch.pth {r : Int} (h : Rch L r x) : ∃ p, Pth L r x p := by
  induction h with
  | refl => exact ⟨_, .root⟩
  | step _ hl ih => obtain ⟨p, hp⟩ := ih; exact ⟨_, hp.step hl⟩
theorem Pth.uniq {r : Int} (g : Gd0 r L) {p q : List Int} (h : Pth L r x p) : Pth L r x q → p = q := by
  induction h generalizing q with
  | root =>
    intro k
    generalize hz : r = z at k
    cases k with
    | root => subst hz; rfl
    | step _ hl => exact absurd hz.symm (by have := g.root _ hl; simpa using this)
  | @step x y p h hl ih =>
    intro k
    cases k with
    | root => exact absurd rfl (g.root _ hl)
    | @step x' _ p' h' hl' =>
      have e := g.one hl hl'; subst e
      rw [ih h']
theorem Pth.len_pos {r : Int} {p : List Int} (h : Pth L r x p) : 0 < p.length := by cases h <;> simp
theorem Pth.pre {r : Int} {p : List Int} (h : Pth L r x p) : ∀ (i : Nat) (hi : i < p.length), Pth L r p[i] (p.take (i + 1)) := by
  induction h with
  | root => intro i hi; simp only [List.length_singleton] at hi; obtain rfl : i = 0 := by omega
            exact .root
  | @step x y p h hl ih =>
    intro i hi
    rw [List.length_append, List.length_singleton] at hi
    by_cases e : i < p.length
    · rw [List.getElem_append_left e, List.take_append_of_le_length (by omega)]; exact ih i e
    · obtain rfl : i = p.length := by omega
      rw [List.getElem_append_right (Nat.le_refl _), List.take_of_length_le (by simp)]
      simp only [Nat.sub_self, List.getElem_singleton]
      exact h.step hl
theorem Pth.nd {r : Int} (g : Gd0 r L) {p : List Int} (h : Pth L r x p) : p.Nodup := by
  refine List.pairwise_iff_getElem.2 fun i j hi hj hij e => ?_
  have h1 := h.pre i (by omega); have h2 := h.pre j hj
  rw [← e] at h2
  have := congrArg List.length (h1.uniq g h2)
  simp only [List.length_take] at this; omega
theorem Pth.len {r : Int} (g : Gd0 r L) {p : List Int} (h : Pth L r x p) : p.length ≤ L.length + 1 :=
  rch_len (h.nd g) fun y hy => by
    obtain ⟨i, hi, rfl⟩ := List.mem_iff_getElem.1 hy
    exact (h.pre i hi).rch
end
end Go.Wk
