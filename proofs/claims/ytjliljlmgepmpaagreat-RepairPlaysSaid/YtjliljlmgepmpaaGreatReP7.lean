/- Plain words: what is asked, as it may be; the tree that is made of it, and that it will do. -/
import Derived.Test.YtjliljlmgepmpaaGreatRepA4
import Derived.Test.YtjliljlmgepmpaaGreatPl2
import Derived.Test.YtjliljlmgepmpaaGreatSrt
set_option linter.unusedSimpArgs false
set_option linter.unusedVariables false
set_option linter.unusedSectionVars false
namespace Go.Wk
open Go.HL
variable [DM]
def dgs : Str := [48, 49, 50, 51, 52, 53, 54, 55, 56, 57, 97, 98, 99, 100, 101, 102, 103, 104, 105, 106, 107, 108, 109, 110, 111, 112, 113, 114, 115, 116, 117, 118, 119, 120, 121, 122]
def dig (k : Nat) : UInt8 := dgs.getD k 0
def numL (b n : Nat) : Str := if h : n < b ∨ b < 2 then [dig n] else numL b (n / b) ++ [dig (n % b)]
termination_by n
decreasing_by exact Nat.div_lt_self (by omega) (by omega)
theorem numL_lt {b n : Nat} (h : n < b) : numL b n = [dig n] := by rw [numL, dif_pos (.inl h)]
theorem numL_ge {b n : Nat} (hb : 2 ≤ b) (h : b ≤ n) : numL b n = numL b (n / b) ++ [dig (n % b)] := by
  rw [numL, dif_neg (by omega)]
theorem numL_ne (b n : Nat) : numL b n ≠ [] := by
  rw [numL]; split <;> simp
theorem numL_len {b : Nat} (hb : 2 ≤ b) : ∀ n, (numL b n).length ≤ n + 1 := by
  intro n
  induction n using Nat.strongRecOn with
  | _ n ih =>
    by_cases h : n < b
    · rw [numL_lt h]; simp
    · have h1 : n / b < n := Nat.div_lt_self (by omega) (by omega)
      have := ih _ h1
      rw [numL_ge hb (by omega), List.length_append]
      simp only [List.length_cons, List.length_nil]; omega
theorem sign_fact : ∀ k < 16, ((0 : Int) ≤ ((k : Nat) : Int) ∧ ((k : Nat) : Int) ≤ ((u8w (((k : Nat) : Int) + 1)).toNat : Int) ∧ ((u8w (((k : Nat) : Int) + 1)).toNat : Int) ≤ 16) ∧ cut ([48, 49, 50, 51, 52, 53, 54, 55, 56, 57, 97, 98, 99, 100, 101, 102] : Str) ((k : Nat) : Int) ((u8w (((k : Nat) : Int) + 1)).toNat : Int) = [dig k] := by decide +kernel
theorem sign_ok {k : Nat} (hk : k < 16) {Q : Str → Prop} (h : Q [dig k]) : ref01_Sign_W (k : Int) Q := by
  obtain ⟨h1, h2⟩ := sign_fact k hk
  refine ⟨h1, ?_⟩
  rw [h2]; exact h
theorem u8w_nat {k : Nat} (h : k < 256) : ((u8w (k : Int)).toNat : Int) = k := by rw [u8w_toNat]; omega
theorem num_ok {b n : Nat} (hb : 2 ≤ b ∧ b ≤ 16) (hn : n ≤ 100000) {Q : Str → Prop} (h : Q (numL b n)) : ref03_Num_W (n : Int) (b : Int) Q := by
  refine ⟨fun s => (s = ((n : Int), [])) ∨ ∃ m : Nat, s.1 = m ∧ s.2 ≠ [] ∧ s.2.length ≤ n + 1 ∧ ((m = 0 ∧ s.2 = numL b n) ∨ (0 < m ∧ m ≤ n ∧ numL b n = numL b m ++ s.2)), fun s => if s.2 = [] then n + 1 else s.1.toNat, .inl rfl, ?_⟩
  have hlen := numL_len hb.1 n
  have step : ∀ (m : Nat) (s : Str) (K : Int → Str → Prop), m ≤ n → s.length ≤ n + 1 → numL b n = numL b m ++ s →
      (∀ m' s', m' < m + 1 → (m' < m ∨ m = 0) → s' ≠ [] → s'.length ≤ n + 1 → ((m' = 0 ∧ s' = numL b n) ∨ (0 < m' ∧ m' ≤ n ∧ numL b n = numL b m' ++ s')) → K (m' : Int) s') → ref03_Num_j1 (b : Int) (m : Int) s K := by
    intro m s K hm hs he hK
    refine ⟨by omega, ?_⟩
    have e1 : ((m : Int).tmod (b : Int)) = ((m % b : Nat) : Int) := by rw [Int.tmod_eq_emod_of_nonneg (by omega)]; rfl
    have e2 : ((m : Int).tdiv (b : Int)) = ((m / b : Nat) : Int) := by rw [Int.tdiv_eq_ediv_of_nonneg (by omega)]; rfl
    have hlt : m % b < 16 := Nat.lt_of_lt_of_le (Nat.mod_lt _ (by omega)) hb.2
    rw [e1, e2, u8w_nat (by omega)]
    have hd : m / b ≤ m := Nat.div_le_self _ _
    refine sign_ok hlt ⟨by simp only [List.length_cons, List.length_nil]; omega, (by unfold I64; have h0 : (0 : Int) ≤ ((m / b : Nat) : Int) := Int.natCast_nonneg _; have h1 : ((m / b : Nat) : Int) ≤ (m : Int) := Int.ofNat_le.2 hd; constructor <;> omega), hK _ _ (by omega) ?_ (List.cons_ne_nil _ _) ?_ ?_⟩
    · by_cases h0 : m = 0
      · exact .inr h0
      · exact .inl (Nat.div_lt_self (by omega) (by omega))
    · by_cases hmb : m < b
      · rw [numL_lt hmb] at he
        rw [Nat.mod_eq_of_lt hmb]
        have := congrArg List.length he
        simp only [List.length_append, List.length_cons, List.length_nil] at this ⊢; omega
      · rw [numL_ge (n := m) hb.1 (by omega)] at he
        have := congrArg List.length he
        have h2 := List.length_pos_iff.2 (numL_ne b (m / b))
        simp only [List.length_append, List.length_cons, List.length_nil] at this ⊢; omega
    · by_cases hmb : m < b
      · refine .inl ⟨Nat.div_eq_of_lt hmb, ?_⟩
        rw [he, numL_lt hmb, Nat.mod_eq_of_lt hmb]
      · refine .inr ⟨Nat.div_pos (by omega) (by omega), by omega, ?_⟩
        rw [he, numL_ge (n := m) hb.1 (by omega), List.append_assoc]
  rintro ⟨x, s⟩ hI
  simp only at hI ⊢
  unfold ref03_Num_l1
  rcases hI with hI | ⟨m, rfl, hs, hsl, hm⟩
  · injection hI with e1 e2
    subst e1 e2
    refine ⟨fun _ => step n [] _ (Nat.le_refl _) (by simp) (by simp) fun m' s' h1 h2 h3 h4 h5 => ⟨.inr ⟨m', rfl, h3, h4, h5⟩, ?_⟩, fun c => absurd rfl c⟩
    rw [if_neg h3, if_pos rfl]; omega
  · refine ⟨fun c => absurd c hs, fun _ => ⟨fun c => ?_, fun c => ?_⟩⟩
    · rcases hm with ⟨rfl, _⟩ | ⟨h0, h1, h2⟩
      · omega
      · refine step m s _ h1 hsl h2 fun m' s' h1 h2 h3 h4 h5 => ⟨.inr ⟨m', rfl, h3, h4, h5⟩, ?_⟩
        rw [if_neg h3, if_neg hs]
        rcases h2 with h2 | h2 <;> omega
    · rcases hm with ⟨rfl, rfl⟩ | ⟨h0, _⟩
      · exact h
      · omega
end Go.Wk
namespace Go.Wk
open Go.HL
abbrev Br := Int × Int
theorem nodup_le {α : Type} [DecidableEq α] : ∀ {l m : List α}, l.Nodup → (∀ x ∈ l, x ∈ m) → l.length ≤ m.length
  | [], _, _, _ => Nat.zero_le _
  | a :: l, m, hn, hs => by
    rw [List.nodup_cons] at hn
    have ha := hs a (by simp)
    have h1 := nodup_le (l := l) (m := m.erase a) hn.2 (fun x hx => (List.mem_erase_of_ne (by rintro rfl; exact hn.1 hx)).2 (hs x (by simp [hx])))
    rw [List.length_erase_of_mem ha] at h1
    have h2 : 0 < m.length := List.length_pos_of_mem ha
    simp only [List.length_cons]; omega
theorem nodup_full {α : Type} [DecidableEq α] {l m : List α} (hn : l.Nodup) (hs : ∀ x ∈ l, x ∈ m) (hl : m.length ≤ l.length) {x : α} (hx : x ∈ m) : x ∈ l := by
  refine Decidable.byContradiction fun hc => ?_
  have := nodup_le (l := x :: l) (m := m) (List.nodup_cons.2 ⟨hc, hn⟩) (fun y hy => by
    rcases List.mem_cons.1 hy with rfl | hy
    · exact hx
    · exact hs y hy)
  simp only [List.length_cons] at this; omega
theorem nodup_same {α : Type} [DecidableEq α] {l m : List α} (hl : l.Nodup) (hm : m.Nodup) (h : ∀ x, x ∈ l ↔ x ∈ m) : l.length = m.length :=
  Nat.le_antisymm (nodup_le hl fun x hx => (h x).1 hx) (nodup_le hm fun x hx => (h x).2 hx)
inductive Rch (L : List Br) (a : Int) : Int → Prop
  | refl : Rch L a a
  | step {x y : Int} (h : Rch L a x) (hl : (x, y) ∈ L) : Rch L a y
section
variable {L : List Br} {a b c x y : Int} {l m : List Int}
theorem Rch.trans (h : Rch L a b) (k : Rch L b c) : Rch L a c := by
  induction k with
  | refl => exact h
  | step _ hl ih => exact ih.step hl
theorem Rch.mono {M : List Br} (hs : ∀ e ∈ L, e ∈ M) (h : Rch L a b) : Rch M a b := by
  induction h with
  | refl => exact .refl
  | step _ hl ih => exact ih.step (hs _ hl)
theorem rch_closed (h0 : a ∈ l) (hc : ∀ e ∈ L, e.1 ∈ l → e.2 ∈ l) (h : Rch L a x) : x ∈ l := by
  induction h with
  | refl => exact h0
  | step _ hl ih => exact hc _ hl ih
theorem Rch.ends (h : Rch L a x) : x = a ∨ x ∈ L.map (·.2) := by
  cases h with
  | refl => exact .inl rfl
  | step _ hl => exact .inr (List.mem_map.2 ⟨_, hl, rfl⟩)
structure IsR (L : List Br) (a : Int) (l : List Int) : Prop where
  nd : l.Nodup
  mem : ∀ x, x ∈ l ↔ Rch L a x
theorem rch_len (hn : l.Nodup) (hs : ∀ x ∈ l, Rch L a x) : l.length ≤ L.length + 1 := by
  have := nodup_le (m := a :: L.map (·.2)) hn (fun x hx => by
    rcases (hs x hx).ends with rfl | h
    · simp
    · simp only [List.mem_cons]; exact .inr h)
  simpa using this
theorem IsR.of_closed (hn : l.Nodup) (h0 : a ∈ l) (hs : ∀ x ∈ l, Rch L a x) (hc : ∀ e ∈ L, e.1 ∈ l → e.2 ∈ l) : IsR L a l := ⟨hn, fun x => ⟨hs x, rch_closed h0 hc⟩⟩
theorem IsR.len_eq (h : IsR L a l) (k : IsR L a m) : l.length = m.length := nodup_same h.nd k.nd fun x => (h.mem x).trans (k.mem x).symm
theorem IsR.len_le (h : IsR L a l) : l.length ≤ L.length + 1 := rch_len h.nd fun x hx => (h.mem x).1 hx
def kids (L : List Br) (n : Int) : List Int := (L.filter fun e => decide (e.1 = n)).map (·.2)
theorem mem_kids : y ∈ kids L x ↔ (x, y) ∈ L := by
  unfold kids
  rw [List.mem_map]
  constructor
  · rintro ⟨⟨p, q⟩, h, rfl⟩
    rw [List.mem_filter] at h
    have := of_decide_eq_true h.2
    simp only at this; subst this; exact h.1
  · intro h; exact ⟨(x, y), List.mem_filter.2 ⟨h, by simp⟩, rfl⟩
theorem kids_snoc (L : List Br) (e : Br) (n : Int) : kids (L ++ [e]) n = if e.1 = n then kids L n ++ [e.2] else kids L n := by
  unfold kids; rw [List.filter_append, List.map_append]
  by_cases h : e.1 = n <;> simp [List.filter_cons, h]
theorem kids_len (L : List Br) (n : Int) : (kids L n).length ≤ L.length := by unfold kids; rw [List.length_map]; exact List.length_filter_le _ _
def blt (p q : Br) : Prop := p.1 < q.1 ∨ p.1 = q.1 ∧ p.2 < q.2
instance (p q : Br) : Decidable (blt p q) := inferInstanceAs (Decidable (_ ∨ _ ∧ _))
theorem blt_irr (p : Br) : ¬ blt p p := by unfold blt; omega
theorem blt_tr (p q r : Br) : blt p q → blt q r → blt p r := by unfold blt; omega
theorem blt_tot (p q : Br) : ¬ blt p q → ¬ blt q p → p = q := by
  unfold blt; intro h k; apply Prod.ext <;> omega
structure Gd0 (r : Int) (L : List Br) : Prop where
  root : ∀ e ∈ L, e.2 ≠ r
  ends : (L.map (·.2)).Nodup
  all : ∀ e ∈ L, Rch L r e.2
structure Gd (r : Int) (L : List Br) : Prop extends Gd0 r L where
  ris : L.Pairwise blt
  few : L.length < 256
theorem Gd0.nd {r : Int} (g : Gd0 r L) : (r :: L.map (·.2)).Nodup := List.nodup_cons.2 ⟨fun h => by obtain ⟨e, he, h⟩ := List.mem_map.1 h; exact g.root e he h, g.ends⟩
theorem Gd0.isR {r : Int} (g : Gd0 r L) : IsR L r (r :: L.map (·.2)) := ⟨g.nd, fun x => by
  rw [List.mem_cons]
  constructor
  · rintro (rfl | h)
    · exact .refl
    · obtain ⟨e, he, rfl⟩ := List.mem_map.1 h; exact g.all e he
  · exact Rch.ends⟩
theorem Gd0.of_len {r : Int} (hr : ∀ e ∈ L, e.2 ≠ r) (he : (L.map (·.2)).Nodup) (h : IsR L r l) (hl : l.length = L.length + 1) : Gd0 r L :=
  ⟨hr, he, fun e hm => (h.mem _).1 (nodup_full (m := r :: L.map (·.2)) h.nd (fun x hx => by
    rcases ((h.mem x).1 hx).ends with rfl | q
    · simp
    · exact List.mem_cons_of_mem _ q) (by simp [hl]) (List.mem_cons_of_mem _ (List.mem_map.2 ⟨e, hm, rfl⟩)))⟩
theorem Gd0.len {r : Int} (g : Gd0 r L) (h : IsR L r l) : l.length = L.length + 1 := by rw [h.len_eq g.isR]; simp
theorem Gd0.reach {r : Int} (g : Gd0 r L) : Rch L r x ↔ x = r ∨ x ∈ L.map (·.2) := by rw [← g.isR.mem x, List.mem_cons]
theorem nodup_map_inj {α β : Type} {f : α → β} : ∀ {l : List α}, (l.map f).Nodup → ∀ {x y}, x ∈ l → y ∈ l → f x = f y → x = y
  | [], _, _, _, h, _, _ => by cases h
  | a :: l, hn, x, y, hx, hy, e => by
    rw [List.map_cons, List.nodup_cons] at hn
    rcases List.mem_cons.1 hx with hx' | hx' <;> rcases List.mem_cons.1 hy with hy' | hy'
    · rw [hx', hy']
    · rw [← hx'] at hn; exact (hn.1 (List.mem_map.2 ⟨y, hy', e.symm⟩)).elim
    · rw [← hy'] at hn; exact (hn.1 (List.mem_map.2 ⟨x, hx', e⟩)).elim
    · exact nodup_map_inj hn.2 hx' hy' e
theorem Gd0.one {r : Int} (g : Gd0 r L) (h : (x, y) ∈ L) (k : (b, y) ∈ L) : x = b := congrArg Prod.fst (nodup_map_inj g.ends h k rfl)
theorem Gd0.from_ {r : Int} (g : Gd0 r L) (h : (x, y) ∈ L) : Rch L r x := by
  have hr := g.all _ h
  generalize hz : (x, y).2 = z at hr
  cases hr with
  | refl => exact absurd hz (g.root _ h)
  | step hx hl => rw [← hz] at hl; rw [g.one h hl]; exact hx
theorem Gd0.perm {r : Int} {M : List Br} (g : Gd0 r L) (hp : M.Perm L) : Gd0 r M :=
  ⟨fun e he => g.root e (hp.mem_iff.1 he), (hp.map _).nodup_iff.2 g.ends, fun e he => (g.all e (hp.mem_iff.1 he)).mono fun e he => hp.mem_iff.2 he⟩
theorem Gd0.ne {r : Int} (g : Gd0 r L) (h : (x, y) ∈ L) : x ≠ y := by
  rintro rfl
  have key : ∀ z, Rch L r z → z ≠ x := by
    intro z hz
    induction hz with
    | refl => intro e; exact g.root _ h e.symm
    | step hx hl ih => intro e; subst e; exact ih (g.one hl h)
  exact key x (g.from_ h) rfl
inductive Pth (L : List Br) (r : Int) : Int → List Int → Prop
  | root : Pth L r r [r]
  | step {x y : Int} {p : List Int} (h : Pth L r x p) (hl : (x, y) ∈ L) : Pth L r y (p ++ [y])
theorem Pth.rch {r : Int} {p : List Int} (h : Pth L r x p) : Rch L r x := by
  induction h with
  | root => exact .refl
  | step _ hl ih => exact ih.step hl
theorem Rch.pth {r : Int} (h : Rch L r x) : ∃ p, Pth L r x p := by
  induction h with
  | refl => exact ⟨_, .root⟩
  | step _ hl ih => obtain ⟨p, hp⟩ := ih; exact ⟨_, hp.step hl⟩
theorem Pth.uniq {r : Int} (g : Gd0 r L) {p q : List Int} (h : Pth L r x p) : Pth L r x q → p = q := by
  induction h generalizing q with
  | root =>
    intro k
    generalize hz : r = z at k
    cases k with
    | root => subst hz; rfl
    | step _ hl => exact absurd hz.symm (by have := g.root _ hl; simpa using this)
  | @step x y p h hl ih =>
    intro k
    cases k with
    | root => exact absurd rfl (g.root _ hl)
    | @step x' _ p' h' hl' =>
      have e := g.one hl hl'; subst e
      rw [ih h']
theorem Pth.pre {r : Int} {p : List Int} (h : Pth L r x p) : ∀ (i : Nat) (hi : i < p.length), Pth L r p[i] (p.take (i + 1)) := by
  induction h with
  | root => intro i hi; simp only [List.length_singleton] at hi; obtain rfl : i = 0 := by omega
            exact .root
  | @step x y p h hl ih =>
    intro i hi
    rw [List.length_append, List.length_singleton] at hi
    by_cases e : i < p.length
    · rw [List.getElem_append_left e, List.take_append_of_le_length (by omega)]; exact ih i e
    · obtain rfl : i = p.length := by omega
      rw [List.getElem_append_right (Nat.le_refl _), List.take_of_length_le (by simp)]
      simp only [Nat.sub_self, List.getElem_singleton]
      exact h.step hl
theorem Pth.nd {r : Int} (g : Gd0 r L) {p : List Int} (h : Pth L r x p) : p.Nodup := by
  refine List.pairwise_iff_getElem.2 fun i j hi hj hij e => ?_
  have h1 := h.pre i (by omega); have h2 := h.pre j hj
  rw [← e] at h2
  have := congrArg List.length (h1.uniq g h2)
  simp only [List.length_take] at this; omega
theorem Pth.len {r : Int} (g : Gd0 r L) {p : List Int} (h : Pth L r x p) : p.length ≤ L.length + 1 :=
  rch_len (h.nd g) fun y hy => by
    obtain ⟨i, hi, rfl⟩ := List.mem_iff_getElem.1 hy
    exact (h.pre i hi).rch
end
end Go.Wk
namespace Go.Wk
open Go.HL
variable [DM]
def ci (x y : Int) : Int := if x < y then -1 else if y < x then 1 else 0
def cb (a b : Br) : Int := if ci a.1 b.1 = 0 then ci a.2 b.2 else ci a.1 b.1
theorem isNaN_ok {x : Int} {Q : Bool → Prop} (h : Q false) : cmp_isNaN_int_W x Q := by unfold cmp_isNaN_int_W; simpa using h
theorem compare_ok {x y : Int} {Q : Int → Prop} (h : Q (ci x y)) : cmp_Compare_int_W x y Q := by
  refine isNaN_ok (isNaN_ok ⟨fun c => by simp at c, fun _ => ⟨fun c => by simp at c, fun _ => ⟨fun c => ?_, fun c => ⟨fun d => ?_, fun d => ?_⟩⟩⟩⟩)
  · rwa [ci, if_pos c] at h
  · rwa [ci, if_neg c, if_pos d] at h
  · rwa [ci, if_neg c, if_neg d] at h
theorem or_ok {a b : Int} {Q : Int → Prop} (h : Q (if a = 0 then b else a)) : cmp_Or_int_W [a, b] Q := by
  refine loop_up1 2 (fun i => (1 ≤ i → a = 0) ∧ (2 ≤ i → b = 0)) ⟨by omega, by omega⟩ fun K i hi hI hK => ?_
  unfold cmp_Or_int_l1
  simp only [List.length_cons, List.length_nil]
  refine ⟨fun c => ⟨by omega, fun d => ?_, fun d => ⟨by unfold I64; omega, ?_⟩⟩, fun c => ?_⟩
  · rcases (show i = 0 ∨ i = 1 by omega) with rfl | rfl
    · have e : gi [a, b] ((0 : Nat) : Int) = a := rfl
      rw [e] at d ⊢; rwa [if_neg d] at h
    · have e : gi [a, b] ((1 : Nat) : Int) = b := rfl
      rw [e]; rwa [if_pos (hI.1 (Nat.le_refl _))] at h
  · refine hK (i + 1) (by omega) (by omega) ?_
    rcases (show i = 0 ∨ i = 1 by omega) with rfl | rfl
    · have e : gi [a, b] ((0 : Nat) : Int) = a := rfl
      rw [e] at d; exact ⟨fun _ => d, by omega⟩
    · have e : gi [a, b] ((1 : Nat) : Int) = b := rfl
      rw [e] at d; exact ⟨fun _ => hI.1 (Nat.le_refl _), fun _ => d⟩
  · have : i = 2 := by omega
    subst this
    rwa [if_pos (hI.1 (by omega)), hI.2 (Nat.le_refl _)] at h
theorem order_ok {a b : Br} {Q : Int → Prop} (h : Q (cb a b)) : tree_order_W a b Q := compare_ok (compare_ok (or_ok h))
theorem cb_lt (a b : Br) : cb a b < 0 ↔ blt a b := by
  unfold cb ci blt
  split <;> split <;> (try split) <;> (try split) <;> omega
theorem swo_cb : Swo cb where
  irrefl a := by
    have := blt_irr a; rw [← cb_lt] at this; simpa [Go.Proofs.ltOf] using this
  trans a b c h k := by
    simp only [Go.Proofs.ltOf, decide_eq_true_eq, cb_lt] at *
    exact blt_tr _ _ _ h k
  ntrans a b c h k := by
    simp only [Go.Proofs.ltOf, decide_eq_false_iff_not, cb_lt] at *
    unfold blt at *; omega
theorem sorted_uniq : ∀ {l m : List Br}, l.Perm m → (l.Pairwise fun x y => ¬ blt y x) → (m.Pairwise fun x y => ¬ blt y x) → l = m
  | [], m, hp, _, _ => (List.nil_perm.1 hp).symm
  | a :: l, [], hp, _, _ => by have := hp.length_eq; simp at this
  | a :: l, b :: m, hp, hl, hm => by
    rw [List.pairwise_cons] at hl hm
    have ha : a = b ∨ ¬ blt a b := by
      rcases List.mem_cons.1 (hp.mem_iff.1 (List.mem_cons_self ..)) with e | e
      · exact .inl e
      · exact .inr (hm.1 a e)
    have hb : b = a ∨ ¬ blt b a := by
      rcases List.mem_cons.1 (hp.mem_iff.2 (List.mem_cons_self ..)) with e | e
      · exact .inl e
      · exact .inr (hl.1 b e)
    have e : a = b := by
      rcases ha with e | h1
      · exact e
      · rcases hb with e | h2
        · exact e.symm
        · exact blt_tot _ _ h1 h2
    subst e
    rw [sorted_uniq (List.perm_cons a |>.1 hp) hl.2 hm.2]
theorem blt_weak {l : List Br} (h : l.Pairwise blt) : l.Pairwise fun x y => ¬ blt y x := h.imp fun {a b} h k => blt_irr _ (blt_tr _ _ _ h k)
theorem blt_strict {l : List Br} (h : l.Pairwise fun x y => ¬ blt y x) (hn : l.Nodup) : l.Pairwise blt := by
  have := List.Pairwise.and h hn
  refine this.imp fun {a b} ⟨h1, h2⟩ => ?_
  exact Decidable.byContradiction fun c => h2 (blt_tot _ _ c h1)
structure BagNx (L : List Br) (out : List (Int × Value × List Int)) : Prop where
  nd : (out.map Prod.fst).Nodup
  at_ : ∀ k, (bagAt out k).2 = kids L k
  keys : ∀ k, k ∈ out.map Prod.fst ↔ kids L k ≠ []
theorem bagAt_mset (m : List (Int × Value × List Int)) (k k' : Int) (x : Value × List Int) : bagAt (mset m k x) k' = if k' = k then x else bagAt m k' := by
  unfold bagAt; rw [mget_mset]; split <;> rfl
theorem BagNx.add {L : List Br} {out : List (Int × Value × List Int)} (h : BagNx L out) (e : Br) (v : Value) : BagNx (L ++ [e]) (mset out e.1 (v, (bagAt out e.1).2 ++ [e.2])) := by
  refine ⟨nodup_mset h.nd _ _, fun k => ?_, fun k => ?_⟩
  · rw [bagAt_mset, kids_snoc]
    by_cases c : k = e.1
    · subst c; rw [if_pos rfl, if_pos rfl, h.at_]
    · rw [if_neg c, if_neg (fun q => c q.symm), h.at_]
  · rw [keys_mset, kids_snoc]
    by_cases c : e.1 = k
    · subst c; rw [if_pos rfl]
      split
      · rename_i q; simp [q]
      · simp
    · rw [if_neg c]
      split
      · exact h.keys k
      · rw [List.mem_append, List.mem_singleton, h.keys k]
        constructor
        · rintro (q | q)
          · exact q
          · exact absurd q.symm c
        · exact .inl
theorem BagNx.ent {L : List Br} {out : List (Int × Value × List Int)} (h : BagNx L out) {p : Int × Value × List Int} (hp : p ∈ out) : p.2.2 = kids L p.1 := by
  have := (mem_iff_mget h.nd p.1 p.2).1 hp
  rw [← h.at_ p.1]; unfold bagAt; rw [this]; rfl
theorem nexts_ok {r : Int} {L : List Br} {Q : List (Int × Value × List Int) → Prop} (hl : L.length ≤ 100000) (h : ∀ out, BagNx L out → Q out) : tree_nexts_W r L Q := by
  refine loop_up L.length (fun i s => BagNx (L.take i) s) ⟨by simp, fun k => rfl, fun k => by simp [kids]⟩ fun K i s hi hI hK => ?_
  unfold tree_nexts_l1
  refine ⟨fun c => ?_, fun c => ?_⟩
  · have hlt : i < L.length := by omega
    have hk := kids_len (L.take i) (gi L (i : Int)).1
    rw [List.length_take] at hk
    refine ⟨by omega, ?_, fun v => ⟨by unfold I64; omega, hK (i + 1) _ (by omega) hlt ?_⟩⟩
    · rw [hI.at_]; simp only [List.length_cons, List.length_nil]; omega
    · rw [List.take_succ_eq_append_getElem hlt, gi_nat hlt]; exact hI.add _ v
  · have : i = L.length := by omega
    subst this; rw [List.take_length] at hI; exact h _ hI
structure WI (L : List Br) (a : Int) (i : Nat) (seen : List (Int × Int)) (out : List Int) : Prop where
  seen : ∀ x, mget0 seen x = 0 ↔ x ∉ out
  nd : out.Nodup
  fst : out[0]? = some a
  rch : ∀ x ∈ out, Rch L a x
  pre : ∀ (j : Nat) (y : Int), 0 < j → out[j]? = some y → ∃ k x, k < j ∧ out[k]? = some x ∧ (x, y) ∈ L
  cls : ∀ (j : Nat) (x : Int), j < i → out[j]? = some x → ∀ y, (x, y) ∈ L → y ∈ out
theorem WI.add {L : List Br} {a x y : Int} {i k : Nat} {seen : List (Int × Int)} {out : List Int} (w : WI L a i seen out) (hx : out[k]? = some x) (hl : (x, y) ∈ L) (hy : y ∉ out) (hi : i ≤ out.length) : WI L a i (mset seen y 1) (out ++ [y]) := by
  have hk : k < out.length := (List.getElem?_eq_some_iff.1 hx).1
  have mem : x ∈ out := List.mem_of_getElem? hx
  refine ⟨fun z => ?_, ?_, ?_, fun z hz => ?_, fun j z hj hz => ?_, fun j z hj hz u hu => ?_⟩
  · rw [mget0_mset, List.mem_append, List.mem_singleton]
    split
    · rename_i e; subst e; simp
    · rename_i e; rw [w.seen]; simp [e]
  · rw [List.nodup_append]; exact ⟨w.nd, by simp, fun p hp q hq => by rw [List.mem_singleton] at hq; subst hq; rintro rfl; exact hy hp⟩
  · rw [List.getElem?_append_left (by omega)]; exact w.fst
  · rcases List.mem_append.1 hz with hz | hz
    · exact w.rch z hz
    · rw [List.mem_singleton] at hz; subst hz; exact (w.rch x mem).step hl
  · by_cases c : j < out.length
    · rw [List.getElem?_append_left c] at hz
      obtain ⟨k', x', h1, h2, h3⟩ := w.pre j z hj hz
      exact ⟨k', x', h1, by rw [List.getElem?_append_left (by omega)]; exact h2, h3⟩
    · have hj2 : j = out.length := by
        have := (List.getElem?_eq_some_iff.1 hz).1; simp at this; omega
      subst hj2
      rw [List.getElem?_append_right (Nat.le_refl _)] at hz
      simp at hz; subst hz
      exact ⟨k, x, hk, by rw [List.getElem?_append_left hk]; exact hx, hl⟩
  · rw [List.getElem?_append_left (by omega)] at hz
    exact List.mem_append_left _ (w.cls j z hj hz u hu)
structure WalkIs (L : List Br) (a : Int) (out : List Int) : Prop extends IsR L a out where
  fst : out[0]? = some a
  pre : ∀ (j : Nat) (y : Int), 0 < j → out[j]? = some y → ∃ k x, k < j ∧ out[k]? = some x ∧ (x, y) ∈ L
theorem walk_ok {r a : Int} {L : List Br} {Q : List Int → Prop} (hl : L.length ≤ 100000) (h : ∀ out, WalkIs L a out → Q out) : tree_walk_W r L a Q := by
  refine nexts_ok hl fun nx hnx => ?_
  refine loop_by (fun s => s.2.2) (L.length + 1) (fun i s => WI L a i s.1 s.2.1 ∧ i ≤ s.2.1.length) rfl ?_ ?_
  · refine ⟨⟨fun x => ?_, by simp, rfl, fun x hx => ?_, fun j y hj hy => ?_, by omega⟩, by simp⟩
    · rw [mget0_mset]; by_cases c : x = a
      · simp [c]
      · simp [c, mget0, mget]
    · rw [List.mem_singleton] at hx; subst hx; exact .refl
    · have := (List.getElem?_eq_some_iff.1 hy).1; simp at this; omega
  rintro K i ⟨seen, out, _⟩ rfl hi ⟨w, hio⟩ hK
  simp only at w hio hi
  show tree_walk_l1 _ _ _ seen out (i : Int)
  unfold tree_walk_l1
  have hlen := rch_len w.nd w.rch
  refine ⟨fun c => ⟨by omega, ?_⟩, fun c => ?_⟩
  · have hlt : i < out.length := by omega
    obtain ⟨x, hx⟩ : ∃ x, out[i]? = some x := ⟨_, List.getElem?_eq_getElem hlt⟩
    have hkl := kids_len L x
    refine loop_by (fun s => s.2.2) (kids L x).length (fun n s => WI L a i s.1 s.2.1 ∧ i < s.2.1.length ∧ s.2.1[i]? = some x ∧ ∀ j (hj : j < (kids L x).length), j < n → (kids L x)[j] ∈ s.2.1) rfl ⟨w, hlt, hx, by omega⟩ ?_
    rintro K2 n ⟨seen2, out2, _⟩ rfl hn ⟨w2, hl2, hx2, hd2⟩ hK2
    simp only at w2 hl2 hx2 hd2 hn
    show tree_walk_l2 _ _ _ _ _ seen2 out2 (n : Int)
    unfold tree_walk_l2
    rw [show gi out ((i : Nat) : Int) = x by rw [gi_nat hlt]; exact (List.getElem?_eq_some_iff.1 hx).2]
    simp only [hnx.at_]
    have hlen2 := rch_len w2.nd w2.rch
    refine ⟨fun c2 => ?_, fun c2 => ?_⟩
    · have hn2 : n < (kids L x).length := by omega
      rw [gi_nat hn2]
      have hmem : (x, (kids L x)[n]) ∈ L := mem_kids.1 (List.getElem_mem hn2)
      refine ⟨by omega, fun d => ⟨by simp only [List.length_cons, List.length_nil]; omega, by unfold I64; omega, ?_⟩, fun d => ⟨by unfold I64; omega, ?_⟩⟩
      · refine hK2 (n + 1) _ rfl (by omega) hn2 ⟨w2.add hx2 hmem ((w2.seen _).1 d) (by omega), by simp; omega, ?_, fun j hj hjn => ?_⟩
        · rw [List.getElem?_append_left hl2]; exact hx2
        · by_cases e : j = n
          · subst e; simp
          · exact List.mem_append_left _ (hd2 j hj (by omega))
      · refine hK2 (n + 1) _ rfl (by omega) hn2 ⟨w2, hl2, hx2, fun j hj hjn => ?_⟩
        by_cases e : j = n
        · subst e; exact Decidable.byContradiction fun q => d ((w2.seen _).2 q)
        · exact hd2 j hj (by omega)
    · have hn2 : n = (kids L x).length := by omega
      refine ⟨by unfold I64; omega, hK (i + 1) _ rfl (by omega) (by omega) ⟨⟨w2.seen, w2.nd, w2.fst, w2.rch, w2.pre, fun j z hj hz u hu => ?_⟩, by simp only; omega⟩⟩
      by_cases e : j = i
      · subst e; rw [hx2] at hz; injection hz with hz; subst hz
        obtain ⟨m, hm, rfl⟩ := List.mem_iff_getElem.1 (mem_kids.2 hu)
        exact hd2 m hm (by omega)
      · exact w2.cls j z (by omega) hz u hu
  · have hi2 : i = out.length := by omega
    refine h out { toIsR := IsR.of_closed w.nd (List.mem_of_getElem? w.fst) w.rch fun e he hm => ?_, fst := w.fst, pre := w.pre }
    obtain ⟨j, hj, hj2⟩ := List.mem_iff_getElem.1 hm
    exact w.cls j e.1 (by omega) (by rw [List.getElem?_eq_getElem hj, hj2]) e.2 he
theorem nodup_of_len {α : Type} [DecidableEq α] : ∀ {m l : List α}, l.Nodup → (∀ x ∈ l, x ∈ m) → m.length ≤ l.length → m.Nodup
  | [], _, _, _, _ => by simp
  | a :: m, l, hn, hs, hl => by
    have ha : a ∉ m := by
      intro q
      have := nodup_le (m := m) hn (fun x hx => by
        rcases List.mem_cons.1 (hs x hx) with rfl | h
        · exact q
        · exact h)
      simp only [List.length_cons] at hl; omega
    have hal : a ∈ l := nodup_full hn hs hl (List.mem_cons_self ..)
    refine List.nodup_cons.2 ⟨ha, nodup_of_len (l := l.erase a) (hn.erase a) (fun x hx => ?_) ?_⟩
    · have h1 := (hn.mem_erase_iff).1 hx
      rcases List.mem_cons.1 (hs x h1.2) with e | h
      · exact absurd e h1.1
      · exact h
    · rw [List.length_erase_of_mem hal]; simp only [List.length_cons] at hl; omega
theorem pw_snoc {α : Type} {R : α → α → Prop} (tr : ∀ a b c, R a b → R b c → R a c) {l : List α} {x : α} (h : l.Pairwise R) (hx : ∀ y, l.getLast? = some y → R y x) : (l ++ [x]).Pairwise R := by
  rw [List.pairwise_append]
  refine ⟨h, by simp, fun a ha b hb => ?_⟩
  rw [List.mem_singleton] at hb; subst hb
  rcases List.eq_nil_or_concat l with rfl | ⟨m, y, rfl⟩
  · cases ha
  · rw [List.concat_eq_append] at h ha hx
    have hy := hx y (by simp)
    rcases List.mem_append.1 ha with ha | ha
    · exact tr _ _ _ ((List.pairwise_append.1 h).2.2 a ha y (by simp)) hy
    · rw [List.mem_singleton] at ha; subst ha; exact hy
structure GI (r : Int) (L : List Br) (i : Nat) (into : List (Int × Int)) : Prop where
  nd : (into.map Prod.fst).Nodup
  mem : ∀ x, x ∈ into.map Prod.fst ↔ x ∈ (L.take i).map (·.2)
  cnt : ∀ x, 0 ≤ mget0 into x ∧ mget0 into x ≤ i
  root : ∀ e ∈ L.take i, e.2 ≠ r
  ris : (L.take i).Pairwise blt
theorem good_ok {r : Int} {L : List Br} {Q : Bool → Prop} (hl : L.length ≤ 100000) (h : ∀ b : Bool, (b = true ↔ Gd r L) → Q b) : tree_good_W r L Q := by
  have no : ¬ Gd r L → Q false := fun c => h false ⟨(fun q => by cases q), fun q => absurd q c⟩
  refine loop_up L.length (fun i s => GI r L i s) ⟨by simp, by simp, fun x => ⟨by simp [mget0, mget], by simp [mget0, mget]⟩, by simp, by simp⟩ fun K i into hi g hK => ?_
  show tree_good_l1 _ _ _ _ into (i : Int)
  unfold tree_good_l1
  have j1 : ∀ b : Bool, i < L.length → (b = true → ¬ Gd r L) → (b = false → (gi L (i : Int)).2 ≠ r ∧ ∀ y, (L.take i).getLast? = some y → blt y (gi L (i : Int))) → tree_good_j1 L Q into (i : Int) (fun into_1 n_1 => K (into_1, n_1)) b := by
    intro b hlt hb1 hb2
    refine ⟨fun c => no (hb1 c), fun c => ?_⟩
    obtain ⟨h1, h2⟩ := hb2 c
    have hc := g.cnt (gi L (i : Int)).2
    refine ⟨by unfold I64; omega, by unfold I64; omega, hK (i + 1) _ (by omega) hlt ?_⟩
    have ht : L.take (i + 1) = L.take i ++ [gi L (i : Int)] := by rw [List.take_succ_eq_append_getElem hlt, gi_nat hlt]
    refine ⟨nodup_mset g.nd _ _, fun x => ?_, fun x => ?_, fun e he => ?_, ?_⟩
    · rw [keys_mset, ht, List.map_append, List.mem_append, ← g.mem x]
      split
      · rename_i q
        simp only [List.map_cons, List.map_nil, List.mem_singleton]
        constructor
        · exact .inl
        · rintro (p | rfl)
          · exact p
          · exact q
      · rw [List.mem_append]; simp
    · rw [mget0_mset]; split
      · omega
      · have := g.cnt x; omega
    · rw [ht] at he
      rcases List.mem_append.1 he with he | he
      · exact g.root e he
      · rw [List.mem_singleton] at he; subst he; exact h1
    · rw [ht]; exact pw_snoc blt_tr g.ris h2
  refine ⟨fun c => ?_, fun c => ?_⟩
  · have hlt : i < L.length := by omega
    refine ⟨by omega, fun d => j1 true hlt (fun _ q => q.root _ (by rw [gi_nat hlt]; exact List.getElem_mem hlt) d) (fun q => by cases q), fun d => ⟨fun e => ⟨by unfold I64; omega, by omega, order_ok ?_⟩, fun e => ?_⟩⟩
    · have hi1 : i - 1 < L.length := by omega
      have e1 : gi L ((i : Int) - 1) = L[i - 1] := by rw [show (i : Int) - 1 = ((i - 1 : Nat) : Int) by omega, gi_nat hi1]
      rw [e1]
      refine j1 _ hlt (fun q => ?_) (fun q => ⟨d, fun y hy => ?_⟩)
      · intro gd
        have h1 := List.pairwise_iff_getElem.1 gd.ris (i - 1) i hi1 hlt (by omega)
        have h2 := (cb_lt L[i - 1] (gi L (i : Int))).2 (by rw [gi_nat hlt]; exact h1)
        simp only [decide_eq_true_eq] at q; omega
      · rw [last_take (by omega) (by omega)] at hy; injection hy with hy; subst hy
        simp only [decide_eq_false_iff_not] at q
        exact (cb_lt _ _).1 (by omega)
    · have : i = 0 := by omega
      subst this
      exact j1 _ hlt (fun q => by cases q) (fun _ => ⟨d, fun y hy => by simp at hy⟩)
  · have hi2 : i = L.length := by omega
    subst hi2
    have gm := g.mem; have gr := g.root; have gs := g.ris
    rw [List.take_length] at gm gr gs
    refine ⟨fun c2 => ⟨fun c3 => ⟨by unfold I64; omega, walk_ok hl fun out w => h _ ?_⟩, fun c3 => no fun gd => c3 ?_⟩, fun c2 => no fun gd => c2 (by have := gd.few; omega)⟩
    · have hnd : (L.map (·.2)).Nodup := nodup_of_len g.nd (fun x hx => (gm x).1 hx) (by simp only [List.length_map]; omega)
      rw [decide_eq_true_eq]
      constructor
      · intro e
        exact { toGd0 := Gd0.of_len gr hnd w.toIsR (by omega), ris := gs, few := by omega }
      · intro gd
        have := gd.toGd0.len w.toIsR; omega
    · have := nodup_same g.nd gd.ends gm
      simp only [List.length_map] at this; omega
theorem of_ok {r : Int} {l : List Br} {Q : Int → List Br → Int → Prop} (hl : l.length < 256) (h : ∀ L, L.Perm l → (L.Pairwise fun x y => ¬ blt y x) → (Gd r L → Q r L 0) ∧ (¬ Gd r L → Q 0 [] 2)) : tree_Of_W r l Q := by
  refine ⟨fun c => by omega, fun _ => ⟨cb, fun a b => order_ok rfl, by omega, swo_cb, by omega, fun L hp hs => ?_⟩⟩
  have hs' : L.Pairwise fun x y => ¬ blt y x := hs.imp fun {a b} q => by rw [← cb_lt]; exact q
  obtain ⟨h1, h2⟩ := h L hp hs'
  have hln := hp.length_eq
  refine good_ok (by omega) fun b hb => ⟨fun c => h2 fun g => ?_, fun c => h1 (hb.1 ?_)⟩
  · have := hb.2 g; rw [this] at c; cases c
  · simpa using c
end Go.Wk
namespace Go.Wk
open Go.HL
variable [DM]
theorem u8b {x : Int} (h : IntKind.min .u8 ≤ x ∧ x ≤ IntKind.max .u8) : 0 ≤ x ∧ x < 256 := ⟨h.1, Int.lt_of_le_of_lt h.2 (by decide)⟩
def NeedIs (m f k : Nat) : Prop := m ≤ f + k * (f - 1) ∧ ∀ j, j < k → f + j * (f - 1) < m
theorem NeedIs.uniq {m f k k' : Nat} (h : NeedIs m f k) (h' : NeedIs m f k') : k = k' := by
  rcases Nat.lt_trichotomy k k' with e | e | e
  · have := h'.2 k e; have := h.1; omega
  · exact e
  · have := h.2 k' e; have := h'.1; omega
theorem NeedIs.le {m f k : Nat} (h : NeedIs m f k) : k ≤ m := by
  rcases Nat.eq_zero_or_pos k with rfl | hk
  · omega
  · have h1 := h.2 (k - 1) (by omega)
    have h0 := h.1
    by_cases c : f - 1 = 0
    · rw [c] at h1 h0; omega
    · have : (k - 1) * 1 ≤ (k - 1) * (f - 1) := Nat.mul_le_mul_left _ (by omega)
      omega
theorem need_ok {m f : Nat} {Q : Int → Bool → Prop} (hm : m ≤ 100000) (hf : 1 ≤ f ∧ f ≤ 1000) (h1 : ∀ k : Nat, NeedIs m f k → Q (k : Int) true) (h2 : (∀ k, f + k * (f - 1) < m) → Q 0 false) : plan_need_W (m : Int) (f : Int) Q := by
  refine ⟨fun c => h1 0 ⟨by omega, by omega⟩, fun c => ⟨fun d => h2 fun k => ?_, fun d => ?_⟩⟩
  · have : f - 1 = 0 := by omega
    rw [this]; omega
  · have e1 : ((m : Int) - (f : Int) + (f : Int) - 2) = ((m - 2 : Nat) : Int) := by omega
    have e2 : ((f : Int) - 1) = ((f - 1 : Nat) : Int) := by omega
    have e3 : (((m - 2 : Nat) : Int).tdiv ((f - 1 : Nat) : Int)) = (((m - 2) / (f - 1) : Nat) : Int) := by rw [Int.tdiv_eq_ediv_of_nonneg (by omega)]; rfl
    have hq := Nat.div_le_self (m - 2) (f - 1)
    have h5 := Nat.lt_mul_div_succ (m - 2) (show 0 < f - 1 by omega)
    have h4 := Nat.div_mul_le_self (m - 2) (f - 1)
    refine ⟨by unfold I64; omega, by unfold I64; omega, by unfold I64; omega, by unfold I64; omega, by omega, ?_⟩
    rw [e1, e2, e3]
    generalize (m - 2) / (f - 1) = k at *
    refine ⟨by unfold I64; omega, h1 _ ⟨?_, fun j hj => ?_⟩⟩
    · rw [Nat.mul_add, Nat.mul_one, Nat.mul_comm] at h5
      omega
    · have h3 : (j + 1) * (f - 1) ≤ k * (f - 1) := Nat.mul_le_mul_right _ hj
      rw [Nat.add_mul, Nat.one_mul] at h3
      omega
theorem fits_ok {m s f : Nat} {Q : Bool → Prop} (hm : m ≤ 100000) (hf : 1 ≤ f ∧ f ≤ 1000) (h1 : ∀ k : Nat, NeedIs m f k → Q (decide (k ≤ s))) (h2 : (∀ k, f + k * (f - 1) < m) → Q false) : plan_fits_W (m : Int) (s : Int) (f : Int) Q := by
  refine need_ok hm hf (fun k hk => ⟨fun _ => ?_, fun c => by cases c⟩) (fun hk => ⟨(fun c => by cases c), fun _ => h2 hk⟩)
  have : decide ((k : Int) ≤ (s : Int)) = decide (k ≤ s) := by rw [decide_eq_decide]; omega
  rw [this]; exact h1 k hk
theorem refNeed_ok {m f : Nat} {Q : Int → Prop} (hm : m ≤ 400) (hf : 1 ≤ f ∧ f ≤ 1000) (h1 : ∀ k : Nat, NeedIs m f k → Q (k : Int)) (h2 : (∀ k, f + k * (f - 1) < m) → Q (-1)) : ref33_Need_W (m : Int) (f : Int) Q := by
  refine loop_up1 401 (fun k => ∀ j, j < k → f + j * (f - 1) < m) (by omega) fun K k hk hI hK => ?_
  unfold ref33_Need_l1
  have e2 : ((f : Int) - 1) = ((f - 1 : Nat) : Int) := by omega
  have e3 : (k : Int) * ((f - 1 : Nat) : Int) = ((k * (f - 1) : Nat) : Int) := by rw [Int.natCast_mul]
  have hb : k * (f - 1) ≤ 401 * 1000 := Nat.mul_le_mul hk (by omega)
  rw [e2, e3]
  refine ⟨fun c => ⟨by unfold I64; omega, by unfold I64; omega, by unfold I64; omega, fun d => h1 k ⟨by omega, hI⟩, fun d => ⟨by unfold I64; omega, hK (k + 1) (by omega) (by omega) fun j hj => ?_⟩⟩, fun c => ?_⟩
  · by_cases e : j = k
    · subst e; omega
    · exact hI j (by omega)
  · refine h2 fun j => ?_
    have := hI 400 (by omega)
    have : f - 1 = 0 := by omega
    rw [this]; omega
theorem flat_take_len {α β : Type} (g : α → List β) (l : List α) (i : Nat) : ((l.take i).flatMap g).length ≤ (l.flatMap g).length := by
  conv => rhs; rw [← List.take_append_drop i l, List.flatMap_append, List.length_append]
  omega
theorem concat_ok {l : List T_s_int} {Q : List Int → Prop} (hl : l.length ≤ 100000) (hn : (l.flatMap (·.2)).length ≤ 100000) (h : Q (l.flatMap (·.2))) : slices_Concat_s_int_int_W l Q := by
  refine loop_up l.length (fun i s => s = (((l.take i).flatMap (·.2)).length : Int)) (by simp) fun K i s hi hs hK => ?_
  have hb := flat_take_len (fun x : T_s_int => x.2) l i
  show slices_Concat_s_int_int_l1 _ _ _ s (i : Int)
  unfold slices_Concat_s_int_int_l1
  refine ⟨fun c => ?_, fun c => ?_⟩
  · have hlt : i < l.length := by omega
    have hb2 := flat_take_len (fun x : T_s_int => x.2) l (i + 1)
    rw [List.take_succ_eq_append_getElem hlt, List.flatMap_append, List.length_append] at hb2
    simp only [List.flatMap_cons, List.flatMap_nil, List.append_nil] at hb2
    rw [gi_nat hlt, hs]
    refine ⟨by omega, by unfold I64; omega, fun c => by omega, fun _ => ⟨by unfold I64; omega, hK (i + 1) _ (by omega) hlt ?_⟩⟩
    rw [List.take_succ_eq_append_getElem hlt, List.flatMap_append, List.length_append]
    simp only [List.flatMap_cons, List.flatMap_nil, List.append_nil]; omega
  · have : i = l.length := by omega
    subst this
    rw [List.take_length] at hs hb
    refine ⟨by omega, ?_⟩
    refine loop_up l.length (fun i s => s = (l.take i).flatMap (·.2)) (by simp) fun K i s hi hs hK => ?_
    have hb := flat_take_len (fun x : T_s_int => x.2) l i
    show slices_Concat_s_int_int_l2 _ _ _ s (i : Int)
    unfold slices_Concat_s_int_int_l2
    refine ⟨fun c => ?_, fun c => ?_⟩
    · have hlt : i < l.length := by omega
      have hb2 := flat_take_len (fun x : T_s_int => x.2) l (i + 1)
      rw [List.take_succ_eq_append_getElem hlt, List.flatMap_append, List.length_append] at hb2
      simp only [List.flatMap_cons, List.flatMap_nil, List.append_nil] at hb2
      rw [gi_nat hlt, hs]
      refine ⟨by omega, by omega, by unfold I64; omega, hK (i + 1) _ (by omega) hlt ?_⟩
      rw [List.take_succ_eq_append_getElem hlt, List.flatMap_append]
      simp only [List.flatMap_cons, List.flatMap_nil, List.append_nil]
    · have : i = l.length := by omega
      subst this; rw [List.take_length] at hs; rw [hs]; exact h
theorem star_ok {r : Int} {ms : List Int} {Q : Int → List Br → Prop} (hm : ms.length ≤ 100000) (h : Q r (ms.map fun m => (r, m))) : plan_star_W r ms Q := by
  refine loop_up ms.length (fun i s => s = (ms.take i).map fun m => (r, m)) (by simp) fun K i s hi hs hK => ?_
  show plan_star_l1 _ _ _ _ s (i : Int)
  unfold plan_star_l1
  have hsl : s.length = i := by rw [hs]; simp; omega
  refine ⟨fun c => ?_, fun c => ?_⟩
  · have hlt : i < ms.length := by omega
    refine ⟨by omega, by simp only [List.length_cons, List.length_nil]; omega, by unfold I64; omega, hK (i + 1) _ (by omega) hlt ?_⟩
    rw [hs, List.take_succ_eq_append_getElem hlt, gi_nat hlt, List.map_append]; rfl
  · have : i = ms.length := by omega
    subst this; rw [hs, List.take_length]; exact h
def mkb (r : Int) (ss ms : List Int) (fan : Nat) (i : Nat) : Br := (gi (r :: ss) ((i / fan : Nat) : Int), gi (ss ++ ms) (i : Int))
def mkl (r : Int) (ss ms : List Int) (fan : Nat) : List Br := (List.range (ss.length + ms.length)).map (mkb r ss ms fan)
theorem mkl_len (r : Int) (ss ms : List Int) (fan : Nat) : (mkl r ss ms fan).length = ss.length + ms.length := by unfold mkl; simp
theorem make_ok {r : Int} {ms xs : List Int} {fan : Nat} {Q : Int → List Br → Prop} (hm : ms.length + xs.length < 256) (hf : 1 ≤ fan ∧ fan ≤ 1000)
    (h1 : (∀ k, NeedIs ms.length fan k → xs.length < k) → Q r (ms.map fun m => (r, m)))
    (h2 : ∀ k, NeedIs ms.length fan k → k ≤ xs.length → ∀ L, L.Perm (mkl r (xs.take k) ms fan) → (L.Pairwise fun x y => ¬ blt y x) → (Gd r L → Q r L) ∧ (¬ Gd r L → Q 0 [])) : plan_Make_W r ms xs (fan : Int) Q := by
  refine fits_ok (by omega) hf (fun k hk => ⟨fun c => star_ok (by omega) (h1 fun k' hk' => ?_), fun c => ?_⟩) (fun hn => ⟨fun _ => star_ok (by omega) (h1 fun k hk => ?_), fun c => by cases c⟩)
  · rw [hk'.uniq hk]; simpa using c
  · have hkx : k ≤ xs.length := by simpa using c
    refine need_ok (by omega) hf (fun k' hk' => ?_) (fun hn => absurd hk.1 (by have := hn k; omega))
    have := hk'.uniq hk; subst this
    refine ⟨by omega, ?_, fun vs vm => ?_⟩
    · rw [cut0n]; simp; omega
    have hct : cut xs 0 (k' : Int) = xs.take k' := cut0n _ _
    simp only [hct]
    refine concat_ok (by simp) (by simp; omega) ?_
    simp only [List.flatMap_cons, List.flatMap_nil, List.append_nil]
    have hsl : (xs.take k').length = k' := by simp; omega
    generalize hss : xs.take k' = ss at hsl h2
    subst hsl
    have hn := hk.1
    refine loop_up (ss.length + ms.length) (fun i s => s = (List.range i).map (mkb r ss ms fan)) (by simp) fun K i s hi hs hK => ?_
    have hsl : s.length = i := by rw [hs]; simp
    show plan_Make_l2 _ _ _ _ _ _ _ s (i : Int)
    unfold plan_Make_l2
    rw [show cut xs 0 (ss.length : Int) = ss by rw [hct, hss]]
    have hlen : ((ss ++ ms).length : Int) = ((ss.length + ms.length : Nat) : Int) := by simp
    refine ⟨fun c => ?_, fun c => ?_⟩
    · have hlt : i < ss.length + ms.length := by omega
      have e : ((i : Int).tdiv (fan : Int)) = ((i / fan : Nat) : Int) := by rw [Int.tdiv_eq_ediv_of_nonneg (by omega)]; rfl
      have hd : i / fan < ss.length + 1 := by
        rw [Nat.div_lt_iff_lt_mul (by omega)]
        have h3 : ss.length * (fan - 1) + ss.length = ss.length * fan := by
          rw [← Nat.mul_succ]; congr 1; omega
        rw [Nat.add_mul]; omega
      have hdi := Nat.div_le_self i fan
      rw [e]
      have eg : gi ([r] ++ ss) ((i / fan : Nat) : Int) = gi (r :: ss) ((i / fan : Nat) : Int) := rfl
      rw [eg]
      have em : mkb r ss ms fan i = (gi (r :: ss) ((i / fan : Nat) : Int), gi (ss ++ ms) (i : Int)) := rfl
      rw [← em]
      generalize hq : i / fan = q at hd hdi
      refine ⟨by omega, by omega, by unfold I64; omega, ?_, by simp only [List.length_cons, List.length_nil]; omega, by unfold I64; omega, hK (i + 1) _ (by omega) hlt ?_⟩
      · simp only [List.length_append, List.length_cons, List.length_nil]; omega
      · rw [List.range_succ, List.map_append, hs]; rfl
    · have : i = ss.length + ms.length := by omega
      subst this
      have hs' : s = mkl r ss ms fan := hs
      subst hs'
      refine of_ok (by rw [hsl]; have := congrArg List.length hss; simp at this; omega) fun L hp hsrt => ?_
      exact h2 ss.length hk hkx L (by rw [hss]; exact hp) hsrt
  · have := hn k; have := hk.1; omega
theorem rnum_ok {n : Nat} (hn : n ≤ 100000) {Q : Str → Prop} (h : Q (numL 10 n)) : ref32_num_W (n : Int) Q :=
  ⟨1, fun _ => num_ok (by decide) hn h, fun c => absurd (Int.natCast_nonneg n) c⟩
def nm (n : Int) : Str := numL 10 n.toNat
def txt (r : Int) (L : List Br) : Str := nm r ++ L.flatMap fun e => [32] ++ nm e.1 ++ [62] ++ nm e.2
theorem nm_len {n : Int} (h : 0 ≤ n ∧ n ≤ 100000) : (nm n).length ≤ 100001 := by have := numL_len (b := 10) (by decide) n.toNat; unfold nm; omega
theorem rnm_ok {n : Int} (hn : 0 ≤ n ∧ n ≤ 100000) {Q : Str → Prop} (h : Q (nm n)) : ref32_num_W n Q := by
  obtain ⟨m, rfl⟩ := Int.eq_ofNat_of_zero_le hn.1
  exact rnum_ok (by omega) (by simpa [nm] using h)
theorem rprint_ok {r : Int} {L : List Br} {Q : Str → Prop} (hr : 0 ≤ r ∧ r ≤ 100000) (hL : ∀ e ∈ L, (0 ≤ e.1 ∧ e.1 ≤ 100000) ∧ 0 ≤ e.2 ∧ e.2 ≤ 100000) (hl : L.length ≤ 100) (h : Q (txt r L)) : ref32_Print_W r L Q := by
  refine rnm_ok hr ?_
  have h0 := nm_len hr
  refine loop_up L.length (fun i s => s = txt r (L.take i) ∧ s.length ≤ 100001 + i * 200004) ⟨by simp [txt], by omega⟩ fun K i s hi ⟨hs, hsl⟩ hK => ?_
  show ref32_Print_l1 _ _ _ s (i : Int)
  unfold ref32_Print_l1
  refine ⟨fun c => ?_, fun c => ?_⟩
  · have hlt : i < L.length := by omega
    have hi100 : i * 200004 ≤ 100 * 200004 := Nat.mul_le_mul_right _ (by omega)
    obtain ⟨e1, e2⟩ := hL L[i] (List.getElem_mem hlt)
    have l1 := nm_len e1; have l2 := nm_len e2
    rw [gi_nat hlt]
    refine ⟨by simp only [List.length_cons, List.length_nil]; omega, by omega, rnm_ok e1 ⟨?_, ?_, rnm_ok e2 ⟨?_, by unfold I64; omega, hK (i + 1) _ (by omega) hlt ⟨?_, ?_⟩⟩⟩⟩
    · simp only [List.length_append, List.length_cons, List.length_nil]; omega
    · simp only [List.length_append, List.length_cons, List.length_nil]; omega
    · simp only [List.length_append, List.length_cons, List.length_nil]; omega
    · rw [List.take_succ_eq_append_getElem hlt, hs]; simp only [txt, List.flatMap_append, List.flatMap_cons, List.flatMap_nil, List.append_nil, List.append_assoc]
    · simp only [List.length_append, List.length_cons, List.length_nil]; omega
  · have : i = L.length := by omega
    subst this; rw [List.take_length] at hs; rw [hs]; exact h
end Go.Wk
namespace Go.Wk
open Go.HL
variable [DM]
theorem has_ok {l : List Int} {n : Int} {Q : Bool → Prop} (hl : l.length ≤ 1000000) (h : Q (decide (n ∈ l))) : ref32_Has_W l n Q := by
  refine loop_up1 l.length (fun i => n ∉ l.take i) (by simp) fun K i hi hI hK => ?_
  unfold ref32_Has_l1
  refine ⟨fun c => ?_, fun c => ?_⟩
  · have hlt : i < l.length := by omega
    rw [gi_nat hlt]
    refine ⟨by omega, fun d => ?_, fun d => ⟨by unfold I64; omega, hK (i + 1) (by omega) hlt ?_⟩⟩
    · rwa [decide_eq_true (by rw [← d]; exact List.getElem_mem hlt)] at h
    · rw [List.take_succ_eq_append_getElem hlt, List.mem_append, List.mem_singleton]
      rintro (q | q)
      · exact hI q
      · exact d q.symm
  · have : i = l.length := by omega
    subst this; rw [List.take_length] at hI
    rwa [decide_eq_false hI] at h
def insI : List Int → Int → List Int
  | [], n => [n]
  | a :: l, n => if a < n then a :: insI l n else n :: a :: l
theorem insI_eq (n : Int) : ∀ (l : List Int) (i : Nat), i ≤ l.length → (∀ x ∈ l.take i, x < n) → (∀ h : i < l.length, ¬ l[i] < n) → l.take i ++ [n] ++ l.drop i = insI l n
  | [], i, hi, _, _ => by simp at hi; subst hi; rfl
  | a :: l, 0, _, _, h => by
    have := h (by simp)
    simp only [List.getElem_cons_zero] at this
    simp [insI, this]
  | a :: l, i + 1, hi, h1, h2 => by
    have ha : a < n := h1 a (by simp)
    have := insI_eq n l i (by simpa using hi) (fun x hx => h1 x (by simp [hx])) (fun h => by have := h2 (by simpa using h); simpa using this)
    simp [insI, ha, ← this]
theorem mem_insI {l : List Int} {n x : Int} : x ∈ insI l n ↔ x = n ∨ x ∈ l := by
  induction l with
  | nil => simp [insI]
  | cons a l ih =>
    unfold insI; split
    · rw [List.mem_cons, ih, List.mem_cons]
      constructor
      · rintro (q | q | q)
        · exact .inr (.inl q)
        · exact .inl q
        · exact .inr (.inr q)
      · rintro (q | q | q)
        · exact .inr (.inl q)
        · exact .inl q
        · exact .inr (.inr q)
    · rw [List.mem_cons]
theorem len_insI (l : List Int) (n : Int) : (insI l n).length = l.length + 1 := by
  induction l with
  | nil => rfl
  | cons a l ih => unfold insI; split <;> simp [ih]
theorem rise_insI {l : List Int} {n : Int} (h : l.Pairwise (· < ·)) (hn : n ∉ l) : (insI l n).Pairwise (· < ·) := by
  induction l with
  | nil => simp [insI]
  | cons a l ih =>
    rw [List.pairwise_cons] at h
    rw [List.mem_cons] at hn
    unfold insI; split
    · rename_i c
      rw [List.pairwise_cons]
      refine ⟨fun x hx => ?_, ih h.2 fun q => hn (.inr q)⟩
      rcases mem_insI.1 hx with rfl | hx
      · exact c
      · exact h.1 x hx
    · rename_i c
      have hna : n < a := by
        have : n ≠ a := fun e => hn (.inl e)
        omega
      rw [List.pairwise_cons]
      refine ⟨fun x hx => ?_, List.pairwise_cons.2 h⟩
      rcases List.mem_cons.1 hx with rfl | hx
      · exact hna
      · have := h.1 x hx; omega
def addI (l : List Int) (n : Int) : List Int := if n ∈ l then l else insI l n
theorem mem_addI {l : List Int} {n x : Int} : x ∈ addI l n ↔ x = n ∨ x ∈ l := by
  unfold addI; split
  · rename_i h
    constructor
    · exact .inr
    · rintro (rfl | q)
      · exact h
      · exact q
  · exact mem_insI
theorem len_addI (l : List Int) (n : Int) : (addI l n).length ≤ l.length + 1 := by
  unfold addI; split
  · omega
  · rw [len_insI]; omega
theorem rise_addI {l : List Int} {n : Int} (h : l.Pairwise (· < ·)) : (addI l n).Pairwise (· < ·) := by
  unfold addI; split
  · exact h
  · rename_i q; exact rise_insI h q
theorem add_ok {l : List Int} {n : Int} {Q : List Int → Prop} (hl : l.length ≤ 1000000) (h : Q (addI l n)) : ref32_Add_W l n Q := by
  refine has_ok hl ⟨fun c => ?_, fun c => ?_⟩
  · have : n ∈ l := by simpa using c
    unfold addI at h; rwa [if_pos this] at h
  · have hn : n ∉ l := by simpa using c
    unfold addI at h; rw [if_neg hn] at h
    have j1 : ∀ i : Nat, i ≤ l.length → (∀ x ∈ l.take i, x < n) → (∀ h : i < l.length, ¬ l[i] < n) → ref32_Add_j1 l n Q (i : Int) := by
      intro i hi h1 h2
      have e : ([] ++ cut l 0 (i : Int)) ++ [n] ++ cut l (i : Int) (l.length : Int) = insI l n := by
        rw [List.nil_append, cut0n, cutn]; exact insI_eq n l i hi h1 h2
      unfold ref32_Add_j1
      rw [e]
      refine ⟨by omega, by omega, ?_, ?_, by omega, ?_, h⟩
      · rw [cut0n]; simp; omega
      · rw [cut0n]; simp; omega
      · rw [cut0n, cutn]; simp; omega
    refine loop_up1 l.length (fun i => ∀ x ∈ l.take i, x < n) (by simp) fun K i hi hI hK => ?_
    unfold ref32_Add_l1
    refine ⟨fun c => ?_, fun c => j1 i hi hI fun h => by omega⟩
    have hlt : i < l.length := by omega
    rw [gi_nat hlt]
    refine ⟨by omega, fun d => ⟨by unfold I64; omega, hK (i + 1) (by omega) hlt fun x hx => ?_⟩, fun d => j1 i hi hI fun _ => d⟩
    rw [List.take_succ_eq_append_getElem hlt, List.mem_append, List.mem_singleton] at hx
    rcases hx with hx | rfl
    · exact hI x hx
    · exact d
theorem rise_nodup {l : List Int} (h : l.Pairwise (· < ·)) : l.Nodup := h.imp fun {a b} q => by omega
theorem rise_eq {l m : List Int} (hl : l.Pairwise (· < ·)) (hm : m.Pairwise (· < ·)) (h : ∀ x, x ∈ l ↔ x ∈ m) : l = m :=
  rise_ext (lt := fun a b : Int => a < b) (fun a => by omega) (fun a b c => by omega) hl hm h
end Go.Wk
namespace Go.Wk
open Go.HL
variable [DM]
theorem indexFunc_I {l : List Int} {p : Int → Bool} {Q : Int → Prop} (hl : l.length ≤ 1000000) (h0 : (∀ x ∈ l, p x = false) → Q (-1)) (h1 : ∀ (i : Nat) (hi : i < l.length), p l[i] = true → (∀ x ∈ l.take i, p x = false) → Q (i : Int)) : slices_IndexFunc_s_int_int_W l p Q := by
  refine loop_up1 l.length (fun i => ∀ x ∈ l.take i, p x = false) (by simp) fun K i hi hI hK => ?_
  show slices_IndexFunc_s_int_int_l1 _ _ _ _ _
  unfold slices_IndexFunc_s_int_int_l1
  refine ⟨fun c => ⟨by (first | omega | (unfold I64; omega) | (simp only [List.length_append, List.length_cons, List.length_nil, List.length_take, List.length_drop] at *; omega) | (unfold I64; simp only [List.length_append, List.length_cons, List.length_nil, List.length_take, List.length_drop] at *; omega)), ?_⟩, fun c => ?_⟩
  · have hi' : i < l.length := by omega
    rw [gi_nat hi']
    refine ⟨fun q => h1 i hi' q hI, fun q => ⟨by (first | omega | (unfold I64; omega) | (simp only [List.length_append, List.length_cons, List.length_nil, List.length_take, List.length_drop] at *; omega) | (unfold I64; simp only [List.length_append, List.length_cons, List.length_nil, List.length_take, List.length_drop] at *; omega)), hK (i + 1) (by omega) (by omega) ?_⟩⟩
    intro x hx
    rw [List.take_succ_eq_append_getElem hi'] at hx
    rcases List.mem_append.1 hx with hx | hx
    · exact hI x hx
    · rw [List.mem_singleton] at hx; subst hx; exact q
  · rw [List.take_of_length_le (by omega)] at hI; exact h0 hI
theorem deleteFunc_I {l : List Int} {p : Int → Bool} {Q : List Int → Prop} (hl : l.length ≤ 1000000) (h : Q (l.filter fun x => !p x)) : slices_DeleteFunc_s_int_int_W l p Q := by
  unfold slices_DeleteFunc_s_int_int_W
  refine indexFunc_I hl (fun hn => ⟨fun _ => ?_, fun c => absurd rfl c⟩) (fun r hr hp hn => ⟨fun c => by omega, fun _ => ⟨by (first | omega | (unfold I64; omega) | (simp only [List.length_append, List.length_cons, List.length_nil, List.length_take, List.length_drop] at *; omega) | (unfold I64; simp only [List.length_append, List.length_cons, List.length_nil, List.length_take, List.length_drop] at *; omega)), ?_⟩⟩)
  · have : (l.filter fun x => !p x) = l := List.filter_eq_self.2 fun x hx => by rw [hn x hx]; rfl
    rw [this] at h; exact h
  · have hr0 : (l.take r).filter (fun x => !p x) = l.take r := List.filter_eq_self.2 fun x hx => by rw [hn x hx]; rfl
    refine loop_from (s0 := (l, (r : Int), (r : Int) + 1)) (fun s => s.2.2) (r + 1) l.length (fun j s => s.1.length = l.length ∧ ∃ k : Nat, s.2.1 = k ∧ k + 1 ≤ j ∧ s.1.take k = (l.take j).filter (fun x => !p x) ∧ ∀ q, j ≤ q → s.1[q]? = l[q]?) (by simp) (by omega) ⟨rfl, r, rfl, by omega, ?_, fun _ _ => rfl⟩ ?_
    · show l.take r = _
      rw [List.take_succ_eq_append_getElem hr, List.filter_append, hr0]; simp [hp]
    · rintro K j ⟨l2, _, _⟩ rfl hj ⟨hl2, k, rfl, k1, ht, hq⟩ hK
      simp only at hl2 ht hq ⊢
      unfold slices_DeleteFunc_s_int_int_l2
      refine ⟨fun c => ⟨by (first | omega | (unfold I64; omega) | (simp only [List.length_append, List.length_cons, List.length_nil, List.length_take, List.length_drop] at *; omega) | (unfold I64; simp only [List.length_append, List.length_cons, List.length_nil, List.length_take, List.length_drop] at *; omega)), ?_⟩, fun c => ?_⟩
      · have hj' : j < l.length := by omega
        have e1 : gi l2 (j : Int) = l[j] := by rw [gi_of (hq j (Nat.le_refl _)), gi_nat hj']
        rw [e1]
        refine ⟨fun q => ⟨by (first | omega | (unfold I64; omega) | (simp only [List.length_append, List.length_cons, List.length_nil, List.length_take, List.length_drop] at *; omega) | (unfold I64; simp only [List.length_append, List.length_cons, List.length_nil, List.length_take, List.length_drop] at *; omega)), by (first | omega | (unfold I64; omega) | (simp only [List.length_append, List.length_cons, List.length_nil, List.length_take, List.length_drop] at *; omega) | (unfold I64; simp only [List.length_append, List.length_cons, List.length_nil, List.length_take, List.length_drop] at *; omega)), by (first | omega | (unfold I64; omega) | (simp only [List.length_append, List.length_cons, List.length_nil, List.length_take, List.length_drop] at *; omega) | (unfold I64; simp only [List.length_append, List.length_cons, List.length_nil, List.length_take, List.length_drop] at *; omega)), hK (j + 1) _ (by simp) (by omega) (by omega) ⟨by simpa using hl2, k + 1, by simp, by omega, ?_, fun x hx => ?_⟩⟩, fun q => ⟨by (first | omega | (unfold I64; omega) | (simp only [List.length_append, List.length_cons, List.length_nil, List.length_take, List.length_drop] at *; omega) | (unfold I64; simp only [List.length_append, List.length_cons, List.length_nil, List.length_take, List.length_drop] at *; omega)), hK (j + 1) _ (by simp) (by omega) (by omega) ⟨hl2, k, rfl, by omega, ?_, fun x hx => hq x (by omega)⟩⟩⟩
        · show (l2.set (k : Int).toNat _).take (k + 1) = _
          rw [Int.toNat_natCast, take_set (by omega), ht, List.take_succ_eq_append_getElem hj', List.filter_append]
          have : p l[j] = false := by simpa using q
          simp [this]
        · show (l2.set (k : Int).toNat _)[x]? = _
          rw [Int.toNat_natCast, List.getElem?_set, if_neg (by omega)]; exact hq x (by omega)
        · rw [List.take_succ_eq_append_getElem hj', List.filter_append, ht]
          have : p l[j] = true := by simpa using q
          simp [this]
      · have hjl : j = l.length := by omega
        subst hjl
        rw [List.take_length] at ht
        have hcl : (clr l2 (k : Int) (l2.length : Int)).length = l2.length := by simp [clr]; omega
        refine ⟨by (first | omega | (unfold I64; omega) | (simp only [List.length_append, List.length_cons, List.length_nil, List.length_take, List.length_drop] at *; omega) | (unfold I64; simp only [List.length_append, List.length_cons, List.length_nil, List.length_take, List.length_drop] at *; omega)), by (first | omega | (unfold I64; omega) | (simp only [List.length_append, List.length_cons, List.length_nil, List.length_take, List.length_drop] at *; omega) | (unfold I64; simp only [List.length_append, List.length_cons, List.length_nil, List.length_take, List.length_drop] at *; omega)), by rw [hcl]; (first | omega | (unfold I64; omega) | (simp only [List.length_append, List.length_cons, List.length_nil, List.length_take, List.length_drop] at *; omega) | (unfold I64; simp only [List.length_append, List.length_cons, List.length_nil, List.length_take, List.length_drop] at *; omega)), ?_⟩
        rw [cut_clr (by omega), ht]; exact h
theorem less_ok {a b : Br} {Q : Bool → Prop} (h : Q (decide (blt a b))) : ref32_less_W a b Q := by
  have key : ∀ c : Bool, (c = true ↔ blt a b) → Q c := fun c hc => by
    have : c = decide (blt a b) := by rw [Bool.eq_iff_iff, hc, decide_eq_true_eq]
    rw [this]; exact h
  refine ⟨fun c => key true ⟨fun _ => .inl c, fun _ => rfl⟩, fun c => ⟨fun d => key _ ?_, fun d => key false ⟨(fun q => by cases q), fun q => ?_⟩⟩⟩
  · rw [decide_eq_true_eq]
    constructor
    · intro q; exact .inr ⟨d, q⟩
    · rintro (q | q)
      · omega
      · exact q.2
  · rcases q with q | q
    · exact absurd q c
    · exact absurd q.1 d
structure BI (L : List Br) (n : Int) (out : List Int) : Prop where
  ris : out.Pairwise (· < ·)
  me : n ∈ out
  rch : ∀ x ∈ out, Rch L n x
theorem BI.add {L : List Br} {n : Int} {out : List Int} {e : Br} (b : BI L n out) (he : e ∈ L) (hm : e.1 ∈ out) : BI L n (addI out e.2) :=
  ⟨rise_addI b.ris, mem_addI.2 (.inr b.me), fun x hx => by
    rcases mem_addI.1 hx with rfl | hx
    · exact (b.rch _ hm).step he
    · exact b.rch x hx⟩
theorem below_ok {r n : Int} {L : List Br} {Q : List Int → Prop} (hl : L.length ≤ 100000) (h : ∀ l, l.Pairwise (· < ·) → IsR L n l → Q l) : ref32_Below_W r L n Q := by
  refine loop_by (fun s => s.2) (L.length + 1) (fun k s => BI L n s.1 ∧ ((∀ e ∈ L, e.1 ∈ s.1 → e.2 ∈ s.1) ∨ k + 1 ≤ s.1.length)) rfl ⟨⟨by simp, by simp, fun x hx => by rw [List.mem_singleton] at hx; subst hx; exact .refl⟩, .inr (by simp)⟩ ?_
  rintro K k ⟨out, _⟩ rfl hk ⟨b, hc⟩ hK
  simp only at b hc
  have hlen := rch_len (rise_nodup b.ris) b.rch
  show ref32_Below_l1 _ _ _ out (k : Int)
  unfold ref32_Below_l1
  refine ⟨fun c => ?_, fun c => ?_⟩
  · refine loop_by (fun s => s.2) L.length (fun i s => BI L n s.1 ∧ (∀ x ∈ out, x ∈ s.1) ∧ ∀ e ∈ L.take i, e.1 ∈ out → e.2 ∈ s.1) rfl ⟨b, fun x hx => hx, by simp⟩ ?_
    rintro K2 i ⟨out2, _⟩ rfl hi ⟨b2, hs, hd⟩ hK2
    simp only at b2 hs hd
    have hlen2 := rch_len (rise_nodup b2.ris) b2.rch
    show ref32_Below_l2 _ _ _ _ out2 (i : Int)
    unfold ref32_Below_l2
    refine ⟨fun c2 => ?_, fun c2 => ?_⟩
    · have hlt : i < L.length := by omega
      rw [gi_nat hlt]
      refine ⟨by omega, has_ok (by omega) ⟨fun q => add_ok (by omega) ⟨by unfold I64; omega, hK2 (i + 1) _ rfl (by omega) hlt ⟨b2.add (List.getElem_mem hlt) (by simpa using q), fun x hx => mem_addI.2 (.inr (hs x hx)), fun e he hm => ?_⟩⟩, fun q => ⟨by unfold I64; omega, hK2 (i + 1) _ rfl (by omega) hlt ⟨b2, hs, fun e he hm => ?_⟩⟩⟩⟩
      · rw [List.take_succ_eq_append_getElem hlt] at he
        rcases List.mem_append.1 he with he | he
        · exact mem_addI.2 (.inr (hd e he hm))
        · rw [List.mem_singleton] at he; subst he; exact mem_addI.2 (.inl rfl)
      · rw [List.take_succ_eq_append_getElem hlt] at he
        rcases List.mem_append.1 he with he | he
        · exact hd e he hm
        · rw [List.mem_singleton] at he; subst he
          exact absurd (hs _ hm) (by simpa using q)
    · have hi2 : i = L.length := by omega
      subst hi2
      rw [List.take_length] at hd
      refine ⟨by unfold I64; omega, hK (k + 1) _ rfl (by omega) (by omega) ⟨b2, ?_⟩⟩
      have hle := nodup_le (rise_nodup b.ris) hs
      by_cases e : out2.length = out.length
      · have back : ∀ x ∈ out2, x ∈ out := fun x hx => nodup_full (rise_nodup b.ris) hs (by omega) hx
        exact .inl fun e he hm => hd e he (back _ hm)
      · rcases hc with hc | hc
        · have back : ∀ x ∈ out2, x ∈ out := fun x hx => rch_closed b.me hc (b2.rch x hx)
          exact .inl fun e he hm => hd e he (back _ hm)
        · exact .inr (by simp only; omega)
  · refine h out b.ris (IsR.of_closed (rise_nodup b.ris) b.me b.rch ?_)
    rcases hc with hc | hc
    · exact hc
    · omega
theorem nodes_ok {r : Int} {L : List Br} {Q : List Int → Prop} (hl : L.length ≤ 100000) (h : ∀ l, l.Pairwise (· < ·) → IsR L r l → Q l) : ref32_Nodes_W r L Q := below_ok hl h
theorem refGood_ok {r : Int} {L : List Br} {Q : Bool → Prop} (hl : L.length ≤ 100000) (h : ∀ b : Bool, (b = true ↔ Gd r L) → Q b) : ref32_Good_W r L Q := by
  have no : ¬ Gd r L → Q false := fun c => h false ⟨(fun q => by cases q), fun q => absurd q c⟩
  refine loop_up1 L.length (fun i => (∀ e ∈ L.take i, e.2 ≠ r) ∧ (L.take i).Pairwise blt ∧ ((L.take i).map (·.2)).Nodup) (by simp) fun K i hi ⟨g1, g2, g3⟩ hK => ?_
  unfold ref32_Good_l1
  have j1 : i < L.length → (gi L (i : Int)).2 ≠ r → (∀ y, (L.take i).getLast? = some y → blt y (gi L (i : Int))) → ref32_Good_j1 L Q (i : Int) K := by
    intro hlt h1 h2
    refine loop_up1 i (fun k => ∀ e ∈ L.take k, e.2 ≠ L[i].2) (by simp) fun K2 k hk hI2 hK2 => ?_
    unfold ref32_Good_l2
    refine ⟨fun c => ?_, fun c => ?_⟩
    · have hk' : k < L.length := by omega
      rw [gi_nat hk', gi_nat hlt]
      refine ⟨by omega, by omega, fun d => no fun gd => ?_, fun d => ⟨by unfold I64; omega, hK2 (k + 1) (by omega) (by omega) fun e he => ?_⟩⟩
      · have := List.pairwise_iff_getElem.1 gd.ends k i (by simpa using hk') (by simpa using hlt) (by omega)
        simp only [List.getElem_map] at this; exact this d
      · rw [List.take_succ_eq_append_getElem hk'] at he
        rcases List.mem_append.1 he with he | he
        · exact hI2 e he
        · rw [List.mem_singleton] at he; subst he; exact d
    · have : k = i := by omega
      subst this
      have ht : L.take (k + 1) = L.take k ++ [gi L (k : Int)] := by rw [List.take_succ_eq_append_getElem hlt, gi_nat hlt]
      refine ⟨by unfold I64; omega, hK (k + 1) (by omega) hlt ⟨fun e he => ?_, by rw [ht]; exact pw_snoc blt_tr g2 h2, ?_⟩⟩
      · rw [ht] at he
        rcases List.mem_append.1 he with he | he
        · exact g1 e he
        · rw [List.mem_singleton] at he; subst he; exact h1
      · rw [ht, List.map_append, List.nodup_append]
        refine ⟨g3, by simp, fun a ha b hb => ?_⟩
        simp only [List.map_cons, List.map_nil, List.mem_singleton] at hb
        obtain ⟨e, he, rfl⟩ := List.mem_map.1 ha
        rw [hb, gi_nat hlt]; exact hI2 e he
  refine ⟨fun c => ?_, fun c => ?_⟩
  · have hlt : i < L.length := by omega
    refine ⟨by omega, fun d => no fun q => q.root _ (by rw [gi_nat hlt]; exact List.getElem_mem hlt) d, fun d => ⟨fun e => ⟨by unfold I64; omega, by omega, ?_⟩, fun e => ?_⟩⟩
    · have hi1 : i - 1 < L.length := by omega
      have e1 : gi L ((i : Int) - 1) = L[i - 1] := by rw [show (i : Int) - 1 = ((i - 1 : Nat) : Int) by omega, gi_nat hi1]
      rw [e1]
      refine less_ok ⟨fun q => no fun gd => ?_, fun q => j1 hlt d fun y hy => ?_⟩
      · have h1 := List.pairwise_iff_getElem.1 gd.ris (i - 1) i hi1 hlt (by omega)
        rw [gi_nat hlt] at q; simp only [Bool.not_eq_true', decide_eq_false_iff_not] at q; exact q h1
      · rw [last_take (by omega) (by omega)] at hy; injection hy with hy; subst hy
        simpa using q
    · have : i = 0 := by omega
      subst this
      exact j1 hlt d fun y hy => by simp at hy
  · have hi2 : i = L.length := by omega
    subst hi2
    rw [List.take_length] at g1 g2 g3
    refine ⟨fun c2 => ⟨by unfold I64; omega, below_ok hl fun out hr w => h _ ?_⟩, fun c2 => no fun gd => c2 (by have := gd.few; omega)⟩
    rw [decide_eq_true_eq]
    constructor
    · intro e
      exact { toGd0 := Gd0.of_len g1 g3 w (by omega), ris := g2, few := by omega }
    · intro gd
      have := gd.toGd0.len w; omega
theorem refNext_ok {r n : Int} {L : List Br} {Q : List Int → Prop} (hl : L.length ≤ 100000) (h : Q (kids L n)) : ref32_Next_W r L n Q := by
  refine loop_up L.length (fun i s => s = kids (L.take i) n) (by simp [kids]) fun K i s hi hs hK => ?_
  have hk := kids_len (L.take i) n
  rw [List.length_take] at hk
  unfold ref32_Next_l1
  refine ⟨fun c => ?_, fun c => ?_⟩
  · have hlt : i < L.length := by omega
    have ht : L.take (i + 1) = L.take i ++ [L[i]] := List.take_succ_eq_append_getElem hlt
    have hkk := kids_snoc (L.take i) L[i] n
    rw [← ht] at hkk
    rw [gi_nat hlt]
    refine ⟨by omega, fun d => ⟨by rw [hs]; simp only [List.length_cons, List.length_nil]; omega, by unfold I64; omega, hK (i + 1) _ (by omega) hlt (by rw [hkk, if_pos d, hs])⟩, fun d => ⟨by unfold I64; omega, hK (i + 1) _ (by omega) hlt (by rw [hkk, if_neg d, hs])⟩⟩
  · have : i = L.length := by omega
    subst this; rw [List.take_length] at hs; rw [hs]; exact h
structure LeafIs (L : List Br) (r : Int) (l : List Int) : Prop where
  ris : l.Pairwise (· < ·)
  mem : ∀ x, x ∈ l ↔ Rch L r x ∧ x ≠ r ∧ kids L x = []
theorem LeafIs.uniq {L : List Br} {r : Int} {l m : List Int} (h : LeafIs L r l) (k : LeafIs L r m) : l = m := rise_eq h.ris k.ris fun x => by rw [h.mem, k.mem]
theorem refLeaves_ok {r : Int} {L : List Br} {Q : List Int → Prop} (hl : L.length ≤ 100000) (h : ∀ l, LeafIs L r l → Q l) : ref32_Leaves_W r L Q := by
  refine nodes_ok hl fun N hN hR => ?_
  have hlen := hR.len_le
  refine loop_up N.length (fun i s => s = (N.take i).filter fun x => decide (x ≠ r ∧ kids L x = [])) (by simp) fun K i s hi hs hK => ?_
  have hsl : s.length ≤ i := by rw [hs]; exact Nat.le_trans (List.length_filter_le _ _) (by simp; omega)
  unfold ref32_Leaves_l1
  refine ⟨fun c => ?_, fun c => ?_⟩
  · have hlt : i < N.length := by omega
    have ht : N.take (i + 1) = N.take i ++ [N[i]] := List.take_succ_eq_append_getElem hlt
    have j1 : ∀ b : Bool, (b = true ↔ (N[i] ≠ r ∧ kids L N[i] = [])) → ref32_Leaves_j1 N s (i : Int) (fun out_1 i_1 => K (out_1, i_1)) b := by
      intro b hb
      refine ⟨fun q => ⟨by omega, by simp only [List.length_cons, List.length_nil]; omega, by unfold I64; omega, hK (i + 1) _ (by omega) hlt ?_⟩, fun q => ⟨by unfold I64; omega, hK (i + 1) _ (by omega) hlt ?_⟩⟩
      · rw [ht, List.filter_append, ← hs, gi_nat hlt]; congr 1
        rw [List.filter_cons, if_pos (by simpa using hb.1 q)]; rfl
      · rw [ht, List.filter_append, ← hs]
        have : ¬ (N[i] ≠ r ∧ kids L N[i] = []) := fun q' => by rw [hb.2 q'] at q; cases q
        rw [List.filter_cons, if_neg (by simpa using this)]; simp
    have hgi := gi_nat hlt
    refine ⟨by omega, fun d => refNext_ok hl (j1 _ ?_), fun d => j1 false ⟨(fun q => by cases q), fun q => absurd (by rw [← hgi]; exact d) q.1⟩⟩
    rw [hgi] at d ⊢
    rw [decide_eq_true_eq]
    constructor
    · intro q; exact ⟨d, List.length_eq_zero_iff.1 (by omega)⟩
    · intro q; rw [q.2]; rfl
  · have : i = N.length := by omega
    subst this
    rw [List.take_length] at hs
    subst hs
    refine h _ ⟨hN.sublist List.filter_sublist, fun x => ?_⟩
    rw [List.mem_filter, hR.mem x]; simp
theorem isort_perm (l : List Int) : (isort l).Perm l := List.mergeSort_perm _ _
theorem isort_sorted (l : List Int) : (isort l).Pairwise (· ≤ ·) := by
  refine (List.pairwise_mergeSort (le := fun x y : Int => decide (x ≤ y)) ?_ ?_ l).imp ?_
  · intro a b c h1 h2; simp only [decide_eq_true_eq] at *; omega
  · intro a b; simp only [Bool.or_eq_true, decide_eq_true_eq]; omega
  · intro a b h; simpa using h
theorem rising_ok {l : List Int} {Q : List Int → Prop} (hl : l.length ≤ 1000000) (hn : l.Nodup) (h : ∀ m : List Int, m.Pairwise (· < ·) → (∀ x, x ∈ m ↔ x ∈ l) → Q m) : tree_rising_W l Q := by
  refine ⟨by omega, h _ ?_ fun x => (isort_perm l).mem_iff⟩
  have h1 := isort_sorted l
  have h2 : (isort l).Nodup := (isort_perm l).nodup_iff.2 hn
  exact (h1.and h2).imp fun {a b} ⟨p, q⟩ => by omega
theorem leaves_ok {r : Int} {L : List Br} {Q : List Int → Prop} (hl : L.length ≤ 100000) (h : ∀ l, LeafIs L r l → Q l) : tree_Leaves_W r L Q := by
  refine nexts_ok hl fun nx hnx => walk_ok hl fun W hW => ⟨fun n => decide (n = r ∨ kids L n ≠ []), fun n => ?_, ?_⟩
  · unfold tree_Leaves_1_W
    rw [hnx.at_]
    refine ⟨fun c => by simp [c], fun c => ?_⟩
    cases hk : kids L n with
    | nil => simp [c, hk]
    | cons a l => simp [hk]
  · have hwl := hW.toIsR.len_le
    refine deleteFunc_I (by omega) (rising_ok ?_ (hW.nd.filter _) fun m hm hx => h m ⟨hm, fun x => ?_⟩)
    · exact Nat.le_trans (List.length_filter_le _ _) (by omega)
    · rw [hx, List.mem_filter, hW.mem x]
      simp only [Bool.not_eq_true', decide_eq_false_iff_not, not_or, ne_eq, Decidable.not_not]
structure FanIs (L : List Br) (f : Nat) : Prop where
  le : ∀ x, (kids L x).length ≤ f
  is : f = 0 ∨ ∃ x, (kids L x).length = f
theorem FanIs.uniq {L : List Br} {f g : Nat} (h : FanIs L f) (k : FanIs L g) : f = g := by
  rcases h.is with rfl | ⟨x, hx⟩ <;> rcases k.is with rfl | ⟨y, hy⟩
  · rfl
  · have := h.le y; omega
  · have := k.le x; omega
  · have := h.le y; have := k.le x; omega
theorem fan_ok {r : Int} {L : List Br} {Q : Int → Prop} (hl : L.length ≤ 100000) (h : ∀ f : Nat, f ≤ L.length → FanIs L f → Q (f : Int)) : tree_Fan_W r L Q := by
  refine nexts_ok hl fun nx hnx => ?_
  refine ⟨fun s => ∃ f : Nat, s.1 = f ∧ f ≤ L.length ∧ (f = 0 ∨ ∃ x, (kids L x).length = f) ∧ (∀ p ∈ s.2, p ∈ nx) ∧ ∀ p ∈ nx, p ∈ s.2 ∨ (kids L p.1).length ≤ f, fun s => s.2.length, ⟨0, rfl, by omega, .inl rfl, fun p hp => hp, fun p hp => .inl hp⟩, ?_⟩
  rintro ⟨_, rem⟩ ⟨f, rfl, hfl, hf, hsub, hall⟩
  simp only at hsub hall
  show tree_Fan_l1 _ _ (f : Int) rem
  unfold tree_Fan_l1
  refine ⟨fun c => h f hfl ⟨fun x => ?_, hf⟩, fun p rem2 hp => ?_⟩
  · by_cases e : kids L x = []
    · rw [e]; simp
    · obtain ⟨p, hp, rfl⟩ := List.mem_map.1 ((hnx.keys x).2 e)
      rcases hall p hp with q | q
      · rw [c] at q; cases q
      · exact q
  · have hpm : p ∈ nx := hsub p (hp.mem_iff.2 (List.mem_cons_self ..))
    rw [hnx.ent hpm]
    have hkl := kids_len L p.1
    refine ⟨⟨max f (kids L p.1).length, by omega, by omega, ?_, fun q hq => hsub q (hp.mem_iff.2 (List.mem_cons_of_mem _ hq)), fun q hq => ?_⟩, ?_⟩
    · rcases Nat.le_total f (kids L p.1).length with c | c
      · rw [Nat.max_eq_right c]; exact .inr ⟨p.1, rfl⟩
      · rw [Nat.max_eq_left c]; exact hf
    · rcases hall q hq with c | c
      · rcases List.mem_cons.1 (hp.mem_iff.1 c) with rfl | c
        · exact .inr (Nat.le_max_right _ _)
        · exact .inl c
      · exact .inr (by have := Nat.le_max_left f (kids L p.1).length; omega)
    · have := hp.length_eq; simp only [List.length_cons] at this ⊢; omega
theorem refFan_ok {r : Int} {L : List Br} {Q : Int → Prop} (hl : L.length ≤ 100000) (g : Gd0 r L) (h : ∀ f : Nat, f ≤ L.length → FanIs L f → Q (f : Int)) : ref32_Fan_W r L Q := by
  refine nodes_ok hl fun N hN hR => ?_
  have hlen := hR.len_le
  refine loop_by (fun s => s.2) N.length (fun i s => ∃ f : Nat, s.1 = f ∧ f ≤ L.length ∧ (f = 0 ∨ ∃ x, (kids L x).length = f) ∧ ∀ x ∈ N.take i, (kids L x).length ≤ f) rfl ⟨0, rfl, by omega, .inl rfl, by simp⟩ ?_
  rintro K i ⟨_, _⟩ rfl hi ⟨f, rfl, hfl, hf, hall⟩ hK
  simp only at hi hall ⊢
  show ref32_Fan_l1 _ _ _ _ _ (f : Int) (i : Int)
  unfold ref32_Fan_l1
  refine ⟨fun c => ?_, fun c => ?_⟩
  · have hlt : i < N.length := by omega
    have ht : N.take (i + 1) = N.take i ++ [N[i]] := List.take_succ_eq_append_getElem hlt
    have hkl := kids_len L N[i]
    rw [gi_nat hlt]
    refine ⟨by omega, refNext_ok hl ⟨fun d => ⟨by unfold I64; omega, hK (i + 1) _ rfl (by omega) hlt ⟨_, rfl, hkl, .inr ⟨_, rfl⟩, fun x hx => ?_⟩⟩, fun d => ⟨by unfold I64; omega, hK (i + 1) _ rfl (by omega) hlt ⟨f, rfl, hfl, hf, fun x hx => ?_⟩⟩⟩⟩
    · rw [ht] at hx
      rcases List.mem_append.1 hx with hx | hx
      · have := hall x hx; omega
      · rw [List.mem_singleton] at hx; subst hx; exact Nat.le_refl _
    · rw [ht] at hx
      rcases List.mem_append.1 hx with hx | hx
      · exact hall x hx
      · rw [List.mem_singleton] at hx; subst hx; omega
  · have : i = N.length := by omega
    subst this
    rw [List.take_length] at hall
    refine h f hfl ⟨fun x => ?_, hf⟩
    cases hk : kids L x with
    | nil => simp
    | cons a l =>
      rw [← hk]
      have : (x, a) ∈ L := mem_kids.1 (by rw [hk]; simp)
      exact hall x ((hR.mem x).2 (g.from_ this))
theorem eqI_ok {a b : List Int} {Q : Bool → Prop} (hl : a.length ≤ 1000000) (h : Q (decide (a = b))) : ref32_SameInts_W a b Q := by
  refine ⟨fun c => ?_, fun c => ?_⟩
  · have : a ≠ b := fun e => by subst e; exact c rfl
    rw [decide_eq_false this] at h; exact h
  · have c : a.length = b.length := by omega
    refine loop_up1 a.length (fun i => a.take i = b.take i) (by simp) fun K i hi hI hK => ?_
    unfold ref32_SameInts_l1
    refine ⟨fun d => ⟨by omega, by omega, ?_⟩, fun d => ?_⟩
    · have h1 : i < a.length := by omega
      have h2 : i < b.length := by omega
      rw [gi_nat h1, gi_nat h2]
      refine ⟨fun q => ?_, fun q => ⟨by unfold I64; omega, hK (i + 1) (by omega) (by omega) ?_⟩⟩
      · have : a ≠ b := fun e => by subst e; exact q rfl
        rw [decide_eq_false this] at h; exact h
      · rw [List.take_succ_eq_append_getElem h1, List.take_succ_eq_append_getElem h2, hI, q]
    · have hab : a = b := by
        have h3 : i = a.length := by omega
        subst h3
        rw [List.take_length, c, List.take_length] at hI; exact hI
      rw [decide_eq_true hab] at h; exact h
theorem refSame_ok {r s : Int} {a b : List Br} {Q : Bool → Prop} (hl : a.length ≤ 1000000) (h : Q (decide (r = s ∧ a = b))) : ref32_Same_W r a s b Q := by
  have no : ¬ (r = s ∧ a = b) → Q false := fun c => by rwa [decide_eq_false c] at h
  refine ⟨fun c => ⟨fun _ => no fun q => c q.1, fun q => by cases q⟩, fun c => ⟨fun d => no fun q => ?_, fun d => ?_⟩⟩
  · simp [q.2] at d
  · have c2 : a.length = b.length := by have := d; simp at this; omega
    refine loop_up1 a.length (fun i => a.take i = b.take i) (by simp) fun K i hi hI hK => ?_
    unfold ref32_Same_l1
    refine ⟨fun d => ⟨by omega, by omega, ?_⟩, fun d => ?_⟩
    · have h1 : i < a.length := by omega
      have h2 : i < b.length := by omega
      rw [gi_nat h1, gi_nat h2]
      refine ⟨fun q => no fun e => q ?_, fun q => ⟨by unfold I64; omega, hK (i + 1) (by omega) (by omega) ?_⟩⟩
      · have := e.2; subst this; rfl
      · rw [List.take_succ_eq_append_getElem h1, List.take_succ_eq_append_getElem h2, hI, q]
    · have hab : a = b := by
        have h3 : i = a.length := by omega
        subst h3
        rw [List.take_length, c2, List.take_length] at hI; exact hI
      rwa [decide_eq_true ⟨c, hab⟩] at h
end Go.Wk
namespace Go.Wk
open Go.HL
variable [DM]
theorem sorted_ok {l : List Br} {Q : List Br → Prop} (hl : l.length ≤ 100000) (h : ∀ L, L.Perm l → (L.Pairwise fun x y => ¬ blt y x) → Q L) : ref32_Sorted_W l Q := by
  refine loop_up l.length (fun i s => s.Perm (l.take i) ∧ s.Pairwise fun x y => ¬ blt y x) (by simp) fun K i out hi ⟨hp, hs⟩ hK => ?_
  have hol : out.length = i := by rw [hp.length_eq]; simp; omega
  show ref32_Sorted_l1 _ _ _ out (i : Int)
  unfold ref32_Sorted_l1
  refine ⟨fun c => ?_, fun c => ?_⟩
  · have hlt : i < l.length := by omega
    have j1 : ∀ n : Nat, n ≤ out.length → (∀ y ∈ out.take n, blt y l[i]) → (∀ h : n < out.length, ¬ blt out[n] l[i]) → ref32_Sorted_j1 l out (i : Int) (fun out_1 i_1 => K (out_1, i_1)) (n : Int) := by
      intro n hn h1 h2
      unfold ref32_Sorted_j1
      have e : ([] ++ cut out 0 (n : Int)) ++ [gi l (i : Int)] ++ cut out (n : Int) (out.length : Int) = out.take n ++ [l[i]] ++ out.drop n := by
        rw [List.nil_append, cut0n, cutn, gi_nat hlt]
      rw [e]
      refine ⟨by omega, by omega, by omega, ?_, ?_, by omega, ?_, by unfold I64; omega, hK (i + 1) _ (by omega) hlt ⟨?_, ?_⟩⟩
      · rw [cut0n]; simp; omega
      · rw [cut0n]; simp; omega
      · rw [cut0n, cutn]; simp; omega
      · rw [List.take_succ_eq_append_getElem hlt]
        refine (List.Perm.trans ?_ (hp.append_right [l[i]]))
        rw [List.append_assoc]
        refine List.Perm.trans (List.Perm.append_left _ List.perm_append_comm) ?_
        rw [← List.append_assoc, List.take_append_drop]
      · rw [List.append_assoc, List.pairwise_append]
        have hs' := hs
        rw [← List.take_append_drop n out, List.pairwise_append] at hs'
        refine ⟨hs'.1, ?_, fun a ha b hb => ?_⟩
        · rw [List.singleton_append, List.pairwise_cons]
          refine ⟨fun b hb => ?_, hs'.2.1⟩
          have hn2 : n < out.length := by
            rcases Nat.lt_or_ge n out.length with q | q
            · exact q
            · rw [List.drop_of_length_le q] at hb; cases hb
          have h3 := h2 hn2
          rw [List.drop_eq_getElem_cons hn2] at hb hs'
          rcases List.mem_cons.1 hb with rfl | hb
          · exact h3
          · have h4 := (List.pairwise_cons.1 hs'.2.1).1 b hb
            unfold blt at *; omega
        · rw [List.singleton_append] at hb
          rcases List.mem_cons.1 hb with rfl | hb
          · intro q; exact blt_irr _ (blt_tr _ _ _ q (h1 a ha))
          · exact hs'.2.2 a ha b hb
    refine loop_up1 out.length (fun n => ∀ y ∈ out.take n, blt y l[i]) (by simp) fun K2 n hn hI hK2 => ?_
    unfold ref32_Sorted_l2
    refine ⟨fun c2 => ?_, fun c2 => j1 n hn hI fun q => by omega⟩
    have hn2 : n < out.length := by omega
    rw [gi_nat hn2, gi_nat hlt]
    refine ⟨by omega, by omega, less_ok ⟨fun q => ⟨by unfold I64; omega, hK2 (n + 1) (by omega) hn2 fun y hy => ?_⟩, fun q => j1 n hn hI fun _ => by simpa using q⟩⟩
    rw [List.take_succ_eq_append_getElem hn2] at hy
    rcases List.mem_append.1 hy with hy | hy
    · exact hI y hy
    · rw [List.mem_singleton] at hy; subst hy; simpa using q
  · have : i = l.length := by omega
    subst this; rw [List.take_length] at hp; exact h out hp hs
theorem refStar_ok {r : Int} {ms : List Int} {Q : Int → List Br → Prop} (hm : ms.length ≤ 100000) (h : ∀ L, L.Perm (ms.map fun m => (r, m)) → (L.Pairwise fun x y => ¬ blt y x) → Q r L) : ref33_Star_W r ms Q := by
  refine loop_up ms.length (fun i s => s = (ms.take i).map fun m => (r, m)) (by simp) fun K i s hi hs hK => ?_
  have hsl : s.length = i := by rw [hs]; simp; omega
  show ref33_Star_l1 _ _ _ _ s (i : Int)
  unfold ref33_Star_l1
  refine ⟨fun c => ?_, fun c => ?_⟩
  · have hlt : i < ms.length := by omega
    refine ⟨by omega, by simp only [List.length_cons, List.length_nil]; omega, by unfold I64; omega, hK (i + 1) _ (by omega) hlt ?_⟩
    rw [hs, List.take_succ_eq_append_getElem hlt, gi_nat hlt, List.map_append]; rfl
  · have : i = ms.length := by omega
    subst this
    rw [List.take_length] at hs
    exact sorted_ok (by omega) fun L hp hsrt => h L (by rw [← hs]; exact hp) hsrt
theorem flat_rep_len (f : Nat) : ∀ l : List Int, (l.flatMap fun x => List.replicate f x).length = l.length * f
  | [] => by simp
  | a :: l => by rw [List.flatMap_cons, List.length_append, flat_rep_len f l, List.length_replicate, List.length_cons, Nat.add_mul, Nat.one_mul]; omega
theorem places_get {r : Int} {ss : List Int} {fan : Nat} (hf : 1 ≤ fan) {i : Nat} (hi : i < (ss.length + 1) * fan) {p : List Int} (hp : p = (r :: ss).flatMap fun x => List.replicate fan x) : gi p (i : Int) = gi (r :: ss) ((i / fan : Nat) : Int) := by
  subst hp
  have key : ∀ (l : List Int) (i : Nat), i < l.length * fan → gi (l.flatMap fun x => List.replicate fan x) (i : Int) = gi l ((i / fan : Nat) : Int) := by
    intro l
    induction l with
    | nil => intro i hi; simp at hi
    | cons a l ih =>
      intro i hi
      rw [List.flatMap_cons]
      by_cases c : i < fan
      · have e : i / fan = 0 := Nat.div_eq_of_lt c
        rw [e]
        simp only [gi, Int.toNat_natCast, List.getD_eq_getElem?_getD]
        rw [List.getElem?_append_left (by simpa using c), List.getElem?_replicate, if_pos c]; rfl
      · have e : i / fan = (i - fan) / fan + 1 := by
          rw [Nat.div_eq_sub_div (by omega) (by omega)]
        have := ih (i - fan) (by rw [List.length_cons, Nat.add_mul, Nat.one_mul] at hi; omega)
        simp only [gi, Int.toNat_natCast, List.getD_eq_getElem?_getD] at this ⊢
        rw [List.getElem?_append_right (by simpa using Nat.le_of_not_lt c), List.length_replicate, this, e, List.getElem?_cons_succ]
  exact key (r :: ss) i (by simpa using hi)
def FitsP (m s f : Nat) : Prop := ∃ k, NeedIs m f k ∧ k ≤ s
theorem refFits_ok {m s f : Nat} {Q : Bool → Prop} (hm : m ≤ 400) (hf : 1 ≤ f ∧ f ≤ 1000) (h : ∀ b : Bool, (b = true ↔ FitsP m s f) → Q b) : ref33_Fits_W (m : Int) (s : Int) (f : Int) Q := by
  refine refNeed_ok hm hf (fun k hk => ⟨fun _ => h _ ?_, fun c => by omega⟩) (fun hn => ⟨fun c => by omega, fun _ => h false ⟨(fun q => by cases q), fun ⟨k, hk, _⟩ => by have := hn k; have := hk.1; omega⟩⟩)
  rw [decide_eq_true_eq]
  constructor
  · intro q; exact ⟨k, hk, by omega⟩
  · rintro ⟨k', hk', q⟩; rw [← hk.uniq hk'] at q; omega
theorem refMake_ok {r : Int} {ms xs : List Int} {fan : Nat} {Q : Int → List Br → Prop} (hm : ms.length + xs.length < 256) (hf : 1 ≤ fan ∧ fan ≤ 1000)
    (h1 : ¬ FitsP ms.length xs.length fan → ∀ L, L.Perm (ms.map fun m => (r, m)) → (L.Pairwise fun x y => ¬ blt y x) → Q r L)
    (h2 : ∀ k, NeedIs ms.length fan k → k ≤ xs.length → ∀ L, L.Perm (mkl r (xs.take k) ms fan) → (L.Pairwise fun x y => ¬ blt y x) → Q r L) : ref33_Make_W r ms xs (fan : Int) Q := by
  have star : ¬ FitsP ms.length xs.length fan → ∀ k : Int, ref33_Make_j1 r ms xs (fan : Int) Q k true := fun hn k => ⟨fun _ => refStar_ok (by omega) (h1 hn), fun c => by cases c⟩
  refine refNeed_ok (by omega) hf (fun k hk => ⟨fun c => by omega, fun _ => ?_⟩) (fun hn => ⟨fun _ => star (fun ⟨k, hk, _⟩ => by have := hn k; have := hk.1; omega) _, fun c => by omega⟩)
  by_cases hkx : k ≤ xs.length
  · have hd : decide ((xs.length : Int) < (k : Int)) = false := by simp; omega
    rw [hd]
    have hct : cut xs 0 (k : Int) = xs.take k := cut0n _ _
    refine ⟨(fun c => by cases c), fun _ => ?_⟩
    rw [hct]
    have hsl : (xs.take k).length = k := by simp; omega
    have hkm := hk.le
    refine ⟨by omega, by simp only [List.length_nil]; omega, by simp only [List.nil_append]; omega, ?_⟩
    have hfan : k * fan ≤ 256 * 1000 := Nat.mul_le_mul (by omega) hf.2
    refine loop_up fan (fun i s => s = List.replicate i r) (by simp) fun K i p hi hp hK => ?_
    have hpl : p.length = i := by rw [hp]; simp
    show ref33_Make_l1 _ _ _ _ _ _ _ p (i : Int)
    unfold ref33_Make_l1
    refine ⟨fun c => ⟨by simp only [List.length_cons, List.length_nil]; omega, by unfold I64; omega, hK (i + 1) _ (by omega) (by omega) (by rw [hp, List.replicate_succ'])⟩, fun c => ?_⟩
    have hi2 : i = fan := by omega
    subst hi2
    refine loop_up k (fun n s => s = (r :: xs.take n).flatMap fun x => List.replicate i x) (by rw [hp]; simp) fun K2 n p2 hn hp2 hK2 => ?_
    have hp2l : p2.length = (n + 1) * i := by rw [hp2, flat_rep_len, List.length_cons, List.length_take, Nat.min_eq_left (by omega)]
    have hni : n * i ≤ k * i := Nat.mul_le_mul_right _ hn
    rw [Nat.add_mul, Nat.one_mul] at hp2l
    show ref33_Make_l2 _ _ _ _ _ _ _ p2 (n : Int)
    unfold ref33_Make_l2
    refine ⟨fun c => ?_, fun c => ?_⟩
    · have hnx : n < xs.length := by omega
      refine loop_up i (fun j s => s = p2 ++ List.replicate j xs[n]) (by simp) fun K3 j p3 hj hp3 hK3 => ?_
      have hp3l : p3.length = p2.length + j := by rw [hp3]; simp
      show ref33_Make_l3 _ _ _ _ _ p3 (j : Int)
      unfold ref33_Make_l3
      rw [gi_nat hnx]
      refine ⟨fun c => ⟨by omega, by simp only [List.length_cons, List.length_nil]; omega, by unfold I64; omega, hK3 (j + 1) _ (by omega) (by omega) (by rw [hp3, List.replicate_succ', List.append_assoc])⟩, fun c => ⟨by unfold I64; omega, hK2 (n + 1) _ (by omega) (by omega) ?_⟩⟩
      have : j = i := by omega
      subst this
      rw [hp3, hp2, List.take_succ_eq_append_getElem hnx, ← List.cons_append, List.flatMap_append]; simp only [List.flatMap_cons, List.flatMap_nil, List.append_nil]
    · have hn2 : n = k := by omega
      subst hn2
      generalize hss : xs.take n = ss at hsl h2 hp2 hct
      subst hsl
      have hkn := hk.1
      have hb : ss.length + ms.length ≤ (ss.length + 1) * i := by
        have h3 : ss.length * (i - 1) + ss.length = ss.length * i := by rw [← Nat.mul_succ]; congr 1; omega
        rw [Nat.add_mul]; omega
      refine loop_up (ss.length + ms.length) (fun j s => s = (List.range j).map (mkb r ss ms i)) (by simp) fun K4 j s hj hs hK4 => ?_
      have hsl : s.length = j := by rw [hs]; simp
      show ref33_Make_l4 _ _ _ _ _ _ _ s (j : Int)
      unfold ref33_Make_l4
      simp only [List.nil_append]
      rw [show cut xs 0 (ss.length : Int) = ss from hct]
      have hlen : ((ss ++ ms).length : Int) = ((ss.length + ms.length : Nat) : Int) := by simp
      rw [hlen]
      refine ⟨fun c => ?_, fun c => ?_⟩
      · have hlt : j < ss.length + ms.length := by omega
        have hpg := places_get (r := r) (ss := ss) hf.1 (i := j) (by omega) hp2
        rw [hpg]
        have em : mkb r ss ms i j = (gi (r :: ss) ((j / i : Nat) : Int), gi (ss ++ ms) (j : Int)) := rfl
        rw [← em]
        refine ⟨by rw [hp2l]; rw [Nat.add_mul] at hb; omega, by omega, by simp only [List.length_cons, List.length_nil]; omega, by unfold I64; omega, hK4 (j + 1) _ (by omega) hlt ?_⟩
        rw [List.range_succ, List.map_append, hs]; rfl
      · have : j = ss.length + ms.length := by omega
        subst this
        have hs' : s = mkl r ss ms i := hs
        subst hs'
        exact sorted_ok (by omega) fun L hp hsrt => h2 ss.length hk hkx L (by rw [hss]; exact hp) hsrt
  · have hd : decide ((xs.length : Int) < (k : Int)) = true := by simp; omega
    rw [hd]
    exact star (fun ⟨k', hk', q⟩ => by rw [← hk.uniq hk'] at q; omega) _
theorem adj_of {l : List Int} {i : Nat} (hi : i ≤ l.length) (h : ∀ j, (hj : j + 1 < i) → l[j]'(by omega) < l[j + 1]'(by omega)) : (l.take i).Pairwise (· < ·) := by
  induction i with
  | zero => simp
  | succ i ih =>
    rw [List.take_succ_eq_append_getElem (by omega)]
    refine pw_snoc (fun a b c => by omega) (ih (by omega) fun j hj => h j (by omega)) fun y hy => ?_
    rcases Nat.eq_zero_or_pos i with rfl | hpos
    · simp at hy
    · rw [last_take (by omega) (by omega)] at hy
      injection hy with hy; subst hy
      have := h (i - 1) (by omega)
      simpa [show i - 1 + 1 = i by omega] using this
theorem refRises_ok {l : List Int} {Q : Bool → Prop} (hl : l.length ≤ 100000) (h : ∀ b : Bool, (b = true ↔ l.Pairwise (· < ·)) → Q b) : ref33_Rises_W l Q := by
  refine loop_from (fun s => s) 1 (l.length + 1) (fun i _ => (1 ≤ i ∧ (i ≤ l.length ∨ i = 1)) ∧ ∀ j, (hj : j + 1 < i) → (hi : i ≤ l.length) → l[j]'(by omega) < l[j + 1]'(by omega)) rfl (by omega) ⟨by omega, by omega⟩ ?_
  rintro K i _ rfl hi ⟨⟨h1, h1'⟩, hI⟩ hK
  unfold ref33_Rises_l1
  refine ⟨fun c => ?_, fun c => ?_⟩
  · have hlt : i < l.length := by omega
    have hi1 : i - 1 < l.length := by omega
    rw [show (i : Int) - 1 = ((i - 1 : Nat) : Int) by omega, gi_nat hi1, gi_nat hlt]
    refine ⟨by unfold I64; omega, by omega, by omega, fun e => h false ⟨(fun q => by cases q), fun q => ?_⟩, fun e => ⟨by unfold I64; omega, hK (i + 1) _ rfl (by omega) (by omega) ⟨by omega, fun j hj _ => ?_⟩⟩⟩
    · have := List.pairwise_iff_getElem.1 q (i - 1) i hi1 hlt (by omega); omega
    · by_cases e2 : j + 1 = i
      · subst e2; simp only [Nat.add_sub_cancel] at e; omega
      · exact hI j (by omega) (by omega)
  · refine h true ⟨fun _ => ?_, fun _ => rfl⟩
    by_cases e : l.length = 0
    · rw [List.length_eq_zero_iff.1 e]; simp
    · have hil : i = l.length := by omega
      subst hil
      have := adj_of (l := l) (Nat.le_refl _) fun j hj => hI j hj (Nat.le_refl _)
      rwa [List.take_length] at this
end Go.Wk
namespace Go.Wk
open Go.HL
variable [DM]
theorem lessI_ok {x y : Int} {Q : Bool → Prop} (h : Q (decide (x < y))) : cmp_Less_int_W x y Q := isNaN_ok ⟨fun c => by simp at c, fun _ => h⟩
theorem mid_eq (a b : Nat) (h : a + b ≤ 1000000) : (IntKind.u64.wrap ((a : Int) + (b : Int))).fdiv (2 ^ (min (1 : Int).toNat IntKind.u64.bits)) = (((a + b) / 2 : Nat) : Int) := by
  have h1 : IntKind.u64.wrap ((a : Int) + (b : Int)) = ((a + b : Nat) : Int) := by
    rw [wrap_id]
    · rfl
    · show (0 : Int) ≤ _; omega
    · have : IntKind.u64.max = 18446744073709551615 := by decide
      rw [this]; omega
  have h2 : ((2 : Int) ^ (min (1 : Int).toNat IntKind.u64.bits)) = 2 := by decide
  rw [h1, h2, Int.fdiv_eq_ediv_of_nonneg _ (by omega)]; omega
theorem bsearch_ok {x : List Int} {t : Int} {Q : Int → Bool → Prop} (hl : x.length ≤ 100000) (hs : x.Pairwise (· < ·)) (h : ∀ i : Nat, (∀ k (hk : k < x.length), k < i → x[k] < t) → (∀ k (hk : k < x.length), i ≤ k → t ≤ x[k]) → i ≤ x.length → Q (i : Int) (decide (t ∈ x))) : slices_BinarySearch_s_int_int_W x t Q := by
  refine ⟨fun s => ∃ a b : Nat, s = ((a : Int), (b : Int)) ∧ a ≤ b ∧ b ≤ x.length ∧ (∀ k (hk : k < x.length), k < a → x[k] < t) ∧ ∀ k (hk : k < x.length), b ≤ k → t ≤ x[k], fun s => (s.2 - s.1).toNat, ⟨0, x.length, rfl, by omega, by omega, by omega, fun k hk q => by omega⟩, ?_⟩
  rintro _ ⟨a, b, rfl, hab, hb, h1, h2⟩
  show slices_BinarySearch_s_int_int_l1 _ _ _ _ (a : Int) (b : Int)
  unfold slices_BinarySearch_s_int_int_l1
  refine ⟨fun c => ?_, fun c => ?_⟩
  · have hm1 : a ≤ (a + b) / 2 := by omega
    have hm2 : (a + b) / 2 < b := by omega
    rw [mid_eq a b (by omega)]
    have hmx : (a + b) / 2 < x.length := by omega
    rw [gi_nat hmx]
    generalize (a + b) / 2 = m at *
    refine ⟨by unfold I64; omega, by unfold I64; omega, by omega, lessI_ok ⟨fun q => ⟨by unfold I64; omega, ⟨m + 1, b, rfl, by omega, hb, fun k hk hkm => ?_, h2⟩, by simp only; omega⟩, fun q => ⟨⟨a, m, rfl, hm1, by omega, h1, fun k hk hkm => ?_⟩, by simp only; omega⟩⟩⟩
    · have q : x[m] < t := by simpa using q
      by_cases e : k = m
      · subst e; exact q
      · have := List.pairwise_iff_getElem.1 hs k m hk hmx (by omega); omega
    · have q : ¬ x[m] < t := by simpa using q
      by_cases e : k = m
      · subst e; omega
      · have := List.pairwise_iff_getElem.1 hs m k hmx hk (by omega); omega
  · have hba : b = a := by omega
    subst hba
    refine ⟨fun d => ?_, fun d => ?_⟩
    · have hlt : b < x.length := by omega
      rw [gi_nat hlt]
      refine ⟨by omega, fun e => ?_, fun e => ?_⟩
      · have := h b h1 h2 hb; rwa [decide_eq_true (by rw [← e]; exact List.getElem_mem hlt)] at this
      · have hno : t ∉ x := fun q => by
          obtain ⟨k, hk, hk2⟩ := List.mem_iff_getElem.1 q
          rcases Nat.lt_trichotomy k b with g | g | g
          · have := h1 k hk g; omega
          · subst g; exact e hk2
          · have := List.pairwise_iff_getElem.1 hs b k hlt hk g
            have := h2 b hlt (Nat.le_refl _); omega
        have hq := h b h1 h2 hb
        rw [decide_eq_false hno] at hq
        exact ⟨fun q => by simp at q, fun _ => hq⟩
    · have hno : t ∉ x := fun q => by
        obtain ⟨k, hk, hk2⟩ := List.mem_iff_getElem.1 q
        have := h1 k hk (by omega); omega
      have hq := h b h1 h2 hb
      rwa [decide_eq_false hno] at hq
theorem Rch.perm {L M : List Br} {a x : Int} (hp : L.Perm M) (h : Rch L a x) : Rch M a x := h.mono fun e he => hp.mem_iff.1 he
theorem kids_perm {L M : List Br} (hp : L.Perm M) (x : Int) : (kids L x).Perm (kids M x) := (hp.filter _).map _
theorem LeafIs.perm {L M : List Br} {r : Int} {l : List Int} (hp : L.Perm M) (h : LeafIs M r l) : LeafIs L r l := ⟨h.ris, fun x => by
  rw [h.mem x]
  have e1 : Rch M r x ↔ Rch L r x := ⟨Rch.perm hp.symm, Rch.perm hp⟩
  have e2 : kids M x = [] ↔ kids L x = [] := by
    rw [← List.length_eq_zero_iff, ← List.length_eq_zero_iff, (kids_perm hp x).length_eq]
  rw [e1, e2]⟩
theorem gi_memI {l : List Int} {i : Nat} (h : i < l.length) : gi l (i : Int) ∈ l := by rw [gi_nat h]; exact List.getElem_mem h
section
variable {r : Int} {ss ms : List Int} {fan : Nat}
theorem mem_mkl {e : Br} : e ∈ mkl r ss ms fan ↔ ∃ i, i < ss.length + ms.length ∧ e = mkb r ss ms fan i := by
  unfold mkl; rw [List.mem_map]
  constructor
  · rintro ⟨i, hi, rfl⟩; exact ⟨i, List.mem_range.1 hi, rfl⟩
  · rintro ⟨i, hi, rfl⟩; exact ⟨i, List.mem_range.2 hi, rfl⟩
theorem mk_bound (hf : 1 ≤ fan) (hk : NeedIs ms.length fan ss.length) {i : Nat} (hi : i < ss.length + ms.length) : i / fan < ss.length + 1 := by
  rw [Nat.div_lt_iff_lt_mul (by omega)]
  have h3 : ss.length * (fan - 1) + ss.length = ss.length * fan := by rw [← Nat.mul_succ]; congr 1; omega
  have := hk.1
  rw [Nat.add_mul]; omega
theorem nd_inj {α : Type} {l : List α} (hn : l.Nodup) {i j : Nat} {hi : i < l.length} {hj : j < l.length} (e : l[i] = l[j]) : i = j := by
  rcases Nat.lt_trichotomy i j with q | q | q
  · exact absurd e (List.pairwise_iff_getElem.1 hn i j hi hj q)
  · exact q
  · exact absurd e.symm (List.pairwise_iff_getElem.1 hn j i hj hi q)
theorem range_gi (l : List Int) : (List.range l.length).map (fun i : Nat => gi l (i : Int)) = l := by
  apply List.ext_getElem
  · simp
  · intro i h1 h2
    simp only [List.getElem_map, List.getElem_range]
    exact gi_nat h2
theorem mk_to : (mkl r ss ms fan).map (·.2) = ss ++ ms := by
  have := range_gi (ss ++ ms)
  rw [List.length_append] at this
  unfold mkl
  rw [List.map_map]; exact this
theorem mk_gd (hN : (r :: (ss ++ ms)).Nodup) (hf : 1 ≤ fan) (hk : NeedIs ms.length fan ss.length) : Gd0 r (mkl r ss ms fan) := by
  rw [List.nodup_cons] at hN
  have key : ∀ i, i < ss.length + ms.length → Rch (mkl r ss ms fan) r (mkb r ss ms fan i).2 := by
    intro i
    induction i using Nat.strongRecOn with
    | _ i ih =>
      intro hi
      have hb := mk_bound hf hk hi
      have hd := Nat.div_le_self i fan
      have hm : mkb r ss ms fan i ∈ mkl r ss ms fan := mem_mkl.2 ⟨i, hi, rfl⟩
      have hx : Rch (mkl r ss ms fan) r (mkb r ss ms fan i).1 := by
        show Rch _ r (gi (r :: ss) ((i / fan : Nat) : Int))
        rcases hq : i / fan with _ | j
        · exact Rch.refl
        · have hj : j < ss.length := by omega
          have e : gi (r :: ss) ((j + 1 : Nat) : Int) = gi (ss ++ ms) (j : Int) := by
            simp only [gi, Int.toNat_natCast, List.getD_eq_getElem?_getD, List.getElem?_cons_succ]
            rw [List.getElem?_append_left hj]
          rw [e]; exact ih j (by omega) (by omega)
      exact hx.step hm
  refine ⟨fun e he => ?_, ?_, fun e he => ?_⟩
  · obtain ⟨i, hi, rfl⟩ := mem_mkl.1 he
    intro q
    exact hN.1 (q ▸ gi_memI (by simpa using hi))
  · rw [mk_to]; exact hN.2
  · obtain ⟨i, hi, rfl⟩ := mem_mkl.1 he; exact key i hi
theorem mk_from {e : Br} (hf : 1 ≤ fan) (hk : NeedIs ms.length fan ss.length) (he : e ∈ mkl r ss ms fan) : e.1 = r ∨ e.1 ∈ ss := by
  obtain ⟨i, hi, rfl⟩ := mem_mkl.1 he
  have hb := mk_bound hf hk hi
  have := gi_memI (l := r :: ss) (i := i / fan) (by simpa using hb)
  exact List.mem_cons.1 this
theorem mk_last (hf : 1 ≤ fan) (hk : NeedIs ms.length fan ss.length) {j : Nat} (hj : j < ss.length) : (j + 1) * fan < ss.length + ms.length := by
  have h1 : (j + 1) * fan ≤ ss.length * fan := Nat.mul_le_mul_right _ hj
  have h2 := hk.2 (ss.length - 1) (by omega)
  have h3 : ss.length * (fan - 1) + ss.length = ss.length * fan := by rw [← Nat.mul_succ]; congr 1; omega
  have h4 : (ss.length - 1) * (fan - 1) + (fan - 1) = ss.length * (fan - 1) := by rw [← Nat.succ_mul]; congr 1; omega
  omega
theorem mk_leaf (hN : (r :: (ss ++ ms)).Nodup) (hf : 1 ≤ fan) (hk : NeedIs ms.length fan ss.length) (hm : ms.Pairwise (· < ·)) : LeafIs (mkl r ss ms fan) r ms := by
  have g := mk_gd hN hf hk
  refine ⟨hm, fun x => ?_⟩
  have hr := g.reach (x := x)
  rw [mk_to] at hr
  rw [hr]
  rw [List.nodup_cons, List.nodup_append] at hN
  obtain ⟨h1, h2, h3, h4⟩ := hN
  constructor
  · intro hx
    have hxr : x ≠ r := by rintro rfl; exact h1 (List.mem_append_right _ hx)
    refine ⟨.inr (List.mem_append_right _ hx), hxr, ?_⟩
    rcases hq : kids (mkl r ss ms fan) x with _ | ⟨y, l⟩
    · rfl
    · have : (x, y) ∈ mkl r ss ms fan := mem_kids.1 (by rw [hq]; simp)
      rcases mk_from hf hk this with e | e
      · exact absurd e hxr
      · exact absurd rfl (h4 x e x hx)
  · rintro ⟨e, hxr, hkid⟩
    rcases e with e | e
    · exact absurd e hxr
    · rcases List.mem_append.1 e with e | e
      · exfalso
        obtain ⟨j, hj, rfl⟩ := List.mem_iff_getElem.1 e
        have hl := mk_last hf hk hj
        have hmem : mkb r ss ms fan ((j + 1) * fan) ∈ mkl r ss ms fan := mem_mkl.2 ⟨_, hl, rfl⟩
        have e1 : (mkb r ss ms fan ((j + 1) * fan)).1 = ss[j] := by
          show gi (r :: ss) (((j + 1) * fan / fan : Nat) : Int) = _
          rw [Nat.mul_div_cancel _ (by omega)]
          simp only [gi, Int.toNat_natCast, List.getD_eq_getElem?_getD, List.getElem?_cons_succ]
          rw [List.getElem?_eq_getElem hj]; rfl
        have : (mkb r ss ms fan ((j + 1) * fan)).2 ∈ kids (mkl r ss ms fan) ss[j] := mem_kids.2 (by rw [← e1]; exact hmem)
        rw [hkid] at this; cases this
      · exact e
theorem mk_fan (hN : (r :: (ss ++ ms)).Nodup) (hf : 1 ≤ fan) (hk : NeedIs ms.length fan ss.length) (x : Int) : (kids (mkl r ss ms fan) x).length ≤ fan := by
  have hN' : (r :: ss).Nodup := by
    rw [List.nodup_cons] at hN ⊢
    exact ⟨fun q => hN.1 (List.mem_append_left _ q), (List.nodup_append.1 hN.2).1⟩
  have hlen : (kids (mkl r ss ms fan) x).length = ((List.range (ss.length + ms.length)).filter fun i => decide ((mkb r ss ms fan i).1 = x)).length := by
    unfold kids mkl
    rw [List.length_map, List.filter_map, List.length_map]; rfl
  rw [hlen]
  rcases hq : (List.range (ss.length + ms.length)).filter fun i => decide ((mkb r ss ms fan i).1 = x) with _ | ⟨i0, l⟩
  · simp
  · rw [← hq]
    have hm : ∀ i, i ∈ (List.range (ss.length + ms.length)).filter (fun i => decide ((mkb r ss ms fan i).1 = x)) → i < ss.length + ms.length ∧ gi (r :: ss) ((i / fan : Nat) : Int) = x := fun i hi => by
      rw [List.mem_filter, List.mem_range, decide_eq_true_eq] at hi; exact hi
    have h0 := hm i0 (by rw [hq]; simp)
    have hb0 := mk_bound hf hk h0.1
    have := nodup_le (l := (List.range (ss.length + ms.length)).filter fun i => decide ((mkb r ss ms fan i).1 = x)) (m := List.range' (i0 / fan * fan) fan) (List.Nodup.sublist List.filter_sublist List.nodup_range) fun i hi => by
      obtain ⟨h1, h2⟩ := hm i hi
      have hb := mk_bound hf hk h1
      have e : i / fan = i0 / fan := by
        have e1 : (r :: ss)[i / fan]'(by simpa using hb) = (r :: ss)[i0 / fan]'(by simpa using hb0) := by
          rw [← gi_nat (l := r :: ss) (by simpa using hb), ← gi_nat (l := r :: ss) (by simpa using hb0), h2, h0.2]
        exact nd_inj hN' e1
      rw [List.mem_range']
      have h5 := Nat.div_add_mod i fan
      have h6 := Nat.mod_lt i (show 0 < fan by omega)
      refine ⟨i % fan, h6, ?_⟩
      rw [← e, Nat.mul_comm (i / fan)]; omega
    rwa [List.length_range'] at this
end
theorem star_ris {r : Int} {ms : List Int} (hm : ms.Pairwise (· < ·)) : (ms.map fun m => ((r, m) : Br)).Pairwise blt := List.pairwise_map.2 (hm.imp fun {a b} h => .inr ⟨rfl, h⟩)
theorem star_gd {r : Int} {ms : List Int} (hr : r ∉ ms) (hn : ms.Nodup) : Gd0 r (ms.map fun m => ((r, m) : Br)) := by
  refine ⟨fun e he => ?_, ?_, fun e he => ?_⟩
  · obtain ⟨m, hm, rfl⟩ := List.mem_map.1 he
    intro q; exact hr (q ▸ hm)
  · rw [List.map_map]; simpa [Function.comp_def] using hn
  · obtain ⟨m, hm, rfl⟩ := List.mem_map.1 he
    exact Rch.refl.step he
theorem star_leaf {r : Int} {ms : List Int} (hr : r ∉ ms) (hm : ms.Pairwise (· < ·)) : LeafIs (ms.map fun m => ((r, m) : Br)) r ms := by
  have g := star_gd hr (rise_nodup hm)
  refine ⟨hm, fun x => ?_⟩
  have hre := g.reach (x := x)
  rw [List.map_map] at hre
  have e : ms.map ((fun e : Br => e.2) ∘ fun m => ((r, m) : Br)) = ms := by simp [Function.comp_def]
  rw [hre, e]
  constructor
  · intro hx
    have hxr : x ≠ r := by rintro rfl; exact hr hx
    refine ⟨.inr hx, hxr, ?_⟩
    rcases hq : kids (ms.map fun m => ((r, m) : Br)) x with _ | ⟨y, l⟩
    · rfl
    · have : (x, y) ∈ ms.map fun m => ((r, m) : Br) := mem_kids.1 (by rw [hq]; simp)
      obtain ⟨m, _, q⟩ := List.mem_map.1 this
      injection q with q1 q2; exact absurd q1.symm hxr
  · rintro ⟨e, hxr, _⟩
    rcases e with e | e
    · exact absurd e hxr
    · exact e
structure ValidP (r : Int) (L : List Br) (root : Int) (ms ss : List Int) (fan : Nat) : Prop where
  good : Gd r L
  rt : r = root
  rm : ms.Pairwise (· < ·)
  rs : ss.Pairwise (· < ·)
  leaf : LeafIs L r ms
  inn : ∀ e ∈ L, e.1 = root ∨ e.1 ∈ ss
  fan : ∀ f, FanIs L f → f ≤ fan ∨ (¬ FitsP ms.length ss.length fan ∧ L = ms.map fun m => (root, m))
theorem refValid_ok {r root : Int} {L : List Br} {ms ss : List Int} {fan : Nat} {Q : Bool → Prop} (hl : L.length ≤ 100000) (hm : ms.length ≤ 400) (hs : ss.length ≤ 400) (hf : 1 ≤ fan ∧ fan ≤ 1000) (h : ∀ b : Bool, (b = true ↔ ValidP r L root ms ss fan) → Q b) : ref33_Valid_W r L root ms ss (fan : Int) Q := by
  have no : ¬ ValidP r L root ms ss fan → Q false := fun c => h false ⟨(fun q => by cases q), fun q => absurd q c⟩
  have jt : ¬ ValidP r L root ms ss fan → ref33_Valid_j1 r L root ms ss (fan : Int) Q true := fun c => ⟨fun _ => no c, fun q => by cases q⟩
  refine refGood_ok hl fun b hb => ⟨fun c => jt fun v => ?_, fun c => ?_⟩
  · rw [hb.2 v.good] at c; cases c
  have g : Gd r L := hb.1 (by simpa using c)
  refine ⟨fun d => jt fun v => d v.rt, fun d => refRises_ok (by omega) fun b1 h1 => ⟨fun c => jt fun v => ?_, fun c1 => refRises_ok (by omega) fun b2 h2 => ⟨fun c => jt fun v => ?_, fun c2 => refLeaves_ok hl fun lv hlv => eqI_ok ?_ ?_⟩⟩⟩
  · rw [h1.2 v.rm] at c; cases c
  · rw [h2.2 v.rs] at c; cases c
  · have hle := nodup_le (m := r :: L.map (·.2)) (rise_nodup hlv.ris) fun x hx => g.toGd0.isR.mem x |>.2 ((hlv.mem x).1 hx).1
    simp at hle; omega
  by_cases e : lv = ms
  · subst e
    rw [decide_eq_true rfl]
    refine ⟨fun c => by simp at c, fun _ => nodes_ok hl fun N hN hR => ?_⟩
    have hNl := hR.len_le
    have hrm := h1.1 (by simpa using c1); have hrs := h2.1 (by simpa using c2)
    have lf : ∀ x, Rch L r x → x ≠ r → kids L x = [] → x ∈ lv := fun x h1 h2 h3 => (hlv.mem x).2 ⟨h1, h2, h3⟩
    have bad : ∀ x, Rch L r x → x ≠ root → kids L x ≠ [] → x ∉ ss → ¬ ValidP r L root lv ss fan := fun x h1 h2 h3 h4 v => by
      rcases hq : kids L x with _ | ⟨y, l⟩
      · exact h3 hq
      · have : (x, y) ∈ L := mem_kids.1 (by rw [hq]; simp)
        rcases v.inn _ this with p | p
        · exact h2 p
        · exact h4 p
    refine loop_up1 N.length (fun i => ∀ x ∈ N.take i, x = root ∨ kids L x = [] ∨ x ∈ ss) (by simp) fun K i hi hI hK => ?_
    unfold ref33_Valid_l1
    refine ⟨fun c => ?_, fun c => ?_⟩
    · have hlt : i < N.length := by omega
      have hxR : Rch L r N[i] := (hR.mem _).1 (List.getElem_mem hlt)
      have step : (N[i] = root ∨ kids L N[i] = [] ∨ N[i] ∈ ss) → K ((i : Int) + 1) := fun q => hK (i + 1) (by omega) hlt fun e he => by
        rw [List.take_succ_eq_append_getElem hlt] at he
        rcases List.mem_append.1 he with he | he
        · exact hI e he
        · rw [List.mem_singleton] at he; subst he; exact q
      have j2 : ref33_Valid_j2 r L root ss Q N (i : Int) K := by
        unfold ref33_Valid_j2
        rw [gi_nat hlt]
        refine ⟨by omega, fun q => refNext_ok hl ⟨fun q1 => has_ok (by omega) ⟨fun q2 => no (bad _ hxR q (fun e => by rw [e] at q1; simp at q1) (by simpa using q2)), fun q2 => ⟨by unfold I64; omega, step (.inr (.inr (by simpa using q2)))⟩⟩, fun q1 => ⟨by unfold I64; omega, step (.inr (.inl (List.length_eq_zero_iff.1 (by omega))))⟩⟩, fun q => ⟨by unfold I64; omega, step (.inl q)⟩⟩
      have hgi := gi_nat hlt
      refine ⟨by omega, fun q => has_ok (by omega) ⟨fun q1 => has_ok (by omega) ⟨fun q2 => no ?_, fun _ => j2⟩, fun _ => j2⟩, fun _ => j2⟩
      rw [hgi] at q q1 q2
      refine bad _ hxR q (fun e => ?_) (by simpa using q2)
      exact absurd (lf _ hxR (by rw [d]; exact q) e) (by simpa using q1)
    · have : i = N.length := by omega
      subst this
      rw [List.take_length] at hI
      have hinn : ∀ e ∈ L, e.1 = root ∨ e.1 ∈ ss := fun e he => by
        have hx := g.toGd0.from_ (x := e.1) (y := e.2) he
        rcases hI _ ((hR.mem _).2 hx) with p | p | p
        · exact .inl p
        · have : e.2 ∈ kids L e.1 := mem_kids.2 he
          rw [p] at this; cases this
        · exact .inr p
      refine refFan_ok hl g.toGd0 fun f _ hfi => ⟨fun q => h true ⟨fun _ => ⟨g, d, hrm, hrs, hlv, hinn, fun f' hf' => .inl ?_⟩, fun _ => rfl⟩, fun q => refFits_ok (by omega) hf fun b3 h3 => ⟨fun q3 => refStar_ok (by omega) fun S hp hsrt => refSame_ok (by omega) (h _ ?_), fun q3 => no fun v => ?_⟩⟩
      · rw [hf'.uniq hfi]; omega
      · have hS : S = lv.map fun m => (root, m) := sorted_uniq hp hsrt (blt_weak (star_ris hrm))
        subst hS
        have hnf : ¬ FitsP lv.length ss.length fan := fun q' => by rw [h3.2 q'] at q3; cases q3
        rw [decide_eq_true_eq]
        constructor
        · intro q'; exact ⟨g, d, hrm, hrs, hlv, hinn, fun f' hf' => .inr ⟨hnf, q'.2⟩⟩
        · intro v
          rcases v.fan f hfi with p | p
          · omega
          · exact ⟨d, p.2⟩
      · have hfp := h3.1 (by simpa using q3)
        rcases v.fan f hfi with p | p
        · omega
        · exact p.1 hfp
  · rw [decide_eq_false e]
    exact jt fun v => e (hlv.uniq v.leaf)
end Go.Wk
namespace Go.Wk
open Go.HL
variable [DM]
structure AskIs (r : Int) (m s : List Int) (k : Nat) : Prop where
  rm : m.Pairwise (· < ·)
  rs : s.Pairwise (· < ·)
  nm : r ∉ m
  ns : r ∉ s
  off : ∀ x ∈ s, x ∉ m
  lm : m.length ≤ 20
  ls : s.length ≤ 12
  fan : 1 ≤ k ∧ k ≤ 64
theorem own_ok {r f : Int} {M S : List Int} {Q : Int → List Int → List Int → Int → Prop} (hf : 0 ≤ f ∧ f < 256) (h : ∀ m s (k : Nat), AskIs r m s k → Q r m s (k : Int)) : law33_Ask_Own_W r M S f Q := by
  refine loop_by (fun s => s.2) 21 (fun i s => i ≤ 20 ∧ s.1.length ≤ i ∧ s.1.Pairwise (· < ·) ∧ r ∉ s.1) rfl ⟨by omega, by simp, by simp, by simp⟩ ?_
  rintro K i ⟨m, _⟩ rfl hi ⟨hi2, lm, hm, nm⟩ hK
  simp only at lm hm nm hi hi2
  have fin : law33_Ask_Own_j1 r M S f Q m (i : Int) (fun l_1 i_1 => K (l_1, i_1)) false := by
    refine ⟨fun c => (by cases c), fun _ => ?_⟩
    refine loop_by (fun s => s.2) 13 (fun i s => i ≤ 12 ∧ s.1.length ≤ i ∧ s.1.Pairwise (· < ·) ∧ r ∉ s.1 ∧ ∀ x ∈ s.1, x ∉ m) rfl ⟨by omega, by simp, by simp, by simp, by simp⟩ ?_
    rintro K2 n ⟨s, _⟩ rfl hn ⟨hn2, ls, hs, ns, hd⟩ hK2
    simp only at ls hs ns hd hn hn2
    have fin2 : law33_Ask_Own_j2 r S f Q m s (n : Int) (fun l_3 i_2 => K2 (l_3, i_2)) false := by
      refine ⟨fun c => (by cases c), fun _ => ?_⟩
      obtain ⟨f, rfl⟩ := Int.eq_ofNat_of_zero_le hf.1
      have t3 : ((f : Int).tmod 64) = ((f % 64 : Nat) : Int) := by rw [Int.tmod_eq_emod_of_nonneg (by omega)]; rfl
      rw [t3, u8w_nat (by omega)]
      have e3 : (1 + ((f % 64 : Nat) : Int)) = ((1 + f % 64 : Nat) : Int) := by omega
      rw [e3]
      exact ⟨by omega, by unfold I64; omega, by unfold I64; omega, h m s _ ⟨hm, hs, nm, ns, hd, by omega, by omega, by omega⟩⟩
    have step2 : n < S.length → n < 12 → law33_Ask_Own_j2 r S f Q m s (n : Int) (fun l_3 i_2 => K2 (l_3, i_2)) true := by
      intro h1 h2
      have hl := len_addI s S[n]
      refine ⟨fun _ => ?_, fun c => (by cases c)⟩
      rw [gi_nat h1]
      have j3 : ∀ b : Bool, (b = true → S[n] ≠ r ∧ S[n] ∉ m) → law33_Ask_Own_j3 S s (n : Int) (fun l_3 i_2 => K2 (l_3, i_2)) b := by
        intro b hb
        unfold law33_Ask_Own_j3
        rw [gi_nat h1]
        refine ⟨fun q => ⟨by omega, add_ok (by omega) ⟨by unfold I64; omega, hK2 (n + 1) _ rfl (by omega) (by omega) ⟨by omega, by simp only; omega, rise_addI hs, fun q2 => ?_, fun x hx => ?_⟩⟩⟩, fun q => ⟨by unfold I64; omega, hK2 (n + 1) _ rfl (by omega) (by omega) ⟨by omega, by simp only; omega, hs, ns, hd⟩⟩⟩
        · rcases mem_addI.1 q2 with e | e
          · exact (hb q).1 e.symm
          · exact ns e
        · rcases mem_addI.1 hx with e | e
          · rw [e]; exact (hb q).2
          · exact hd x e
      exact ⟨by omega, fun q => has_ok (by omega) (j3 _ fun q2 => ⟨q, by simpa using q2⟩), fun q => j3 false fun q2 => by cases q2⟩
    show law33_Ask_Own_l4 _ _ _ _ _ _ s (n : Int)
    unfold law33_Ask_Own_l4
    refine ⟨fun c => ?_, fun c => fin2⟩
    by_cases c2 : n < 12
    · rw [decide_eq_true (by omega : (n : Int) < 12)]; exact step2 (by omega) c2
    · rw [decide_eq_false (by omega : ¬ (n : Int) < 12)]; exact fin2
  show law33_Ask_Own_l2 _ _ _ _ _ _ m (i : Int)
  unfold law33_Ask_Own_l2
  refine ⟨fun c => ?_, fun c => fin⟩
  by_cases c2 : i < 20
  · rw [decide_eq_true (by omega : (i : Int) < 20)]
    have h1 : i < M.length := by omega
    have hl := len_addI m M[i]
    refine ⟨fun _ => ?_, fun c => (by cases c)⟩
    rw [gi_nat h1]
    refine ⟨by omega, fun q => add_ok (by omega) ⟨by unfold I64; omega, hK (i + 1) _ rfl (by omega) (by omega) ⟨by omega, by simp only; omega, rise_addI hm, fun q2 => ?_⟩⟩, fun q => ⟨by unfold I64; omega, hK (i + 1) _ rfl (by omega) (by omega) ⟨by omega, by simp only; omega, hm, nm⟩⟩⟩
    rcases mem_addI.1 q2 with e | e
    · exact q e.symm
    · exact nm e
  · rw [decide_eq_false (by omega : ¬ (i : Int) < 20)]; exact fin
def MadeT (r : Int) (m x : List Int) (fan : Nat) (L : List Br) : Prop :=
  (¬ FitsP m.length x.length fan ∧ L = m.map fun n => (r, n)) ∨
  ∃ k, NeedIs m.length fan k ∧ k ≤ x.length ∧ L.Perm (mkl r (x.take k) m fan) ∧ (L.Pairwise fun a b => ¬ blt b a)
theorem MadeT.uniq {r : Int} {m x : List Int} {fan : Nat} {L M : List Br} (h : MadeT r m x fan L) (k : MadeT r m x fan M) : L = M := by
  rcases h with ⟨h1, rfl⟩ | ⟨a, ha, hax, hp, hs⟩ <;> rcases k with ⟨k1, rfl⟩ | ⟨b, hb, hbx, kp, ks⟩
  · rfl
  · exact absurd ⟨b, hb, hbx⟩ h1
  · exact absurd ⟨a, ha, hax⟩ k1
  · have := ha.uniq hb; subst this
    exact sorted_uniq (hp.trans kp.symm) hs ks
section
variable {r : Int} {m x : List Int} {fan : Nat} {L : List Br}
theorem take_nd (hN : (r :: (x ++ m)).Nodup) (k : Nat) : (r :: (x.take k ++ m)).Nodup :=
  List.Nodup.sublist (List.Sublist.cons_cons _ ((List.take_sublist k x).append_right m)) hN
theorem MadeT.good (hN : (r :: (x ++ m)).Nodup) (hm : m.Pairwise (· < ·)) (hl : m.length + x.length < 256) (hf : 1 ≤ fan) (h : MadeT r m x fan L) : Gd r L := by
  have hn := (List.nodup_cons.1 hN)
  rcases h with ⟨h1, rfl⟩ | ⟨k, hk, hkx, hp, hs⟩
  · have hr : r ∉ m := fun q => hn.1 (List.mem_append_right _ q)
    exact { toGd0 := star_gd hr (rise_nodup hm), ris := star_ris hm, few := by simp; omega }
  · have hsl : (x.take k).length = k := by simp; omega
    have g := (mk_gd (fan := fan) (take_nd hN k) hf (by rw [hsl]; exact hk)).perm hp
    refine { toGd0 := g, ris := blt_strict hs (g.nd |> fun q => ?_), few := ?_ }
    · have := g.ends; exact (List.pairwise_map.1 this).imp fun {a b} q e => q (by rw [e])
    · rw [hp.length_eq, mkl_len, hsl]; omega
theorem MadeT.leaf (hN : (r :: (x ++ m)).Nodup) (hm : m.Pairwise (· < ·)) (hf : 1 ≤ fan) (h : MadeT r m x fan L) : LeafIs L r m := by
  have hn := (List.nodup_cons.1 hN)
  rcases h with ⟨h1, rfl⟩ | ⟨k, hk, hkx, hp, hs⟩
  · exact star_leaf (fun q => hn.1 (List.mem_append_right _ q)) hm
  · have hsl : (x.take k).length = k := by simp; omega
    exact (mk_leaf (take_nd hN k) hf (by rw [hsl]; exact hk) hm).perm hp
theorem MadeT.fanle (hN : (r :: (x ++ m)).Nodup) (hf : 1 ≤ fan) (h : MadeT r m x fan L) (hF : FitsP m.length x.length fan) {f : Nat} (hfi : FanIs L f) : f ≤ fan := by
  rcases h with ⟨h1, rfl⟩ | ⟨k, hk, hkx, hp, hs⟩
  · exact absurd hF h1
  · have hsl : (x.take k).length = k := by simp; omega
    rcases hfi.is with e | ⟨y, hy⟩
    · omega
    · rw [← hy, (kids_perm hp y).length_eq]
      exact mk_fan (take_nd hN k) hf (by rw [hsl]; exact hk) y
theorem MadeT.valid {s : List Int} (hN : (r :: (x ++ m)).Nodup) (hm : m.Pairwise (· < ·)) (hl : m.length + x.length < 256) (hf : 1 ≤ fan) (hs : s.Pairwise (· < ·)) (hx : x.Perm s) (h : MadeT r m x fan L) : ValidP r L r m s fan := by
  refine ⟨h.good hN hm hl hf, rfl, hm, hs, h.leaf hN hm hf, fun e he => ?_, fun f hfi => ?_⟩
  · rcases h with ⟨h1, rfl⟩ | ⟨k, hk, hkx, hp, _⟩
    · obtain ⟨n, _, rfl⟩ := List.mem_map.1 he; exact .inl rfl
    · have hsl : (x.take k).length = k := by simp; omega
      rcases mk_from hf (by rw [hsl]; exact hk) (hp.mem_iff.1 he) with q | q
      · exact .inl q
      · exact .inr (hx.mem_iff.1 (List.mem_of_mem_take q))
  · by_cases c : FitsP m.length x.length fan
    · exact .inl (h.fanle hN hf c hfi)
    · rcases h with ⟨h1, rfl⟩ | ⟨k, hk, hkx, _⟩
      · exact .inr ⟨by rw [← hx.length_eq]; exact h1, rfl⟩
      · exact absurd ⟨k, hk, hkx⟩ c
theorem makeT_ok {Q : Int → List Br → Prop} (hN : (r :: (x ++ m)).Nodup) (hm : m.Pairwise (· < ·)) (hl : m.length + x.length < 256) (hf : 1 ≤ fan ∧ fan ≤ 1000) (h : ∀ L, MadeT r m x fan L → Q r L) : plan_Make_W r m x (fan : Int) Q := by
  refine make_ok hl hf (fun hno => h _ (.inl ⟨fun ⟨k, hk, hkx⟩ => by have := hno k hk; omega, rfl⟩)) fun k hk hkx L hp hs => ⟨fun _ => h L (.inr ⟨k, hk, hkx, hp, hs⟩), fun c => absurd ?_ c⟩
  exact MadeT.good hN hm hl hf.1 (fan := fan) (.inr ⟨k, hk, hkx, hp, hs⟩)
theorem refMakeT_ok {Q : Int → List Br → Prop} (hm : m.Pairwise (· < ·)) (hl : m.length + x.length < 256) (hf : 1 ≤ fan ∧ fan ≤ 1000) (h : ∀ L, MadeT r m x fan L → Q r L) : ref33_Make_W r m x (fan : Int) Q :=
  refMake_ok hl hf (fun hno L hp hs => h L (.inl ⟨hno, sorted_uniq hp hs (blt_weak (star_ris hm))⟩)) fun k hk hkx L hp hs => h L (.inr ⟨k, hk, hkx, hp, hs⟩)
end
theorem AskIs.nd {r : Int} {m s x : List Int} {k : Nat} (a : AskIs r m s k) (hx : x.Perm s) : (r :: (x ++ m)).Nodup := by
  rw [List.nodup_cons, List.nodup_append]
  refine ⟨fun q => ?_, hx.nodup_iff.2 (rise_nodup a.rs), rise_nodup a.rm, fun y hy z hz e => ?_⟩
  · rcases List.mem_append.1 q with q | q
    · exact a.ns (hx.mem_iff.1 q)
    · exact a.nm q
  · subst e; exact a.off y (hx.mem_iff.1 hy) hz
end Go.Wk
