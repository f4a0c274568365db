/- Plain words: what filters let through together; what a set prints; the laws MergeAll and MergeStates. -/
import Derived.Test.YtokodpeigafenaaDoorMrgP2
set_option linter.unusedSimpArgs false
set_option linter.unusedVariables false
set_option linter.unusedSectionVars false
namespace Go.Wk
open Go.HL
variable [DM]
abbrev Fi := T_api_Filter
/-! ### Texts -/
def four (n : Int) : Ad := (false, mkB 16 [10, 0, 0, n, 0, 0, 0, 0, 0, 0, 0, 0, 0, 0, 0, 0])
theorem fourP_ok {n : Int} {Q : Ad → Prop} (hn : 0 ≤ n ∧ n < 256) (h : Q (four n)) : law19_four_W n Q := ⟨hn, h⟩
def dots (a : Ad) : Str := joinS ((cut a.2.1 0 4).map fun x => dec (x.toNat : Int)) [46]
theorem textP_ok {a : Ad} {Q : Str → Prop} (h4 : a.1 = false) (hb : ∀ x ∈ cut a.2.1 0 4, x.toNat < 100) (hl : (dots a).length ≤ 1000) (h : Q (dots a)) : addr_text_W a Q := by
  have h44 : (cut a.2.1 0 4).length ≤ 4 := by unfold cut; simp; omega
  refine ⟨fun _ => ?_, fun c => by rw [h4] at c; cases c⟩
  refine loop_up (cut a.2.1 0 4).length (fun i s => s = ((cut a.2.1 0 4).take i).map fun x => dec (x.toNat : Int)) rfl fun K i s hi hs hK => ?_
  have e : s.length = i := by rw [hs, List.length_map, List.length_take]; omega
  show addr_text_l2 _ _ _ _ _
  unfold addr_text_l2
  refine ⟨fun d => ?_, fun d => ?_⟩
  · have h1 : i < (cut a.2.1 0 4).length := by omega
    have h2 := hb _ (List.getElem_mem h1)
    rw [gi_nat h1]
    refine ⟨by (first | omega | (unfold I64; omega) | (simp only [List.length_append, List.length_cons, List.length_nil, List.length_take, List.length_drop] at *; omega) | (unfold I64; simp only [List.length_append, List.length_cons, List.length_nil, List.length_take, List.length_drop] at *; omega)), by (first | omega | (unfold I64; omega) | (simp only [List.length_append, List.length_cons, List.length_nil, List.length_take, List.length_drop] at *; omega) | (unfold I64; simp only [List.length_append, List.length_cons, List.length_nil, List.length_take, List.length_drop] at *; omega)), ⟨by omega, by omega⟩, by (first | omega | (unfold I64; omega) | (simp only [List.length_append, List.length_cons, List.length_nil, List.length_take, List.length_drop] at *; omega) | (unfold I64; simp only [List.length_append, List.length_cons, List.length_nil, List.length_take, List.length_drop] at *; omega)), by (first | omega | (unfold I64; omega) | (simp only [List.length_append, List.length_cons, List.length_nil, List.length_take, List.length_drop] at *; omega) | (unfold I64; simp only [List.length_append, List.length_cons, List.length_nil, List.length_take, List.length_drop] at *; omega)), hK (i + 1) _ (by omega) (by omega) ?_⟩
    rw [List.take_succ_eq_append_getElem h1, List.map_append, hs]; rfl
  · have h3 : i = (cut a.2.1 0 4).length := by omega
    subst h3
    rw [List.take_length] at hs
    subst hs
    exact ⟨⟨by simp only [List.length_map]; omega, Nat.le_trans hl (by decide)⟩, h⟩
theorem printL_ok {l : List Ad} {Q : Str → Prop} (hne : l ≠ []) (hn : l.length ≤ 100) (ha : ∀ a ∈ l, a.1 = false ∧ (∀ x ∈ cut a.2.1 0 4, x.toNat < 100) ∧ (dots a).length ≤ 1000) (hl : (joinS (l.map dots) [44]).length ≤ 1000) (h : Q (joinS (l.map dots) [44])) : srcs_Print_W l Q := by
  have hpos : 0 < l.length := List.length_pos_iff.2 hne
  refine ⟨fun c => by omega, fun _ => ?_⟩
  refine loop_up l.length (fun i s => s = (l.take i).map dots) rfl fun K i s hi hs hK => ?_
  have e : s.length = i := by rw [hs, List.length_map, List.length_take]; omega
  show srcs_text_l1 _ _ _ _ _
  unfold srcs_text_l1
  refine ⟨fun d => ?_, fun d => ?_⟩
  · have h1 : i < l.length := by omega
    refine ⟨by (first | omega | (unfold I64; omega) | (simp only [List.length_append, List.length_cons, List.length_nil, List.length_take, List.length_drop] at *; omega) | (unfold I64; simp only [List.length_append, List.length_cons, List.length_nil, List.length_take, List.length_drop] at *; omega)), ?_⟩
    rw [gi_nat h1]
    have hx := ha _ (List.getElem_mem h1)
    refine textP_ok hx.1 hx.2.1 hx.2.2 ⟨by (first | omega | (unfold I64; omega) | (simp only [List.length_append, List.length_cons, List.length_nil, List.length_take, List.length_drop] at *; omega) | (unfold I64; simp only [List.length_append, List.length_cons, List.length_nil, List.length_take, List.length_drop] at *; omega)), by (first | omega | (unfold I64; omega) | (simp only [List.length_append, List.length_cons, List.length_nil, List.length_take, List.length_drop] at *; omega) | (unfold I64; simp only [List.length_append, List.length_cons, List.length_nil, List.length_take, List.length_drop] at *; omega)), hK (i + 1) _ (by omega) (by omega) ?_⟩
    rw [List.take_succ_eq_append_getElem h1, List.map_append, hs]; rfl
  · have h3 : i = l.length := by omega
    subst h3
    rw [List.take_length] at hs
    subst hs
    exact ⟨⟨by simp only [List.length_map]; omega, Nat.le_trans hl (by decide)⟩, h⟩
/-! ### Filters -/
def letsB (f : Bool × List Ad) (x : Ad) : Bool := !(aIn f.2 x == f.1)
def bare (f : Fi) : Bool × List Ad := (f.1, f.2.2)
def fewB (f : Fi) : Bool × List Ad := (f.1, ofL (f.2.2.take 6))
def exB (B : List (Bool × List Ad)) : Bool := B.any (·.1)
def anyB (B : List (Bool × List Ad)) (x : Ad) : Bool := B.any fun f => letsB f x
def inB (B : List (Bool × List Ad)) (x : Ad) : Bool := !(anyB B x == exB B)
structure Goods (l : List Fi) : Prop where
  set : ∀ f ∈ l, ASet f.2.2 ∧ f.2.2.length ≤ 6
  len : l.length ≤ 6
theorem exB_iff {l : List Fi} : exB (l.map bare) = true ↔ ∃ f ∈ l, f.1 = true := by unfold exB bare; simp [List.any_map]
theorem anyB_iff {l : List Fi} {x : Ad} : anyB (l.map bare) x = true ↔ ∃ f ∈ l, letsB (bare f) x = true := by unfold anyB; simp [List.any_map]
theorem lets0 {f : Fi} {x : Ad} (h : f.1 = false) : letsB (bare f) x = true ↔ x ∈ f.2.2 := by unfold letsB bare aIn; simp [h]
theorem lets1 {f : Fi} {x : Ad} (h : f.1 = true) : letsB (bare f) x = true ↔ x ∉ f.2.2 := by unfold letsB bare aIn; simp [h]
theorem inB0 {l : List Fi} {x : Ad} (h : exB (l.map bare) = false) : inB (l.map bare) x = true ↔ ∃ f ∈ l, f.1 = false ∧ x ∈ f.2.2 := by
  have h0 : ∀ f ∈ l, f.1 = false := fun f hf => by
    cases c : f.1 with
    | false => rfl
    | true => rw [exB_iff.2 ⟨f, hf, c⟩] at h; cases h
  unfold inB; rw [h]
  have : (!(anyB (l.map bare) x == false)) = anyB (l.map bare) x := by cases anyB (l.map bare) x <;> rfl
  rw [this, anyB_iff]
  exact ⟨fun ⟨f, hf, q⟩ => ⟨f, hf, h0 f hf, (lets0 (h0 f hf)).1 q⟩, fun ⟨f, hf, a, q⟩ => ⟨f, hf, (lets0 a).2 q⟩⟩
theorem inB1 {l : List Fi} {x : Ad} (h : exB (l.map bare) = true) : inB (l.map bare) x = true ↔ (∀ f ∈ l, f.1 = true → x ∈ f.2.2) ∧ ¬ ∃ f ∈ l, f.1 = false ∧ x ∈ f.2.2 := by
  unfold inB; rw [h]
  have : (!(anyB (l.map bare) x == true)) = !anyB (l.map bare) x := by cases anyB (l.map bare) x <;> rfl
  rw [this, Bool.not_eq_true', ← Bool.not_eq_true, anyB_iff]
  refine ⟨fun q => ⟨fun f hf a => ?_, fun ⟨f, hf, a, m⟩ => q ⟨f, hf, (lets0 a).2 m⟩⟩, fun ⟨q, r⟩ ⟨f, hf, m⟩ => ?_⟩
  · by_cases m : x ∈ f.2.2
    · exact m
    · exact absurd ⟨f, hf, (lets1 a).2 m⟩ q
  · cases c : f.1 with
    | false => exact r ⟨f, hf, c, (lets0 c).1 m⟩
    | true => exact (lets1 c).1 m (q f hf c)
theorem fewP_ok {e : Bool} {s : List Ad} {Q : Bool → List Ad → Prop} (h : Q e (ofL (s.take 6))) : law19_Few_W e s Q :=
  addrs_ok (ofR_ok (by rw [List.length_take]; omega) h)
theorem fewP_id {e : Bool} {s : List Ad} {Q : Bool → List Ad → Prop} (hs : ASet s) (hl : s.length ≤ 6) (h : Q e s) : law19_Few_W e s Q :=
  fewP_ok (by rw [List.take_of_length_le hl, ofL_id hs]; exact h)
theorem fewL_ok {l : List Fi} {Q : List Fi → Prop} (h : ∀ r, r.map bare = (l.take 6).map fewB → Q r) : law19_few_W l Q := by
  refine loop_up l.length (fun i s => s.map bare = (l.take i).map fewB ∧ i ≤ 6) ⟨rfl, by omega⟩ fun K i s hi ⟨hs, h6⟩ hK => ?_
  have e : s.length = i := by have := congrArg List.length hs; simp at this; omega
  have fin : ¬ (i < l.length ∧ i < 6) → Q s := fun q => h s (by
    rw [hs]
    by_cases c : i = 6
    · rw [c]
    · rw [List.take_of_length_le (by omega), List.take_of_length_le (by omega)])
  show law19_few_l1 _ _ _ _ _
  unfold law19_few_l1 law19_few_j1
  refine ⟨fun h1 => ⟨fun h2 => ⟨by (first | omega | (unfold I64; omega) | (simp only [List.length_append, List.length_cons, List.length_nil, List.length_take, List.length_drop] at *; omega) | (unfold I64; simp only [List.length_append, List.length_cons, List.length_nil, List.length_take, List.length_drop] at *; omega)), ?_⟩, fun h2 => ?_⟩, fun h1 => ⟨fun h => (by cases h), fun _ => fin (by omega)⟩⟩
  · have i1 : i < l.length := by omega
    have := of_decide_eq_true h2
    rw [gi_nat i1]
    refine fewP_ok fun v => ⟨by (first | omega | (unfold I64; omega) | (simp only [List.length_append, List.length_cons, List.length_nil, List.length_take, List.length_drop] at *; omega) | (unfold I64; simp only [List.length_append, List.length_cons, List.length_nil, List.length_take, List.length_drop] at *; omega)), by (first | omega | (unfold I64; omega) | (simp only [List.length_append, List.length_cons, List.length_nil, List.length_take, List.length_drop] at *; omega) | (unfold I64; simp only [List.length_append, List.length_cons, List.length_nil, List.length_take, List.length_drop] at *; omega)), hK (i + 1) _ (by omega) (by omega) ⟨?_, by omega⟩⟩
    rw [List.map_append, hs, List.take_succ_eq_append_getElem i1, List.map_append]; rfl
  · have := of_decide_eq_false h2; exact fin (by omega)
theorem goods_of {r l : List Fi} (h : r.map bare = (l.take 6).map fewB) : Goods r :=
  ⟨fun f hf => by
    have : bare f ∈ r.map bare := List.mem_map_of_mem hf
    rw [h] at this; obtain ⟨g, _, hg⟩ := List.mem_map.1 this
    have e : f.2.2 = ofL (g.2.2.take 6) := (congrArg Prod.snd hg).symm
    rw [e]; exact ⟨ofL_set _, Nat.le_trans (ofL_len _) (by rw [List.length_take]; omega)⟩,
   by have := congrArg List.length h; simp at this; omega⟩
theorem take_succ_mem {α : Type} {l : List α} {i : Nat} (h : i < l.length) {x : α} : x ∈ l.take (i + 1) ↔ x ∈ l.take i ∨ x = l[i] := by
  rw [List.take_succ_eq_append_getElem h, List.mem_append, List.mem_singleton]
theorem take_mem {α : Type} {l : List α} {i : Nat} {x : α} (h : x ∈ l.take i) : x ∈ l := List.mem_of_mem_take h
end Go.Wk
