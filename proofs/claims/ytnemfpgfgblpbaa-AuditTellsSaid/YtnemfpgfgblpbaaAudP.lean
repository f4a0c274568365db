/- Plain words: what the audit's parts say, at whatever. -/
import Derived.Test.YtnemfpgfgblpbaaAudW5
import Derived.Test.YtnemfpgfgblpbaaPl
set_option linter.unusedSimpArgs false
set_option linter.unusedVariables false
set_option linter.unusedSectionVars false
namespace Go.Wk
open Go.HL
variable [DM]
abbrev Spot := Int × Int
abbrev Given := Int × Int × Int × Int × Str
abbrev Port := Int × Int × Spot
theorem take_eq_of {α : Type} {l : List α} {i n : Nat} (h : ¬ (i < l.length ∧ i < n)) (h1 : i ≤ l.length) (h2 : i ≤ n) : l.take i = l.take n := by
  by_cases e : i = n
  · rw [e]
  · rw [List.take_of_length_le (by omega), List.take_of_length_le (by omega)]
theorem own_ok {l : List Spot} {Q : List Spot → Prop} (h : Q (l.take 8)) : law44_own_W l Q := by
  refine loop_up l.length (fun i s => s = l.take i ∧ i ≤ 8) ⟨rfl, by omega⟩ fun K i s hi ⟨hs, h8⟩ hK => ?_
  have e : s.length = i := by rw [hs, List.length_take]; omega
  show law44_own_l1 _ _ _ _ _
  unfold law44_own_l1 law44_own_j1
  refine ⟨fun h1 => ⟨fun h2 => ⟨by (first | omega | (unfold I64; omega) | (simp only [List.length_append, List.length_cons, List.length_nil, List.length_take, List.length_drop] at *; omega) | (unfold I64; simp only [List.length_append, List.length_cons, List.length_nil, List.length_take, List.length_drop] at *; omega)), by (first | omega | (unfold I64; omega) | (simp only [List.length_append, List.length_cons, List.length_nil, List.length_take, List.length_drop] at *; omega) | (unfold I64; simp only [List.length_append, List.length_cons, List.length_nil, List.length_take, List.length_drop] at *; omega)), by (first | omega | (unfold I64; omega) | (simp only [List.length_append, List.length_cons, List.length_nil, List.length_take, List.length_drop] at *; omega) | (unfold I64; simp only [List.length_append, List.length_cons, List.length_nil, List.length_take, List.length_drop] at *; omega)), hK (i + 1) _ (by omega) (by omega) ⟨?_, ?_⟩⟩, fun h2 => ?_⟩, fun h1 => ⟨fun h => (by cases h), fun _ => ?_⟩⟩
  · rw [hs, gi_nat (by omega), List.take_succ_eq_append_getElem (by omega)]
  · have := of_decide_eq_true h2; omega
  · have := of_decide_eq_false h2; rw [hs, take_eq_of (n := 8) (by omega) hi h8]; exact h
  · rw [hs, take_eq_of (n := 8) (by omega) hi h8]; exact h
/-- A given one as the law takes it. -/
def short (g : Given) : Given := (g.1, g.2.1, g.2.2.1, g.2.2.2.1, g.2.2.2.2.take 8)
theorem cut8_ok {s : Str} {Q : Str → Prop} (h : Q (s.take 8)) : law01_Cut_W s 8 Q := by
  unfold law01_Cut_W
  refine ⟨fun _ => ⟨by omega, by rw [cut0]; exact h⟩, fun h1 => ?_⟩
  rwa [List.take_of_length_le (by omega)] at h
theorem few_ok {l : List Given} {Q : List Given → Prop} (h : Q ((l.take 12).map short)) : law44_few_W l Q := by
  refine loop_up l.length (fun i s => s = (l.take i).map short ∧ i ≤ 12) ⟨rfl, by omega⟩ fun K i s hi ⟨hs, h8⟩ hK => ?_
  have e : s.length = i := by rw [hs, List.length_map, List.length_take]; omega
  show law44_few_l1 _ _ _ _ _
  unfold law44_few_l1 law44_few_j1
  refine ⟨fun h1 => ⟨fun h2 => ⟨by (first | omega | (unfold I64; omega) | (simp only [List.length_append, List.length_cons, List.length_nil, List.length_take, List.length_drop] at *; omega) | (unfold I64; simp only [List.length_append, List.length_cons, List.length_nil, List.length_take, List.length_drop] at *; omega)), cut8_ok (by dsimp only; exact ⟨by (first | omega | (unfold I64; omega) | (simp only [List.length_append, List.length_cons, List.length_nil, List.length_take, List.length_drop] at *; omega) | (unfold I64; simp only [List.length_append, List.length_cons, List.length_nil, List.length_take, List.length_drop] at *; omega)), by (first | omega | (unfold I64; omega) | (simp only [List.length_append, List.length_cons, List.length_nil, List.length_take, List.length_drop] at *; omega) | (unfold I64; simp only [List.length_append, List.length_cons, List.length_nil, List.length_take, List.length_drop] at *; omega)), hK (i + 1) _ (by omega) (by omega) ⟨by rw [hs, gi_nat (by omega), List.take_succ_eq_append_getElem (i := i) (l := l) (by omega), List.map_append]; rfl, by have := of_decide_eq_true h2; omega⟩⟩)⟩, fun h2 => ?_⟩, fun h1 => ⟨fun h => (by cases h), fun _ => ?_⟩⟩
  · have := of_decide_eq_false h2; rw [hs, take_eq_of (n := 12) (by omega) hi h8]; exact h
  · rw [hs, take_eq_of (n := 12) (by omega) hi h8]; exact h
theorem foldl_len {α β : Type} (p : α → Bool) (g : α → β) (l : List α) (i : Nat) (s : List β) (hs : s = (l.take i).foldl (fun s x => if p x then s ++ [g x] else s) []) : s.length ≤ i := by
  rw [hs, foldl_filter_map]
  refine Nat.le_trans (Nat.le_of_eq (by simp)) (Nat.le_trans (List.length_filter_le p (l.take i)) ?_)
  rw [List.length_take]; omega
theorem taken_ok {l : List Given} {Q : List Given → Prop} (hl : l.length ≤ 1000) (h : Q (l.filter fun g => decide (0 < g.1))) : law44_taken_W l Q := by
  refine loop_fold l (fun s x => if (decide (0 < x.1) : Bool) = true then s ++ [x] else s) fun K i s hi hs hK => ?_
  have e : s.length ≤ i := foldl_len (fun x => decide (0 < x.1)) id l i s hs
  show law44_taken_l1 _ _ _ _ _
  unfold law44_taken_l1
  refine ⟨fun h1 => ⟨by (first | omega | (unfold I64; omega) | (simp only [List.length_append, List.length_cons, List.length_nil, List.length_take, List.length_drop] at *; omega) | (unfold I64; simp only [List.length_append, List.length_cons, List.length_nil, List.length_take, List.length_drop] at *; omega)), fun h2 => ⟨by (first | omega | (unfold I64; omega) | (simp only [List.length_append, List.length_cons, List.length_nil, List.length_take, List.length_drop] at *; omega) | (unfold I64; simp only [List.length_append, List.length_cons, List.length_nil, List.length_take, List.length_drop] at *; omega)), by (first | omega | (unfold I64; omega) | (simp only [List.length_append, List.length_cons, List.length_nil, List.length_take, List.length_drop] at *; omega) | (unfold I64; simp only [List.length_append, List.length_cons, List.length_nil, List.length_take, List.length_drop] at *; omega)), ?_⟩, fun h2 => ⟨by (first | omega | (unfold I64; omega) | (simp only [List.length_append, List.length_cons, List.length_nil, List.length_take, List.length_drop] at *; omega) | (unfold I64; simp only [List.length_append, List.length_cons, List.length_nil, List.length_take, List.length_drop] at *; omega)), ?_⟩⟩, fun h1 => ?_⟩
  · rw [gi_nat (by omega)] at h2 ⊢
    have := hK (by omega); simp only [decide_eq_true_eq, if_pos h2] at this; exact this
  · rw [gi_nat (by omega)] at h2
    have := hK (by omega); simp only [decide_eq_true_eq, if_neg h2] at this; exact this
  · rw [List.take_of_length_le (by omega)] at hs
    have := foldl_filter_map (fun x : Given => decide (0 < x.1)) id l []
    rw [hs]; simp only [id, List.nil_append, List.map_id_fun] at this
    rw [this]; exact h
/-- What an audit has seen, of what has been given. -/
def key (g : Given) : Int × Int × Int × Int := (g.1, g.2.2.1, (g.2.1, g.2.2.2.1))
def cnt (l : List Given) (k : Int × Int × Int × Int) : Int := (l.countP fun g => decide (key g = k) : Nat)
theorem cnt_bd (l : List Given) (k : Int × Int × Int × Int) : 0 ≤ cnt l k ∧ cnt l k ≤ l.length := by
  unfold cnt; have := List.countP_le_length (p := fun g => decide (key g = k)) (l := l); omega
theorem rcount_ok {l : List Given} {id vlan : Int} {s1 : Spot} {Q : Int → Prop} (hl : l.length ≤ 1000) (h : Q (cnt l (id, vlan, s1))) : ref44_Count_W l id vlan s1 Q := by
  refine loop_fold l (fun (s : Int) x => if (decide (key x = (id, vlan, s1)) : Bool) = true then s + 1 else s) fun K i s hi hs hK => ?_
  have e := foldl_countP (fun x => decide (key x = (id, vlan, s1))) (l.take i) 0
  rw [← hs] at e
  have e2 : (l.take i).countP (fun x => decide (key x = (id, vlan, s1))) ≤ i := Nat.le_trans List.countP_le_length (by rw [List.length_take]; omega)
  show ref44_Count_l1 _ _ _ _ _ _ _ _
  unfold ref44_Count_l1
  refine ⟨fun h1 => ?_, fun h1 => ?_⟩
  · have hk := hK (by omega)
    rw [gi_nat (by omega)]
    simp only [key, Prod.mk.injEq, decide_eq_true_eq] at hk
    refine ⟨by (first | omega | (unfold I64; omega) | (simp only [List.length_append, List.length_cons, List.length_nil, List.length_take, List.length_drop] at *; omega) | (unfold I64; simp only [List.length_append, List.length_cons, List.length_nil, List.length_take, List.length_drop] at *; omega)), fun a => ⟨fun b => ⟨fun c => ⟨fun d => ⟨by (first | omega | (unfold I64; omega) | (simp only [List.length_append, List.length_cons, List.length_nil, List.length_take, List.length_drop] at *; omega) | (unfold I64; simp only [List.length_append, List.length_cons, List.length_nil, List.length_take, List.length_drop] at *; omega)), by (first | omega | (unfold I64; omega) | (simp only [List.length_append, List.length_cons, List.length_nil, List.length_take, List.length_drop] at *; omega) | (unfold I64; simp only [List.length_append, List.length_cons, List.length_nil, List.length_take, List.length_drop] at *; omega)), ?_⟩, fun d => ⟨by (first | omega | (unfold I64; omega) | (simp only [List.length_append, List.length_cons, List.length_nil, List.length_take, List.length_drop] at *; omega) | (unfold I64; simp only [List.length_append, List.length_cons, List.length_nil, List.length_take, List.length_drop] at *; omega)), ?_⟩⟩, fun c => ⟨by (first | omega | (unfold I64; omega) | (simp only [List.length_append, List.length_cons, List.length_nil, List.length_take, List.length_drop] at *; omega) | (unfold I64; simp only [List.length_append, List.length_cons, List.length_nil, List.length_take, List.length_drop] at *; omega)), ?_⟩⟩, fun b => ⟨by (first | omega | (unfold I64; omega) | (simp only [List.length_append, List.length_cons, List.length_nil, List.length_take, List.length_drop] at *; omega) | (unfold I64; simp only [List.length_append, List.length_cons, List.length_nil, List.length_take, List.length_drop] at *; omega)), ?_⟩⟩, fun a => ⟨by (first | omega | (unfold I64; omega) | (simp only [List.length_append, List.length_cons, List.length_nil, List.length_take, List.length_drop] at *; omega) | (unfold I64; simp only [List.length_append, List.length_cons, List.length_nil, List.length_take, List.length_drop] at *; omega)), ?_⟩⟩
    · rwa [if_pos ⟨a, b, Prod.ext c d⟩] at hk
    · rwa [if_neg (fun q => d (by rw [← q.2.2]))] at hk
    · rwa [if_neg (fun q => c (by rw [← q.2.2]))] at hk
    · rwa [if_neg (fun q => b q.2.1)] at hk
    · rwa [if_neg (fun q => a q.1)] at hk
  · rw [List.take_of_length_le (by omega)] at e
    rw [e, Int.zero_add]; exact h
theorem rhas_ok {l : List Spot} {s1 : Spot} {Q : Bool → Prop} (hl : l.length ≤ 1000) (h : Q (decide (s1 ∈ l))) : ref44_Has_W l s1 Q := by
  refine loop_up1 l.length (fun i => s1 ∉ l.take i) (by simp) fun K i hi hn hK => ?_
  show ref44_Has_l1 _ _ _ _ _
  unfold ref44_Has_l1
  refine ⟨fun h1 => ?_, fun h1 => ?_⟩
  · rw [gi_nat (by omega)]
    refine ⟨by (first | omega | (unfold I64; omega) | (simp only [List.length_append, List.length_cons, List.length_nil, List.length_take, List.length_drop] at *; omega) | (unfold I64; simp only [List.length_append, List.length_cons, List.length_nil, List.length_take, List.length_drop] at *; omega)), fun a => ?_, fun a => ⟨by (first | omega | (unfold I64; omega) | (simp only [List.length_append, List.length_cons, List.length_nil, List.length_take, List.length_drop] at *; omega) | (unfold I64; simp only [List.length_append, List.length_cons, List.length_nil, List.length_take, List.length_drop] at *; omega)), hK (i + 1) (by omega) (by omega) ?_⟩⟩
    · rw [decide_eq_true (a ▸ List.getElem_mem _)] at h; exact h
    · rw [List.take_succ_eq_append_getElem (by omega), List.mem_append, List.mem_singleton]
      rintro (q | q)
      · exact hn q
      · exact a q.symm
  · rw [List.take_of_length_le (by omega)] at hn
    rw [decide_eq_false hn] at h; exact h
/-! The audit's own parts. -/
structure Seen (m : List ((Int × Int × Int × Int) × Int)) (g : List Given) : Prop where
  get : ∀ k, mget0 m k = cnt g k
  keys : ∀ k, k ∈ m.map Prod.fst ↔ k ∈ g.map key
  nodup : (m.map Prod.fst).Nodup
  len : m.length ≤ g.length
theorem Seen.nil : Seen [] [] := ⟨fun k => rfl, fun k => by simp, by simp, by simp⟩
theorem cnt_snoc (g : List Given) (x : Given) (k : Int × Int × Int × Int) : cnt (g ++ [x]) k = if key x = k then cnt g k + 1 else cnt g k := by
  unfold cnt; rw [List.countP_append, List.countP_singleton]
  by_cases h : key x = k
  · rw [if_pos (by simpa using h), if_pos h]; omega
  · rw [if_neg (by simpa using h), if_neg h]; omega
theorem Seen.step {m : List ((Int × Int × Int × Int) × Int)} {g : List Given} (h : Seen m g) (x : Given) : Seen (mset m (key x) (mget0 m (key x) + 1)) (g ++ [x]) where
  get k := by
    rw [mget0_mset, cnt_snoc, h.get, h.get]
    by_cases e : k = key x
    · rw [if_pos e, if_pos e.symm, e]
    · rw [if_neg e, if_neg (fun q => e q.symm)]
  keys k := by
    rw [keys_mset]
    split
    · rename_i hm
      rw [List.map_append, List.mem_append, h.keys]
      constructor
      · exact .inl
      · rintro (q | q)
        · exact q
        · rw [List.map_singleton, List.mem_singleton] at q; rw [q, ← h.keys]; exact hm
    · rw [List.map_append, List.mem_append, List.mem_append, h.keys]; rfl
  nodup := nodup_mset h.nodup _ _
  len := by
    have e := congrArg List.length (keys_mset m (key x) (mget0 m (key x) + 1))
    have := h.len
    rw [List.length_append, List.length_singleton]
    split at e
    · rw [List.length_map, List.length_map] at e; omega
    · rw [List.length_append, List.length_map, List.length_map, List.length_singleton] at e; omega
def pos (l : List Given) : List Given := l.filter fun g => decide (0 < g.1)
theorem pos_len (l : List Given) : (pos l).length ≤ l.length := List.length_filter_le _ _
theorem pos_take (l : List Given) (i : Nat) (h : i < l.length) : pos (l.take (i + 1)) = pos (l.take i) ++ if 0 < l[i].1 then [l[i]] else [] := by
  unfold pos
  rw [List.take_succ_eq_append_getElem h, List.filter_append, List.filter_cons, List.filter_nil]
  by_cases e : 0 < l[i].1 <;> simp [e]
/-- Those that were there before. -/
def twice : List Given → List Given → List Given
  | _, [] => []
  | pre, g :: r => (if 0 < cnt pre (key g) then [g] else []) ++ twice (pre ++ [g]) r
theorem twice_snoc (l pre : List Given) (x : Given) : twice pre (l ++ [x]) = twice pre l ++ if 0 < cnt (pre ++ l) (key x) then [x] else [] := by
  induction l generalizing pre with
  | nil => simp [twice]
  | cons a l ih => rw [List.cons_append, twice, ih, twice, List.append_assoc, List.append_assoc]; rfl
theorem twice_len (l pre : List Given) : (twice pre l).length ≤ l.length := by
  induction l generalizing pre with
  | nil => simp [twice]
  | cons a l ih =>
    rw [twice, List.length_append]; have := ih (pre ++ [a]); simp only [List.length_cons]; split <;> simp only [List.length_cons, List.length_nil] <;> omega
theorem add_ok {m : List ((Int × Int × Int × Int) × Int)} {tw l g : List Given} {all : Int} {Q : Int → List ((Int × Int × Int × Int) × Int) → List Given → Int → Prop} (hm : Seen m g) (hg : g.length ≤ 500) (ht : tw.length ≤ 500) (ha : 0 ≤ all ∧ all ≤ 500) (hl : l.length ≤ 100)
    (h : ∀ m', Seen m' (g ++ pos l) → Q ((pos l).length : Int) m' (tw ++ twice g (pos l)) (all + ((pos l).length : Int))) : audit_Audit_Add_W m tw all l Q := by
  refine loop_by (fun s => s.2.2.2) l.length (fun i s => Seen s.1 (g ++ pos (l.take i)) ∧ s.2.1 = tw ++ twice g (pos (l.take i)) ∧ s.2.2.1 = ((pos (l.take i)).length : Int)) rfl (by simpa [pos, twice] using hm) ?_
  rintro K i ⟨m1, tw1, n, _⟩ rfl hi ⟨hm1, e2, e3⟩ hK
  simp only at e2 e3 hm1 ⊢
  subst e2 e3
  unfold audit_Audit_Add_l1 audit_Audit_Add_j1
  have hp : (pos (l.take i)).length ≤ i := Nat.le_trans (pos_len _) (by rw [List.length_take]; omega)
  have htw := twice_len (pos (l.take i)) g
  refine ⟨fun h1 => ?_, fun h1 => ?_⟩
  · have h1' : i < l.length := by omega
    rw [gi_nat h1']
    have hb := cnt_bd (g ++ pos (l.take i)) (key l[i])
    rw [List.length_append] at hb
    have hg' := hm1.get (key l[i])
    have hk : ∀ s', s'.2.2.2 = ((i : Int) + 1) → Seen s'.1 (g ++ pos (l.take (i + 1))) → s'.2.1 = tw ++ twice g (pos (l.take (i + 1))) → s'.2.2.1 = ((pos (l.take (i + 1))).length : Int) → K s' :=
      fun s' a b c d => hK (i + 1) s' a (by omega) (by omega) ⟨b, c, d⟩
    rw [pos_take l i h1'] at hk
    show _ ∧ _ ∧ _
    have ek : (l[i].1, l[i].2.2.1, (l[i].2.1, l[i].2.2.2.1)) = key l[i] := rfl
    rw [ek, hg']
    refine ⟨by (first | omega | (unfold I64; omega) | (simp only [List.length_append, List.length_cons, List.length_nil, List.length_take, List.length_drop] at *; omega) | (unfold I64; simp only [List.length_append, List.length_cons, List.length_nil, List.length_take, List.length_drop] at *; omega)), fun q => ⟨by (first | omega | (unfold I64; omega) | (simp only [List.length_append, List.length_cons, List.length_nil, List.length_take, List.length_drop] at *; omega) | (unfold I64; simp only [List.length_append, List.length_cons, List.length_nil, List.length_take, List.length_drop] at *; omega)), hk _ rfl ?_ ?_ ?_⟩, fun q => ⟨fun c => ⟨by (first | omega | (unfold I64; omega) | (simp only [List.length_append, List.length_cons, List.length_nil, List.length_take, List.length_drop] at *; omega) | (unfold I64; simp only [List.length_append, List.length_cons, List.length_nil, List.length_take, List.length_drop] at *; omega)), by (first | omega | (unfold I64; omega) | (simp only [List.length_append, List.length_cons, List.length_nil, List.length_take, List.length_drop] at *; omega) | (unfold I64; simp only [List.length_append, List.length_cons, List.length_nil, List.length_take, List.length_drop] at *; omega)), by (first | omega | (unfold I64; omega) | (simp only [List.length_append, List.length_cons, List.length_nil, List.length_take, List.length_drop] at *; omega) | (unfold I64; simp only [List.length_append, List.length_cons, List.length_nil, List.length_take, List.length_drop] at *; omega)), by (first | omega | (unfold I64; omega) | (simp only [List.length_append, List.length_cons, List.length_nil, List.length_take, List.length_drop] at *; omega) | (unfold I64; simp only [List.length_append, List.length_cons, List.length_nil, List.length_take, List.length_drop] at *; omega)), hk _ rfl ?_ ?_ ?_⟩, fun c => ⟨by (first | omega | (unfold I64; omega) | (simp only [List.length_append, List.length_cons, List.length_nil, List.length_take, List.length_drop] at *; omega) | (unfold I64; simp only [List.length_append, List.length_cons, List.length_nil, List.length_take, List.length_drop] at *; omega)), by (first | omega | (unfold I64; omega) | (simp only [List.length_append, List.length_cons, List.length_nil, List.length_take, List.length_drop] at *; omega) | (unfold I64; simp only [List.length_append, List.length_cons, List.length_nil, List.length_take, List.length_drop] at *; omega)), by (first | omega | (unfold I64; omega) | (simp only [List.length_append, List.length_cons, List.length_nil, List.length_take, List.length_drop] at *; omega) | (unfold I64; simp only [List.length_append, List.length_cons, List.length_nil, List.length_take, List.length_drop] at *; omega)), hk _ rfl ?_ ?_ ?_⟩⟩⟩
    · rw [if_neg (by omega), List.append_nil]; exact hm1
    · rw [if_neg (by omega), List.append_nil]
    · rw [if_neg (by omega), List.append_nil]
    · rw [if_pos (by omega), ← List.append_assoc, ← hg']; exact hm1.step _
    · rw [if_pos (by omega), twice_snoc, if_pos c, List.append_assoc]
    · rw [if_pos (by omega), List.length_append]; rfl
    · rw [if_pos (by omega), ← List.append_assoc, ← hg']; exact hm1.step _
    · rw [if_pos (by omega), twice_snoc, if_neg c, List.append_nil]
    · rw [if_pos (by omega), List.length_append]; rfl
  · rw [List.take_of_length_le (by omega)] at hm1 hp htw ⊢
    exact ⟨by (first | omega | (unfold I64; omega) | (simp only [List.length_append, List.length_cons, List.length_nil, List.length_take, List.length_drop] at *; omega) | (unfold I64; simp only [List.length_append, List.length_cons, List.length_nil, List.length_take, List.length_drop] at *; omega)), h _ hm1⟩
theorem clone_ok {l : List Given} {Q : List Given → Prop} (hl : l.length ≤ 1000) (h : Q l) : slices_Clone_s_api_Given_api_Given_W l Q := by
  unfold slices_Clone_s_api_Given_api_Given_W
  exact ⟨fun e => e ▸ h, fun _ => ⟨by (first | omega | (unfold I64; omega) | (simp only [List.length_append, List.length_cons, List.length_nil, List.length_take, List.length_drop] at *; omega) | (unfold I64; simp only [List.length_append, List.length_cons, List.length_nil, List.length_take, List.length_drop] at *; omega)), h⟩⟩
theorem twice_ok {m : List ((Int × Int × Int × Int) × Int)} {tw : List Given} {all : Int} {Q : List Given → List ((Int × Int × Int × Int) × Int) → List Given → Int → Prop} (ht : tw.length ≤ 1000) (h : Q tw m tw all) : audit_Audit_Twice_W m tw all Q := clone_ok ht h
theorem lives_ok {Q : Bool → Prop} (h : Q true) : law44_lives_W Q := by
  unfold law44_lives_W audit_New_W
  refine add_ok Seen.nil (by decide) (by decide) (by decide) (by decide) fun m hm => twice_ok (by decide) ?_
  have e1 : pos ([(1, 2, 5, 0, []), (1, 2, 5, 0, [120]), (0, 3, 0, 0, [])] : List Given) = [(1, 2, 5, 0, []), (1, 2, 5, 0, [120])] := by decide
  rw [e1]
  have e2 : ([] : List Given) ++ twice [] [(1, 2, 5, 0, []), (1, 2, 5, 0, [120])] = [(1, 2, 5, 0, [120])] := by decide
  rw [e2]
  refine ⟨fun _ => ⟨fun _ => ⟨by decide, fun _ => ?_, fun c => absurd (by decide) c⟩, fun c => absurd (by decide) c⟩, fun c => absurd (by decide) c⟩
  unfold audit_Audit_Count_W
  rw [e1] at hm
  have := hm.get (1, 5, (2, 0))
  rw [this]; exact h
theorem auditNil_ok (x : List Given) (id vlan : Int) (want : List Spot) (but : Spot) {Q : Bool → Prop} (h : Q true) : law44_AuditNil_W x id vlan want but Q := by
  unfold law44_AuditNil_W
  refine own_ok ?_
  unfold audit_Audit_Held_nil0_W
  refine few_ok ?_
  unfold audit_Audit_Add_nil0_W audit_Audit_Ids_nil0_W audit_Audit_Of_nil0_W audit_Audit_Count_nil0_W audit_Audit_Twice_nil0_W audit_Audit_Clear_nil0_W
  simp
  exact lives_ok h
end Go.Wk
