/- Plain words: a clock's calls, keys of type Str. -/
import Derived.Test.YtolmcabcmphkpaaSosP
import Derived.Test.YtolmcabcmphkpaaClkW2
set_option linter.unusedSimpArgs false
set_option linter.unusedVariables false
set_option linter.unusedSectionVars false
namespace Go.Wk
open Go.HL Go.Sort
variable [DM]
theorem cmpI_ok {x y : Int} {Q : Int → Prop} (h1 : x < y → Q (-1)) (h2 : x = y → Q 0) (h3 : y < x → Q 1) : cmp_Compare_int_W x y Q :=
  ⟨fun c => by simp at c, fun _ => ⟨fun c => by simp at c, fun _ => ⟨h1, fun c => ⟨h3, fun d => h2 (by omega)⟩⟩⟩⟩
theorem oirr (a : Str) : ¬ a < a := List.lt_irrefl a
theorem otr (a b c : Str) (h : a < b) (h2 : b < c) : a < c := List.lt_trans h h2
theorem otot (a b : Str) (h : ¬ a < b) (h2 : ¬ b < a) : a = b := List.le_antisymm (List.not_lt.1 h2) (List.not_lt.1 h)
theorem cmpT_ok {x y : Str} {Q : Int → Prop} (h1 : x < y → Q (-1)) (h2 : x = y → Q 0) (h3 : y < x → Q 1) : cmp_Compare_string_W x y Q :=
  ⟨fun c => by simp at c, fun _ => ⟨fun c => by simp at c, fun _ => ⟨h1, fun c => ⟨fun d => h3 (Classical.byContradiction fun e => d (.inr (otot _ _ c e))), fun d => h2 (d.resolve_left c)⟩⟩⟩⟩
theorem or2_ok {x y : Int} {Q : Int → Prop} (h : Q (if x = 0 then y else x)) : cmp_Or_int_W ([x, y] : List Int) Q := by
  refine loop_up1 2 (fun i => (1 ≤ i → x = 0) ∧ (2 ≤ i → y = 0)) ⟨by omega, by omega⟩ fun K i hi hI hK => ?_
  show cmp_Or_int_l1 _ _ _ _
  unfold cmp_Or_int_l1
  rcases (by omega : i = 0 ∨ i = 1 ∨ i = 2) with rfl | rfl | rfl
  · refine ⟨fun c => ⟨by simp, fun d => ?_, fun d => ⟨by decide, hK 1 (by omega) (by omega) ⟨fun _ => d, by omega⟩⟩⟩, fun c => by simp at c⟩
    have d : ¬ x = 0 := d
    rw [if_neg d] at h; exact h
  · have hx : x = 0 := hI.1 (by omega)
    refine ⟨fun c => ⟨by simp, fun d => ?_, fun d => ⟨by decide, hK 2 (by omega) (by omega) ⟨fun _ => hx, fun _ => d⟩⟩⟩, fun c => by simp at c⟩
    rw [if_pos hx] at h; exact h
  · refine ⟨fun c => by simp at c, fun _ => ?_⟩
    rw [if_pos (hI.1 (by omega)), hI.2 (by omega)] at h; exact h
abbrev CM := List (Str × Int)
/-- Which of two keys stands first. -/
def bef (m : CM) (a b : Str) : Int := if mget0 m a < mget0 m b then -1 else if mget0 m b < mget0 m a then 1 else if a < b then -1 else if b < a then 1 else 0
def Bl (m : CM) (a b : Str) : Prop := mget0 m a < mget0 m b ∨ (mget0 m a = mget0 m b ∧ a < b)
theorem bef_lt {m : CM} {a b : Str} : bef m a b < 0 ↔ Bl m a b := by
  unfold bef Bl
  by_cases c1 : mget0 m a < mget0 m b
  · rw [if_pos c1]; exact ⟨fun _ => .inl c1, fun _ => by decide⟩
  · rw [if_neg c1]
    by_cases c2 : mget0 m b < mget0 m a
    · rw [if_pos c2]; exact ⟨fun h => absurd h (by decide), fun h => by rcases h with h | h <;> omega⟩
    · rw [if_neg c2]
      have e : mget0 m a = mget0 m b := by omega
      by_cases c3 : a < b
      · rw [if_pos c3]; exact ⟨fun _ => .inr ⟨e, c3⟩, fun _ => by decide⟩
      · rw [if_neg c3]
        refine ⟨fun h => ?_, fun h => ?_⟩
        · split at h <;> exact absurd h (by decide)
        · rcases h with h | h
          · omega
          · exact absurd h.2 c3
theorem Bl.asy {m : CM} {a b : Str} (h : Bl m a b) : ¬ Bl m b a := by
  rintro (q | q) <;> rcases h with h | h
  · omega
  · omega
  · omega
  · exact oirr a (otr _ _ _ h.2 q.2)
theorem Bl.tot {m : CM} {a b : Str} (h : ¬ Bl m a b) (h2 : ¬ Bl m b a) : a = b := by
  have e : mget0 m a = mget0 m b := by
    rcases Int.lt_trichotomy (mget0 m a) (mget0 m b) with c | c | c
    · exact absurd (.inl c) h
    · exact c
    · exact absurd (.inl c) h2
  exact otot _ _ (fun q => h (.inr ⟨e, q⟩)) (fun q => h2 (.inr ⟨e.symm, q⟩))
theorem Bl.nt {m : CM} {a b c : Str} (h : ¬ Bl m a b) (h2 : ¬ Bl m b c) : ¬ Bl m a c := by
  intro q
  have e1 : mget0 m b ≤ mget0 m a := Int.not_lt.1 fun x => h (.inl x)
  have e2 : mget0 m c ≤ mget0 m b := Int.not_lt.1 fun x => h2 (.inl x)
  rcases q with q | ⟨q, q2⟩
  · omega
  · have n1 : ¬ a < b := fun x => h (.inr ⟨by omega, x⟩)
    have n2 : ¬ b < c := fun x => h2 (.inr ⟨by omega, x⟩)
    by_cases d : b < a
    · exact n2 (otr _ _ _ d q2)
    · exact n2 (otot _ _ n1 d ▸ q2)
theorem bef_swo (m : CM) : SWO (ltOf (bef m)) :=
  swo_lt (fun x y h h2 => (bef_lt.1 h).asy (bef_lt.1 h2)) (fun x y z h h2 h3 => Bl.nt (fun q => h (bef_lt.2 q)) (fun q => h2 (bef_lt.2 q)) (bef_lt.1 h3))
theorem before_ok {m : CM} {a b : Str} {Q : Int → Prop} (h : Q (bef m a b)) : clock_Clock_before_string_W m a b Q := by
  refine cmpI_ok (fun c => ?_) (fun c => ?_) (fun c => ?_)
  · have e : bef m a b = -1 := by unfold bef; rw [if_pos c]
    rw [e] at h
    exact cmpT_ok (fun _ => or2_ok h) (fun _ => or2_ok h) (fun _ => or2_ok h)
  · refine cmpT_ok (fun d => or2_ok ?_) (fun d => or2_ok ?_) (fun d => or2_ok ?_)
    · have e : bef m a b = -1 := by unfold bef; rw [if_neg (by omega), if_neg (by omega), if_pos d]
      rw [e] at h; exact h
    · have e : bef m a b = 0 := by unfold bef; rw [if_neg (by omega), if_neg (by omega), d, if_neg (oirr b), if_neg (oirr b)]
      rw [e] at h; exact h
    · have e : bef m a b = 1 := by unfold bef; rw [if_neg (by omega), if_neg (by omega), if_neg (fun q => oirr a (otr _ _ _ q d)), if_pos d]
      rw [e] at h; exact h
  · have e : bef m a b = 1 := by unfold bef; rw [if_neg (by omega), if_pos c]
    rw [e] at h
    exact cmpT_ok (fun _ => or2_ok h) (fun _ => or2_ok h) (fun _ => or2_ok h)
/-- What is due, in no order. -/
def dueK (m : CM) (now : Int) : List (Str) := (m.filter fun p => decide (p.2 ≤ now)).map Prod.fst
theorem due_ok {m : CM} {now : Int} {Q : List (Str) → CM → Prop} (hl : m.length ≤ 1000000) (h : ∀ l : List (Str), l.Perm (dueK m now) → (l.Pairwise fun x y => ¬ bef m y x < 0) → Q l m) : clock_Clock_due_string_W m now Q := by
  refine loop_bag m (fun done out => out = dueK done now) rfl fun K done rem out hp hI hK => ?_
  have hlen : out.length ≤ 1000000 := by
    rw [hI]; unfold dueK; rw [List.length_map]
    have h1 := List.length_filter_le (fun p : Str × Int => decide (p.2 ≤ now)) done
    have h2 := hp.length_eq; rw [List.length_append] at h2; omega
  show clock_Clock_due_string_l1 m now Q _ rem out
  unfold clock_Clock_due_string_l1
  refine ⟨fun e => ⟨bef m, fun x y => before_ok rfl, sort_string (bef_swo m) (by omega) fun l h1 h2 => h l (h1.trans ?_) h2⟩, fun p rem2 hq => ⟨fun c => ⟨by simp only [List.length_cons, List.length_nil]; omega, hK p rem2 _ hq ?_⟩, fun c => hK p rem2 _ hq ?_⟩⟩
  · subst e; rw [List.append_nil] at hp
    rw [hI]; exact ((hp.symm.filter _).map _)
  · rw [hI]; unfold dueK; rw [List.filter_append, List.map_append]; simp [c]
  · rw [hI]; unfold dueK; rw [List.filter_append, List.map_append]; simp [c]
theorem Due_ok {m : CM} {now : Int} {Q : List (Str) → CM → Prop} (hl : m.length ≤ 1000000) (h : ∀ l : List (Str), l.Perm (dueK m now) → (l.Pairwise fun x y => ¬ bef m y x < 0) → Q l m) : clock_Clock_Due_string_W m now Q := due_ok hl h
theorem mem_dueK {m : CM} {now : Int} {k : Str} : k ∈ dueK m now ↔ ∃ t, (k, t) ∈ m ∧ t ≤ now := by
  unfold dueK; rw [List.mem_map]
  constructor
  · rintro ⟨⟨a, t⟩, h, rfl⟩; rw [List.mem_filter] at h; exact ⟨t, h.1, by simpa using h.2⟩
  · rintro ⟨t, h, h2⟩; exact ⟨(k, t), List.mem_filter.2 ⟨h, by simpa using h2⟩, rfl⟩
/-- What stays behind a pop. -/
def leftM (m : CM) (now : Int) : CM := m.filter fun p => decide (now < p.2)
theorem pop_ok {m : CM} {now : Int} {Q : List (Str) → CM → Prop} (hn : (m.map Prod.fst).Nodup) (hl : m.length ≤ 1000000) (h : ∀ l : List (Str), l.Perm (dueK m now) → (l.Pairwise fun x y => ¬ bef m y x < 0) → Q l (leftM m now)) : clock_Clock_Pop_string_W m now Q := by
  refine due_ok hl fun l hp hs => ?_
  have hlen : l.length ≤ 1000000 := by
    rw [hp.length_eq]; unfold dueK; rw [List.length_map]
    exact Nat.le_trans (List.length_filter_le _ _) hl
  refine loop_up l.length (fun i c => c = m.filter fun p => decide (p.1 ∉ l.take i)) ?_ fun K i c hi hI hK => ?_
  · simp only [List.take_zero]; rw [List.filter_eq_self.2 (fun p _ => by simp)]
  · show clock_Clock_Pop_string_l1 Q l _ c (i : Int)
    unfold clock_Clock_Pop_string_l1
    refine ⟨fun d => ⟨by (first | omega | (unfold I64; omega) | (simp only [List.length_append, List.length_cons, List.length_nil, List.length_take, List.length_drop] at *; omega) | (unfold I64; simp only [List.length_append, List.length_cons, List.length_nil, List.length_take, List.length_drop] at *; omega)), by (first | omega | (unfold I64; omega) | (simp only [List.length_append, List.length_cons, List.length_nil, List.length_take, List.length_drop] at *; omega) | (unfold I64; simp only [List.length_append, List.length_cons, List.length_nil, List.length_take, List.length_drop] at *; omega)), ?_⟩, fun d => ?_⟩
    · have i1 : i < l.length := by omega
      refine hK (i + 1) _ (by omega) (by omega) ?_
      rw [gi_nat i1, hI, List.take_succ_eq_append_getElem i1]
      unfold mdel; rw [List.filter_filter]
      refine List.filter_congr fun p _ => ?_
      rw [Bool.eq_iff_iff]; simp only [List.mem_append, List.mem_singleton, Bool.and_eq_true, decide_eq_true_eq]
      constructor
      · rintro ⟨a, b⟩ (q | q)
        · exact b q
        · exact a q.symm
      · intro q; exact ⟨fun e => q (.inr e.symm), fun e => q (.inl e)⟩
    · have i1 : i = l.length := by omega
      subst i1
      rw [List.take_length] at hI
      rw [hI]
      have : (m.filter fun p => decide (p.1 ∉ l)) = leftM m now := by
        unfold leftM
        refine List.filter_congr fun p hpm => ?_
        rw [Bool.eq_iff_iff, decide_eq_true_eq, decide_eq_true_eq, hp.mem_iff, mem_dueK]
        constructor
        · intro q
          rcases Int.lt_or_le now p.2 with e | e
          · exact e
          · exact absurd ⟨p.2, hpm, e⟩ q
        · rintro q ⟨t, ht, h2⟩
          have e1 := (mem_iff_mget hn p.1 p.2).1 hpm
          have e2 := (mem_iff_mget hn p.1 t).1 ht
          rw [e1] at e2; injection e2 with e2; omega
      rw [this]; exact h l hp hs
theorem next_ok {m : CM} {Q : Str → Int → Bool → CM → Prop} (hn : (m.map Prod.fst).Nodup) (h0 : m = [] → Q ([] : Str) 0 false m) (h1 : ∀ k t, (k, t) ∈ m → (∀ p ∈ m, ¬ Bl m p.1 k) → Q k t true m) : clock_Clock_Next_string_W m Q := by
  refine loop_bag m (fun done s => (done = [] → s = (([] : Str), false)) ∧ (done ≠ [] → s.2 = true ∧ s.1 ∈ done.map Prod.fst ∧ ∀ p ∈ done, ¬ Bl m p.1 s.1)) ⟨fun _ => rfl, fun c => absurd rfl c⟩ fun K done rem s hp hI hK => ?_
  obtain ⟨out, found⟩ := s
  show clock_Clock_Next_string_l1 m Q _ rem out found
  unfold clock_Clock_Next_string_l1
  refine ⟨fun e => ?_, fun p rem2 hq => ⟨fun c => hK p rem2 _ hq ⟨fun q => by simp at q, fun _ => ⟨rfl, by simp, fun q hq2 => ?_⟩⟩, fun c => before_ok ⟨fun d => hK p rem2 _ hq ⟨fun q => by simp at q, fun _ => ⟨rfl, by simp, fun q hq2 => ?_⟩⟩, fun d => hK p rem2 _ hq ⟨fun q => by simp at q, fun _ => ?_⟩⟩⟩⟩
  · subst e; rw [List.append_nil] at hp
    by_cases hd : done = []
    · have := hI.1 hd
      subst hd
      have hm : m = [] := List.Perm.eq_nil hp
      injection this with e1 e2
      rw [e1, e2]
      have e3 : mget0 m ([] : Str) = 0 := by rw [hm]; rfl
      rw [e3]; exact h0 hm
    · obtain ⟨e1, e2, e3⟩ := hI.2 hd
      simp only at e1 e2 e3
      obtain ⟨⟨k, t⟩, hm, rfl⟩ := List.mem_map.1 e2
      have hm' : (k, t) ∈ m := hp.mem_iff.2 hm
      have : mget0 m k = t := by unfold mget0; rw [(mem_iff_mget hn k t).1 hm']; rfl
      rw [e1]; show Q k (mget0 m k) true m
      rw [this]; exact h1 k t hm' fun p hpm => e3 p (hp.mem_iff.1 hpm)
  · have hd : done = [] := by
      rcases Classical.em (done = []) with q | q
      · exact q
      · have := (hI.2 q).1; simp only at this; rw [this] at c; cases c
    subst hd
    rw [List.nil_append, List.mem_singleton] at hq2; rw [hq2]; exact fun w => w.asy w
  · have hf : found = true := by simpa using c
    have hd : done ≠ [] := fun q => by have := hI.1 q; injection this with _ e2; rw [e2] at hf; cases hf
    obtain ⟨_, _, e3⟩ := hI.2 hd
    have d' := bef_lt.1 d
    rcases List.mem_append.1 hq2 with q1 | q1
    · intro w; exact (e3 q q1) (by
        rcases Classical.em (Bl m q.1 out) with z | z
        · exact z
        · exact absurd w (Bl.nt z d'.asy))
    · rw [List.mem_singleton.1 q1]; exact fun w => w.asy w
  · have hf : found = true := by simpa using c
    have hd : done ≠ [] := fun q => by have := hI.1 q; injection this with _ e2; rw [e2] at hf; cases hf
    obtain ⟨e1, e2, e3⟩ := hI.2 hd
    refine ⟨e1, by rw [List.map_append]; exact List.mem_append_left _ e2, fun q q1 => ?_⟩
    rcases List.mem_append.1 q1 with q1 | q1
    · exact e3 q q1
    · rw [List.mem_singleton.1 q1]; exact fun w => d (bef_lt.2 w)
/-- Sorted keys are one list. -/
theorem keys_one {m : CM} {a b : List (Str)} (h : a.Perm b) (ha : a.Pairwise fun x y => ¬ bef m y x < 0) (hb : b.Pairwise fun x y => ¬ bef m y x < 0) : a = b :=
  List.Perm.eq_of_pairwise (le := fun x y => ¬ bef m y x < 0) (fun x y _ _ h1 h2 => Bl.tot (fun q => h2 (bef_lt.2 q)) (fun q => h1 (bef_lt.2 q))) ha hb h
theorem mset_mem {m : CM} (hn : (m.map Prod.fst).Nodup) {k : Str} {t : Int} {p : Str × Int} : p ∈ mset m k t ↔ p = (k, t) ∨ (p ∈ m ∧ p.1 ≠ k) := by
  obtain ⟨a, x⟩ := p
  rw [mem_iff_mget (nodup_mset hn k t) a x, mget_mset, mem_iff_mget hn a x]
  by_cases e : a = k
  · rw [if_pos e]; subst e; simp [eq_comm]
  · rw [if_neg e]; simp [e]
end Go.Wk
