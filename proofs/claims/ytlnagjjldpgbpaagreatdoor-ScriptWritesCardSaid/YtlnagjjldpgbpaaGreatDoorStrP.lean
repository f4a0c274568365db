/- Plain words: texts split, joined, cut. -/
import Derived.Test.YtlnagjjldpgbpaaGreatDoorStrs
import Derived.Test.YtlnagjjldpgbpaaGreatDoorPl2
set_option linter.unusedSimpArgs false
set_option linter.unusedVariables false
set_option linter.unusedSectionVars false
namespace Go.Wk
open Go.HL
theorem Bo (b : UInt8) (l sub : Str) : Lib.index (b :: l) sub = if sub.isPrefixOf (b :: l) then 0 else if Lib.index l sub == -1 then -1 else Lib.index l sub + 1 := rfl
theorem MS (b c : UInt8) (l : Str) : Lib.index (b :: l) [c] = if b = c then 0 else if Lib.index l [c] = -1 then -1 else Lib.index l [c] + 1 := by
  rw [Bo]
  by_cases h : b = c
  · subst h; simp [List.isPrefixOf]
  · have : ([c].isPrefixOf (b :: l)) = false := by simp [List.isPrefixOf]; exact fun e => h e.symm
    rw [this, if_neg h]
    simp only [Bool.false_eq_true, if_false, beq_iff_eq]
theorem TM {c : UInt8} : ∀ {l : Str}, c ∉ l -> Lib.index l [c] = -1
  | [], _ => rfl
  | b :: l, h => by
    rw [MS, if_neg (fun e => h (by simp [e])), if_pos (TM fun q => h (List.mem_cons_of_mem _ q))]
theorem SE {c : UInt8} : ∀ {x : Str} {r : Str}, c ∉ x -> Lib.index (x ++ c :: r) [c] = x.length
  | [], r, _ => by rw [List.nil_append, MS, if_pos rfl]; rfl
  | b :: x, r, h => by
    rw [List.cons_append, MS, if_neg (fun e => h (by simp [e])), SE (fun q => h (List.mem_cons_of_mem _ q)), if_neg (by omega)]
    simp
theorem TW {c : UInt8} {s : Str} (h : c ∈ s) : ∃ x r, s = x ++ c :: r /\ c ∉ x := by
  induction s with
  | nil => cases h
  | cons b s ih =>
    by_cases e : b = c
    · exact ⟨[], s, by rw [e]; rfl, by simp⟩
    · obtain ⟨x, r, h1, h2⟩ := ih ((List.mem_cons.1 h).resolve_left fun q => e q.symm)
      refine ⟨b :: x, r, by rw [h1]; rfl, ?_⟩
      intro q
      rcases List.mem_cons.1 q with q | q
      · exact e q.symm
      · exact h2 q
theorem adx (s : Str) (c : UInt8) : U5 s [c] = decide (c ∈ s) := by
  unfold U5
  by_cases h : c ∈ s
  · obtain ⟨x, r, rfl, hx⟩ := TW h
    rw [SE hx, decide_eq_true (by omega), decide_eq_true h]
  · rw [TM h, decide_eq_false (by omega), decide_eq_false h]
theorem yA {c : UInt8} {s : Str} (h : c ∉ s) : dE s [c] = [s] := by
  unfold dE
  rw [Lib.count_one, List.count_eq_zero.2 h]; rfl
theorem BO {c : UInt8} {x r : Str} (h : c ∉ x) : dE (x ++ c :: r) [c] = x :: dE r [c] := by
  unfold dE
  rw [Lib.count_one, Lib.count_one, List.count_append, List.count_eq_zero.2 h, List.count_cons_self, Nat.zero_add]
  show (if Lib.index (x ++ c :: r) [c] == -1 then _ else _) = _
  rw [SE h]
  have : ((x.length : Int) == -1) = false := by
    rw [beq_eq_false_iff_ne]; omega
  rw [this]
  simp only [Bool.false_eq_true, if_false, Int.toNat_natCast, Nat.add_zero, List.length_cons, List.length_nil]
  rw [List.take_left' rfl, List.drop_append]
  have hd : List.drop (x.length + 1) x = [] := List.drop_eq_nil_of_le (by omega)
  simp [hd]
theorem G7 {P : Str -> Prop} (c : UInt8) (h0 : ∀ s, c ∉ s -> P s) (h1 : ∀ x r, c ∉ x -> P r -> P (x ++ c :: r)) : ∀ s, P s := by
  intro s
  induction hn : s.length using Nat.strongRecOn generalizing s with
  | _ n ih =>
    by_cases h : c ∈ s
    · obtain ⟨x, r, rfl, hx⟩ := TW h
      refine h1 x r hx (ih r.length ?_ r rfl)
      rw [← hn, List.length_append, List.length_cons]; omega
    · exact h0 s h
theorem OQ (s : Str) (c : UInt8) : dE s [c] ≠ [] := by
  refine G7 (P := fun s => dE s [c] ≠ []) c (fun s h => ?_) (fun x r h _ => ?_) s
  · rw [yA h]; simp
  · rw [BO h]; simp
theorem LX (s : Str) (c : UInt8) : (dE s [c]).length <= s.length + 1 := by
  refine G7 (P := fun s => (dE s [c]).length <= s.length + 1) c (fun s h => ?_) (fun x r h ih => ?_) s
  · rw [yA h]; simp
  · rw [BO h]; simp only [List.length_cons, List.length_append]; omega
theorem QQ (s : Str) (c : UInt8) : ∀ x ∈ dE s [c], x.length <= s.length /\ c ∉ x := by
  refine G7 (P := fun s => ∀ x ∈ dE s [c], x.length <= s.length /\ c ∉ x) c (fun s h x hx => ?_) (fun x r h ih y hy => ?_) s
  · rw [yA h] at hx; rw [List.mem_singleton.1 hx]; exact ⟨Nat.le_refl _, h⟩
  · rw [BO h] at hy
    rw [List.length_append, List.length_cons]
    rcases List.mem_cons.1 hy with rfl | hy
    · exact ⟨by omega, h⟩
    · have := ih y hy; exact ⟨by omega, this.2⟩
theorem MQ (s : Str) : gy [] s = [] := rfl
theorem qY (x s : Str) : gy [x] s = x := Lib.join_one x s
theorem rV (x y : Str) (l : List Str) (s : Str) : gy (x :: y :: l) s = x ++ s ++ gy (y :: l) s := by
  unfold gy Lib.join; simp [List.intercalate]
theorem U2 (s : Str) (c : UInt8) : gy (dE s [c]) [c] = s := by
  refine G7 (P := fun s => gy (dE s [c]) [c] = s) c (fun s h => ?_) (fun x r h ih => ?_) s
  · rw [yA h, qY]
  · rw [BO h]
    have hne := OQ r c
    generalize dE r [c] = l at *
    cases l with
    | nil => exact absurd rfl hne
    | cons y l => rw [rV, ih]; simp
theorem Ib {c : UInt8} : ∀ {l : List Str}, l ≠ [] -> (∀ x ∈ l, c ∉ x) -> dE (gy l [c]) [c] = l
  | [], h, _ => absurd rfl h
  | [x], _, h => by rw [qY, yA (h x (by simp))]
  | x :: y :: l, _, h => by
    rw [rV, List.append_assoc, List.singleton_append, BO (h x (by simp)), Ib (by simp) (fun z hz => h z (List.mem_cons_of_mem _ hz))]
theorem Iu {l : List Str} (h : l ≠ []) (x s : Str) : gy (l ++ [x]) s = gy l s ++ s ++ x := by
  induction l with
  | nil => exact absurd rfl h
  | cons a l ih =>
    cases l with
    | nil => rw [List.singleton_append, rV, qY, qY]
    | cons b l => rw [List.cons_append, List.cons_append, rV, rV, ← List.cons_append, ih (by simp)]; simp
theorem BD {l : List Str} {s : Str} {c : UInt8} (h : c ∈ gy l s) : c ∈ s ∨ ∃ x ∈ l, c ∈ x := by
  induction l with
  | nil => cases h
  | cons a l ih =>
    cases l with
    | nil => rw [qY] at h; exact .inr ⟨a, by simp, h⟩
    | cons b l =>
      rw [rV, List.mem_append, List.mem_append] at h
      rcases h with (h | h) | h
      · exact .inr ⟨a, by simp, h⟩
      · exact .inl h
      · rcases ih h with q | ⟨x, hx, q⟩
        · exact .inl q
        · exact .inr ⟨x, List.mem_cons_of_mem _ hx, q⟩
theorem JW {l : List Str} {c : UInt8} {m : Nat} (h : ∀ x ∈ l, x.length <= m) : (gy l [c]).length <= l.length * (m + 1) := by
  induction l with
  | nil => simp [MQ]
  | cons a l ih =>
    have ha := h a (by simp)
    have := ih fun x hx => h x (List.mem_cons_of_mem _ hx)
    rw [List.length_cons, Nat.succ_mul]
    cases l with
    | nil => rw [qY]; omega
    | cons b l => rw [rV]; simp only [List.length_append, List.length_cons, List.length_nil] at *; omega
theorem TK {l : List Str} {s : Str} (h : l ≠ []) (hx : ∀ x ∈ l, x ≠ []) : gy l s ≠ [] := by
  cases l with
  | nil => exact absurd rfl h
  | cons a l =>
    have ha := hx a (by simp)
    cases l with
    | nil => rw [qY]; exact ha
    | cons b l => rw [rV]; simp [ha]
theorem U3 {l : List Str} {s : Str} (h : l ≠ []) (hx : ∀ x ∈ l, x ≠ []) : ∃ x ∈ l, ∃ c ∈ x, (gy l s).getLast? = some c := by
  induction l with
  | nil => exact absurd rfl h
  | cons a l ih =>
    cases l with
    | nil =>
      rw [qY]
      have ha := hx a (by simp)
      exact ⟨a, by simp, a.getLast ha, List.getLast_mem ha, List.getLast?_eq_some_getLast ha⟩
    | cons b l =>
      obtain ⟨x, h1, c, h2, h3⟩ := ih (by simp) fun x hx' => hx x (List.mem_cons_of_mem _ hx')
      refine ⟨x, List.mem_cons_of_mem _ h1, c, h2, ?_⟩
      rw [rV, List.getLast?_append, h3]; rfl
def okH (c : UInt8) : Str -> Prop
  | [] => True
  | [a] => a ≠ c
  | a :: b :: r => ¬ (a = c /\ b = c) /\ okH c (b :: r)
theorem YQ {c : UInt8} {t : Str} : ∀ {h : Str}, okH c h -> Lib.index (h ++ c :: c :: t) [c, c] = h.length
  | [], _ => by rw [List.nil_append, Bo]; simp [List.isPrefixOf]
  | [a], k => by
    have ka : a ≠ c := k
    have h0 : Lib.index (c :: c :: t) [c, c] = 0 := by rw [Bo]; simp [List.isPrefixOf]
    show Lib.index (a :: (c :: c :: t)) [c, c] = 1
    rw [Bo]
    have : ([c, c].isPrefixOf (a :: c :: c :: t)) = false := by simp [List.isPrefixOf]; exact fun e => ka e.symm
    rw [this, h0]; rfl
  | a :: b :: r, k => by
    have ih := YQ (t := t) k.2
    show Lib.index (a :: (b :: r ++ c :: c :: t)) [c, c] = _
    rw [Bo]
    have : ([c, c].isPrefixOf (a :: (b :: r ++ c :: c :: t))) = false := by
      simp [List.isPrefixOf]
      intro e1 e2
      exact k.1 ⟨e1.symm, e2.symm⟩
    rw [this, ih]
    simp only [Bool.false_eq_true, if_false]
    have : (((b :: r).length : Int) == -1) = false := by rw [beq_eq_false_iff_ne]; omega
    rw [this]; simp
theorem acG {c : UInt8} {h t : Str} (k : okH c h) : lW (h ++ c :: c :: t) [c, c] = (h, t, true) := by
  unfold lW Lib.cut
  rw [YQ k, if_pos (by omega)]
  simp
theorem YB {c : UInt8} : ∀ {x : Str}, c ∉ x -> okH c x
  | [], _ => trivial
  | [a], h => fun e => h (by simp [e])
  | a :: b :: r, h => ⟨fun e => h (by simp [e.1]), YB fun q => h (List.mem_cons_of_mem _ q)⟩
theorem Sl {c b : UInt8} {y : Str} (hb : b ≠ c) (hy : okH c (b :: y)) : ∀ {x : Str}, c ∉ x -> okH c (x ++ c :: b :: y)
  | [], _ => ⟨fun e => hb e.2, hy⟩
  | [a], h => ⟨fun e => h (by simp [e.1]), Sl hb hy (x := []) (by simp)⟩
  | a :: d :: r, h => ⟨fun e => h (by simp [e.1]), Sl hb hy (x := d :: r) fun q => h (List.mem_cons_of_mem _ q)⟩
theorem Ph {c : UInt8} : ∀ {l : List Str}, (∀ x ∈ l, x ≠ [] /\ c ∉ x) -> okH c (gy l [c])
  | [], _ => trivial
  | [x], h => by rw [qY]; exact YB (h x (by simp)).2
  | x :: y :: l, h => by
    have hy := h y (by simp)
    have ih := Ph (l := y :: l) fun z hz => h z (List.mem_cons_of_mem _ hz)
    obtain ⟨b, y', rfl⟩ := List.exists_cons_of_ne_nil hy.1
    have hb : b ≠ c := fun e => hy.2 (by simp [e])
    have hj : ∃ z, gy ((b :: y') :: l) [c] = b :: z := by
      cases l with
      | nil => exact ⟨y', qY _ _⟩
      | cons a l => exact ⟨_, by rw [rV, List.cons_append, List.cons_append]⟩
    obtain ⟨z, hz⟩ := hj
    rw [rV, List.append_assoc, List.singleton_append, hz]
    rw [hz] at ih
    exact Sl hb ih (h x (by simp)).2
end Go.Wk
