/- Plain words: texts split, joined, cut. -/
import Derived.Test.YtlnagjjldpgbpaaGreatDoorStrs
import Derived.Test.YtlnagjjldpgbpaaGreatDoorPl2
set_option linter.unusedSimpArgs false
set_option linter.unusedVariables false
set_option linter.unusedSectionVars false
namespace Go.Wk
open Go.HL
theorem yQ (b : UInt8) (l sub : Str) : Lib.index (b :: l) sub = if sub.isPrefixOf (b :: l) then 0 else if Lib.index l sub == -1 then -1 else Lib.index l sub + 1 := rfl
theorem Ku (b c : UInt8) (l : Str) : Lib.index (b :: l) [c] = if b = c then 0 else if Lib.index l [c] = -1 then -1 else Lib.index l [c] + 1 := by
  rw [yQ]
  by_cases h : b = c
  · subst h; simp [List.isPrefixOf]
  · have : ([c].isPrefixOf (b :: l)) = false := by simp [List.isPrefixOf]; exact fun e => h e.symm
    rw [this, if_neg h]
    simp only [Bool.false_eq_true, if_false, beq_iff_eq]
theorem QR {c : UInt8} : ∀ {l : Str}, c ∉ l -> Lib.index l [c] = -1
  | [], _ => rfl
  | b :: l, h => by
    rw [Ku, if_neg (fun e => h (by simp [e])), if_pos (QR fun q => h (List.mem_cons_of_mem _ q))]
theorem Qd {c : UInt8} : ∀ {x : Str} {r : Str}, c ∉ x -> Lib.index (x ++ c :: r) [c] = x.length
  | [], r, _ => by rw [List.nil_append, Ku, if_pos rfl]; rfl
  | b :: x, r, h => by
    rw [List.cons_append, Ku, if_neg (fun e => h (by simp [e])), Qd (fun q => h (List.mem_cons_of_mem _ q)), if_neg (by omega)]
    simp
theorem QY {c : UInt8} {s : Str} (h : c ∈ s) : ∃ x r, s = x ++ c :: r /\ c ∉ x := by
  induction s with
  | nil => cases h
  | cons b s ih =>
    by_cases e : b = c
    · exact ⟨[], s, by rw [e]; rfl, by simp⟩
    · obtain ⟨x, r, h1, h2⟩ := ih ((List.mem_cons.1 h).resolve_left fun q => e q.symm)
      refine ⟨b :: x, r, by rw [h1]; rfl, ?_⟩
      intro q
      rcases List.mem_cons.1 q with q | q
      · exact e q.symm
      · exact h2 q
theorem abm (s : Str) (c : UInt8) : SH s [c] = decide (c ∈ s) := by
  unfold SH
  by_cases h : c ∈ s
  · obtain ⟨x, r, rfl, hx⟩ := QY h
    rw [Qd hx, decide_eq_true (by omega), decide_eq_true h]
  · rw [QR h, decide_eq_false (by omega), decide_eq_false h]
theorem vT {c : UInt8} {s : Str} (h : c ∉ s) : df s [c] = [s] := by
  unfold df
  rw [Lib.count_one, List.count_eq_zero.2 h]; rfl
theorem zl {c : UInt8} {x r : Str} (h : c ∉ x) : df (x ++ c :: r) [c] = x :: df r [c] := by
  unfold df
  rw [Lib.count_one, Lib.count_one, List.count_append, List.count_eq_zero.2 h, List.count_cons_self, Nat.zero_add]
  show (if Lib.index (x ++ c :: r) [c] == -1 then _ else _) = _
  rw [Qd h]
  have : ((x.length : Int) == -1) = false := by
    rw [beq_eq_false_iff_ne]; omega
  rw [this]
  simp only [Bool.false_eq_true, if_false, Int.toNat_natCast, Nat.add_zero, List.length_cons, List.length_nil]
  rw [List.take_left' rfl, List.drop_append]
  have hd : List.drop (x.length + 1) x = [] := List.drop_eq_nil_of_le (by omega)
  simp [hd]
theorem EI {P : Str -> Prop} (c : UInt8) (h0 : ∀ s, c ∉ s -> P s) (h1 : ∀ x r, c ∉ x -> P r -> P (x ++ c :: r)) : ∀ s, P s := by
  intro s
  induction hn : s.length using Nat.strongRecOn generalizing s with
  | _ n ih =>
    by_cases h : c ∈ s
    · obtain ⟨x, r, rfl, hx⟩ := QY h
      refine h1 x r hx (ih r.length ?_ r rfl)
      rw [← hn, List.length_append, List.length_cons]; omega
    · exact h0 s h
theorem MM (s : Str) (c : UInt8) : df s [c] ≠ [] := by
  refine EI (P := fun s => df s [c] ≠ []) c (fun s h => ?_) (fun x r h _ => ?_) s
  · rw [vT h]; simp
  · rw [zl h]; simp
theorem JQ (s : Str) (c : UInt8) : (df s [c]).length <= s.length + 1 := by
  refine EI (P := fun s => (df s [c]).length <= s.length + 1) c (fun s h => ?_) (fun x r h ih => ?_) s
  · rw [vT h]; simp
  · rw [zl h]; simp only [List.length_cons, List.length_append]; omega
theorem OQ (s : Str) (c : UInt8) : ∀ x ∈ df s [c], x.length <= s.length /\ c ∉ x := by
  refine EI (P := fun s => ∀ x ∈ df s [c], x.length <= s.length /\ c ∉ x) c (fun s h x hx => ?_) (fun x r h ih y hy => ?_) s
  · rw [vT h] at hx; rw [List.mem_singleton.1 hx]; exact ⟨Nat.le_refl _, h⟩
  · rw [zl h] at hy
    rw [List.length_append, List.length_cons]
    rcases List.mem_cons.1 hy with rfl | hy
    · exact ⟨by omega, h⟩
    · have := ih y hy; exact ⟨by omega, this.2⟩
theorem Kr (s : Str) : fA [] s = [] := rfl
theorem pz (x s : Str) : fA [x] s = x := Lib.join_one x s
theorem qi (x y : Str) (l : List Str) (s : Str) : fA (x :: y :: l) s = x ++ s ++ fA (y :: l) s := by
  unfold fA Lib.join; simp [List.intercalate]
theorem SB (s : Str) (c : UInt8) : fA (df s [c]) [c] = s := by
  refine EI (P := fun s => fA (df s [c]) [c] = s) c (fun s h => ?_) (fun x r h ih => ?_) s
  · rw [vT h, pz]
  · rw [zl h]
    have hne := MM r c
    generalize df r [c] = l at *
    cases l with
    | nil => exact absurd rfl hne
    | cons y l => rw [qi, ih]; simp
theorem Fh {c : UInt8} : ∀ {l : List Str}, l ≠ [] -> (∀ x ∈ l, c ∉ x) -> df (fA l [c]) [c] = l
  | [], h, _ => absurd rfl h
  | [x], _, h => by rw [pz, vT (h x (by simp))]
  | x :: y :: l, _, h => by
    rw [qi, List.append_assoc, List.singleton_append, zl (h x (by simp)), Fh (by simp) (fun z hz => h z (List.mem_cons_of_mem _ hz))]
theorem FO {l : List Str} (h : l ≠ []) (x s : Str) : fA (l ++ [x]) s = fA l s ++ s ++ x := by
  induction l with
  | nil => exact absurd rfl h
  | cons a l ih =>
    cases l with
    | nil => rw [List.singleton_append, qi, pz, pz]
    | cons b l => rw [List.cons_append, List.cons_append, qi, qi, ← List.cons_append, ih (by simp)]; simp
theorem yY {l : List Str} {s : Str} {c : UInt8} (h : c ∈ fA l s) : c ∈ s ∨ ∃ x ∈ l, c ∈ x := by
  induction l with
  | nil => cases h
  | cons a l ih =>
    cases l with
    | nil => rw [pz] at h; exact .inr ⟨a, by simp, h⟩
    | cons b l =>
      rw [qi, List.mem_append, List.mem_append] at h
      rcases h with (h | h) | h
      · exact .inr ⟨a, by simp, h⟩
      · exact .inl h
      · rcases ih h with q | ⟨x, hx, q⟩
        · exact .inl q
        · exact .inr ⟨x, List.mem_cons_of_mem _ hx, q⟩
theorem Ij {l : List Str} {c : UInt8} {m : Nat} (h : ∀ x ∈ l, x.length <= m) : (fA l [c]).length <= l.length * (m + 1) := by
  induction l with
  | nil => simp [Kr]
  | cons a l ih =>
    have ha := h a (by simp)
    have := ih fun x hx => h x (List.mem_cons_of_mem _ hx)
    rw [List.length_cons, Nat.succ_mul]
    cases l with
    | nil => rw [pz]; omega
    | cons b l => rw [qi]; simp only [List.length_append, List.length_cons, List.length_nil] at *; omega
theorem QO {l : List Str} {s : Str} (h : l ≠ []) (hx : ∀ x ∈ l, x ≠ []) : fA l s ≠ [] := by
  cases l with
  | nil => exact absurd rfl h
  | cons a l =>
    have ha := hx a (by simp)
    cases l with
    | nil => rw [pz]; exact ha
    | cons b l => rw [qi]; simp [ha]
theorem SC {l : List Str} {s : Str} (h : l ≠ []) (hx : ∀ x ∈ l, x ≠ []) : ∃ x ∈ l, ∃ c ∈ x, (fA l s).getLast? = some c := by
  induction l with
  | nil => exact absurd rfl h
  | cons a l ih =>
    cases l with
    | nil =>
      rw [pz]
      have ha := hx a (by simp)
      exact ⟨a, by simp, a.getLast ha, List.getLast_mem ha, List.getLast?_eq_some_getLast ha⟩
    | cons b l =>
      obtain ⟨x, h1, c, h2, h3⟩ := ih (by simp) fun x hx' => hx x (List.mem_cons_of_mem _ hx')
      refine ⟨x, List.mem_cons_of_mem _ h1, c, h2, ?_⟩
      rw [qi, List.getLast?_append, h3]; rfl
def Yg (c : UInt8) : Str -> Prop
  | [] => True
  | [a] => a ≠ c
  | a :: b :: r => ¬ (a = c /\ b = c) /\ Yg c (b :: r)
theorem WN {c : UInt8} {t : Str} : ∀ {h : Str}, Yg c h -> Lib.index (h ++ c :: c :: t) [c, c] = h.length
  | [], _ => by rw [List.nil_append, yQ]; simp [List.isPrefixOf]
  | [a], k => by
    have ka : a ≠ c := k
    have h0 : Lib.index (c :: c :: t) [c, c] = 0 := by rw [yQ]; simp [List.isPrefixOf]
    show Lib.index (a :: (c :: c :: t)) [c, c] = 1
    rw [yQ]
    have : ([c, c].isPrefixOf (a :: c :: c :: t)) = false := by simp [List.isPrefixOf]; exact fun e => ka e.symm
    rw [this, h0]; rfl
  | a :: b :: r, k => by
    have ih := WN (t := t) k.2
    show Lib.index (a :: (b :: r ++ c :: c :: t)) [c, c] = _
    rw [yQ]
    have : ([c, c].isPrefixOf (a :: (b :: r ++ c :: c :: t))) = false := by
      simp [List.isPrefixOf]
      intro e1 e2
      exact k.1 ⟨e1.symm, e2.symm⟩
    rw [this, ih]
    simp only [Bool.false_eq_true, if_false]
    have : (((b :: r).length : Int) == -1) = false := by rw [beq_eq_false_iff_ne]; omega
    rw [this]; simp
theorem aay {c : UInt8} {h t : Str} (k : Yg c h) : kC (h ++ c :: c :: t) [c, c] = (h, t, true) := by
  unfold kC Lib.cut
  rw [WN k, if_pos (by omega)]
  simp
theorem Wq {c : UInt8} : ∀ {x : Str}, c ∉ x -> Yg c x
  | [], _ => trivial
  | [a], h => fun e => h (by simp [e])
  | a :: b :: r, h => ⟨fun e => h (by simp [e.1]), Wq fun q => h (List.mem_cons_of_mem _ q)⟩
theorem PZ {c b : UInt8} {y : Str} (hb : b ≠ c) (hy : Yg c (b :: y)) : ∀ {x : Str}, c ∉ x -> Yg c (x ++ c :: b :: y)
  | [], _ => ⟨fun e => hb e.2, hy⟩
  | [a], h => ⟨fun e => h (by simp [e.1]), PZ hb hy (x := []) (by simp)⟩
  | a :: d :: r, h => ⟨fun e => h (by simp [e.1]), PZ hb hy (x := d :: r) fun q => h (List.mem_cons_of_mem _ q)⟩
theorem Nj {c : UInt8} : ∀ {l : List Str}, (∀ x ∈ l, x ≠ [] /\ c ∉ x) -> Yg c (fA l [c])
  | [], _ => trivial
  | [x], h => by rw [pz]; exact Wq (h x (by simp)).2
  | x :: y :: l, h => by
    have hy := h y (by simp)
    have ih := Nj (l := y :: l) fun z hz => h z (List.mem_cons_of_mem _ hz)
    obtain ⟨b, y', rfl⟩ := List.exists_cons_of_ne_nil hy.1
    have hb : b ≠ c := fun e => hy.2 (by simp [e])
    have hj : ∃ z, fA ((b :: y') :: l) [c] = b :: z := by
      cases l with
      | nil => exact ⟨y', pz _ _⟩
      | cons a l => exact ⟨_, by rw [qi, List.cons_append, List.cons_append]⟩
    obtain ⟨z, hz⟩ := hj
    rw [qi, List.append_assoc, List.singleton_append, hz]
    rw [hz] at ih
    exact PZ hb ih (h x (by simp)).2
end Go.Wk
