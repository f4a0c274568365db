/- Plain words: lists that rise, neighbours that are alike, parts; loops from a place on. -/
import Derived.Test.YtmbkoonblmfdpaaGreatPl
set_option linter.unusedSimpArgs false
set_option linter.unusedVariables false
set_option linter.unusedSectionVars false
namespace Go.Wk
open Go.HL
def dd {α : Type} [DecidableEq α] (l : List α) : List α := l.foldl (fun s x => if s.getLast? = some x then s else s ++ [x]) []
section
variable {α : Type} [DecidableEq α]
theorem Uu {P : List α -> Prop} (h0 : P []) (h1 : ∀ l x, P l -> P (l ++ [x])) (l : List α) : P l := by
  have : ∀ n (l : List α), l.length = n -> P l := by
    intro n
    induction n with
    | zero => intro l h; rw [List.length_eq_zero_iff.1 h]; exact h0
    | succ n ih =>
      intro l h
      rcases List.eq_nil_or_concat l with rfl | ⟨r, x, rfl⟩
      · cases h
      · rw [List.concat_eq_append] at h ⊢; exact h1 _ _ (ih r (by simpa using h))
  exact this _ l rfl
end
theorem aa5 {S : Type} {B : (S -> Prop) -> S -> Prop} {s0 : S} (ix : S -> Int) (i0 n : Nat) (I : Nat -> S -> Prop) (hx : ix s0 = i0) (hn : i0 <= n) (h0 : I i0 s0)
    (hB : ∀ (K : S -> Prop) (i : Nat) (s : S), ix s = i -> i <= n -> I i s -> (∀ (j : Nat) (s' : S), ix s' = j -> i < j -> j <= n -> I j s' -> K s') -> B K s) : uH B s0 := by
  refine ⟨fun q => ∃ j : Nat, ix q = j /\ j <= n /\ I j q, fun q => (n - ix q).toNat, ⟨i0, hx, hn, h0⟩, ?_⟩
  rintro s ⟨i, hi, hn, hI⟩
  exact hB _ i s hi hn hI fun j s' hj hij hj' hI' => ⟨⟨j, hj, hj', hI'⟩, by simp only; rw [hi, hj]; omega⟩
theorem take_set {α : Type} {l : List α} {k : Nat} (h : k < l.length) (x : α) : (l.set k x).take (k + 1) = l.take k ++ [x] := by
  rw [List.set_eq_take_append_cons_drop, if_pos h, List.take_append, List.length_take, Nat.min_eq_left (by omega), List.take_of_length_le (by rw [List.length_take]; omega)]
  congr 1
  rw [show k + 1 - k = 1 by omega]; rfl
theorem Yj {α : Type} {lt : α -> α -> Prop} (irr : ∀ a, ¬ lt a a) (tr : ∀ a b c, lt a b -> lt b c -> lt a c) : ∀ {l m : List α}, l.Pairwise lt -> m.Pairwise lt -> (∀ x, x ∈ l ↔ x ∈ m) -> l = m
  | [], [], _, _, _ => rfl
  | [], b :: m, _, _, h => absurd ((h b).2 (by simp)) (by simp)
  | a :: l, [], _, _, h => absurd ((h a).1 (by simp)) (by simp)
  | a :: l, b :: m, hl, hm, h => by
    rw [List.pairwise_cons] at hl hm
    have hab : a = b := by
      rcases List.mem_cons.1 ((h a).1 (by simp)) with e | ha
      · exact e
      · rcases List.mem_cons.1 ((h b).2 (by simp)) with e | hb
        · exact e.symm
        · exact absurd (tr _ _ _ (hm.1 a ha) (hl.1 b hb)) (irr b)
    subst hab
    congr 1
    refine Yj irr tr hl.2 hm.2 fun x => ?_
    have hx := h x
    rw [List.mem_cons, List.mem_cons] at hx
    constructor
    · intro q
      rcases hx.1 (.inr q) with rfl | q'
      · exact absurd (hl.1 x q) (irr x)
      · exact q'
    · intro q
      rcases hx.2 (.inr q) with rfl | q'
      · exact absurd (hm.1 x q) (irr x)
      · exact q'
theorem YY {α : Type} {lt : α -> α -> Prop} {l : List α} (p : α -> Bool) (h : l.Pairwise lt) : (l.filter p).Pairwise lt := List.Pairwise.sublist (List.filter_sublist) h
end Go.Wk
