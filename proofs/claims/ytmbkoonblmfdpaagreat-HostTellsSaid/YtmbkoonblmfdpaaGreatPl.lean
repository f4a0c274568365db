/- Plain words on the mirrors: loops by a list, by a bag; lists cut and looked into. -/
import Derived.Test.YtmbkoonblmfdpaaGreatSrt
import Derived.Test.YtmbkoonblmfdpaaGreatOwn3
set_option linter.unusedSimpArgs false
set_option linter.unusedVariables false
set_option linter.unusedSectionVars false
namespace Go.Wk
theorem QH {σ : Type} {B : ((σ × Int) -> Prop) -> σ × Int -> Prop} {s0 : σ} (n : Nat) (I : Nat -> σ -> Prop) (h0 : I 0 s0)
    (hB : ∀ (K : (σ × Int) -> Prop) (i : Nat) (s : σ), i <= n -> I i s -> (∀ (j : Nat) (s' : σ), i < j -> j <= n -> I j s' -> K (s', (j : Int))) -> B K (s, (i : Int))) : uH B (s0, 0) := by
  refine ⟨fun q => ∃ j : Nat, q.2 = j /\ j <= n /\ I j q.1, fun q => (n - q.2).toNat, ⟨0, rfl, Nat.zero_le _, h0⟩, ?_⟩
  rintro ⟨s, _⟩ ⟨i, rfl, hi, hI⟩
  exact hB _ i s hi hI fun j s' hij hj hI' => ⟨⟨j, rfl, hj, hI'⟩, by simp only; omega⟩
theorem GG {B : (Int -> Prop) -> Int -> Prop} (n : Nat) (I : Nat -> Prop) (h0 : I 0)
    (hB : ∀ (K : Int -> Prop) (i : Nat), i <= n -> I i -> (∀ j : Nat, i < j -> j <= n -> I j -> K (j : Int)) -> B K (i : Int)) : uH B 0 := by
  refine ⟨fun q => ∃ j : Nat, q = j /\ j <= n /\ I j, fun q => (n - q).toNat, ⟨0, rfl, Nat.zero_le _, h0⟩, ?_⟩
  rintro _ ⟨i, rfl, hi, hI⟩
  exact hB _ i hi hI fun j hij hj hI' => ⟨⟨j, rfl, hj, hI'⟩, by simp only; omega⟩
theorem aa6 {α σ : Type} {B : ((σ × Int) -> Prop) -> σ × Int -> Prop} (l : List α) (f : σ -> α -> σ) {s0 : σ}
    (hB : ∀ (K : (σ × Int) -> Prop) (i : Nat) (s : σ), i <= l.length -> s = (l.take i).foldl f s0 -> (∀ h : i < l.length, K (f s l[i], (i : Int) + 1)) -> B K (s, (i : Int))) : uH B (s0, 0) := by
  refine QH l.length (fun i s => s = (l.take i).foldl f s0) (by simp) fun K i s hi hs hK => hB K i s hi hs fun h => hK (i + 1) _ (by omega) (by omega) ?_
  rw [List.take_succ_eq_append_getElem h, List.foldl_append, ← hs]; rfl
theorem Iy {S : Type} {B : (S -> Prop) -> S -> Prop} {s0 : S} (ix : S -> Int) (n : Nat) (I : Nat -> S -> Prop) (hx : ix s0 = 0) (h0 : I 0 s0)
    (hB : ∀ (K : S -> Prop) (i : Nat) (s : S), ix s = i -> i <= n -> I i s -> (∀ (j : Nat) (s' : S), ix s' = j -> i < j -> j <= n -> I j s' -> K s') -> B K s) : uH B s0 := by
  refine ⟨fun q => ∃ j : Nat, ix q = j /\ j <= n /\ I j q, fun q => (n - ix q).toNat, ⟨0, hx, Nat.zero_le _, h0⟩, ?_⟩
  rintro s ⟨i, hi, hn, hI⟩
  exact hB _ i s hi hn hI fun j s' hj hij hj' hI' => ⟨⟨j, hj, hj', hI'⟩, by simp only; rw [hi, hj]; omega⟩
theorem ae3 {α : Type} (l : List α) (n : Nat) : cut l 0 (n : Int) = l.take n := by simp [cut]
theorem agj {α : Type} (l : List α) (n : Nat) : cut l (n : Int) (l.length : Int) = l.drop n := by simp [cut]
end Go.Wk
