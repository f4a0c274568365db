/- Plain words for the library's sorts: the plain twin of Go's pdqsort, step by step, over lists. -/
import Derived.Test.YtolmcabcmphkpaaPl
import Derived.Sort.AssemblyPlain
import Derived.Sort.LotD3
set_option linter.unusedSimpArgs false
set_option linter.unusedVariables false
set_option linter.unusedSectionVars false
namespace Go.Wk
open Go.Sort
/-- A loop by a word that holds at each round's head, and a measure. -/
theorem loopI {S : Type} {B : (S → Prop) → S → Prop} {s0 : S} (I : S → Prop) (m : S → Nat) (h0 : I s0) (hB : ∀ (K : S → Prop) (s : S), I s → (∀ s', I s' → m s' < m s → K s') → B K s) : loopW B s0 :=
  ⟨I, m, h0, fun s hs => hB _ s hs fun s' h1 h2 => ⟨h1, h2⟩⟩
def ltOf {α : Type} (cf : α → α → Int) (x y : α) : Bool := decide (cf x y < 0)
section
variable {α : Type} [Inhabited α] {lt : α → α → Bool} {d D e e1 e2 : Array α} {a b i j k x y w s pivot : Nat} {p : α → Bool}
theorem gi_arr (d : Array α) (x : Int) : gi d.toList x = d[x.toNat]! := by
  unfold gi; rw [List.getD_eq_getElem?_getD]
  by_cases h : x.toNat < d.size
  · rw [getElem!_pos d _ h, List.getElem?_eq_getElem (by simpa using h)]; simp
  · rw [getElem!_neg d _ h, List.getElem?_eq_none (by simpa using h)]; rfl
theorem swp_arr (d : Array α) (i j : Nat) : (d.toList.set i d[j]!).set j d[i]! = (swp d i j).toList := by simp [swp]
theorem swp_sz (d : Array α) (i j : Nat) : (swp d i j).size = d.size := by simp [swp]
theorem td2 (m : Nat) : ((m : Int)).tdiv 2 = ((m / 2 : Nat) : Int) := rfl

theorem rev_go (h : i < j) : reverseLoop (i + 1) (j - 1) (swp d i j) = reverseLoop i j d := by rw [reverseLoop.eq_def i j d, if_pos h]
theorem rev_stop (h : ¬ i < j) : reverseLoop i j d = d := by rw [reverseLoop.eq_def, if_neg h]
section sift
variable {hi first root : Nat}
theorem sift_stop (h : 2 * root + 1 ≥ hi) : siftDown lt hi first root d = d := by rw [siftDown.eq_def, dif_pos h]
theorem sift_r_stop (h : ¬ 2 * root + 1 ≥ hi) (h2 : 2 * root + 1 + 1 < hi) (h3 : lt d[first + (2 * root + 1)]! d[first + (2 * root + 2)]! = true) (h4 : lt d[first + root]! d[first + (2 * root + 2)]! = false) : siftDown lt hi first root d = d := by
  rw [siftDown.eq_def, dif_neg h, if_pos (by simp [h2]; exact h3), if_pos (by simp [h4])]
theorem sift_r_go (h : ¬ 2 * root + 1 ≥ hi) (h2 : 2 * root + 1 + 1 < hi) (h3 : lt d[first + (2 * root + 1)]! d[first + (2 * root + 2)]! = true) (h4 : lt d[first + root]! d[first + (2 * root + 2)]! = true) : siftDown lt hi first (2 * root + 2) (swp d (first + root) (first + (2 * root + 2))) = siftDown lt hi first root d := by
  rw [siftDown.eq_def lt hi first root, dif_neg h, if_pos (by simp [h2]; exact h3), if_neg (by simp [h4]), dif_pos (by omega)]
theorem sift_l_stop (h : ¬ 2 * root + 1 ≥ hi) (h3 : ¬ (2 * root + 1 + 1 < hi ∧ lt d[first + (2 * root + 1)]! d[first + (2 * root + 2)]! = true)) (h4 : lt d[first + root]! d[first + (2 * root + 1)]! = false) : siftDown lt hi first root d = d := by
  rw [siftDown.eq_def, dif_neg h, if_neg (by rw [show first + (2 * root + 1) + 1 = first + (2 * root + 2) from by omega]; simpa using h3), if_pos (by simp [h4])]
theorem sift_l_go (h : ¬ 2 * root + 1 ≥ hi) (h3 : ¬ (2 * root + 1 + 1 < hi ∧ lt d[first + (2 * root + 1)]! d[first + (2 * root + 2)]! = true)) (h4 : lt d[first + root]! d[first + (2 * root + 1)]! = true) : siftDown lt hi first (2 * root + 1) (swp d (first + root) (first + (2 * root + 1))) = siftDown lt hi first root d := by
  rw [siftDown.eq_def lt hi first root, dif_neg h, if_neg (by rw [show first + (2 * root + 1) + 1 = first + (2 * root + 2) from by omega]; simpa using h3), if_neg (by simp [h4])]
theorem sift_sz' : ∀ (k hi first root : Nat) (d : Array α), hi - root ≤ k → (siftDown lt hi first root d).size = d.size
  | 0, hi, first, root, d, h => by rw [siftDown.eq_def, dif_pos (by omega)]
  | k + 1, hi, first, root, d, h => by
    rw [siftDown.eq_def]
    split
    · rfl
    · split
      · split
        · rfl
        · split
          · rw [sift_sz' k _ _ _ _ (by omega)]; simp [swp]
          · rfl
      · split
        · rfl
        · rw [sift_sz' k _ _ _ _ (by omega)]; simp [swp]
theorem sift_sz : (siftDown lt hi first root d).size = d.size := sift_sz' (hi - root) hi first root d (Nat.le_refl _)
end sift
theorem build_go {hi first : Nat} (k : Nat) : heapBuild lt hi first k (siftDown lt hi first k d) = heapBuild lt hi first (k + 1) d := rfl
theorem pop_go {first : Nat} (k : Nat) : heapPop lt first k (siftDown lt k first 0 (swp d first (first + k))) = heapPop lt first (k + 1) d := rfl

theorem scan_go (h : i < b) (h2 : lt d[i]! d[i - 1]! = false) : scanSorted lt d b (i + 1) = scanSorted lt d b i := by rw [scanSorted.eq_def lt d b i, if_pos (by simp [h, h2])]
theorem scan_end (h : ¬ i < b) : scanSorted lt d b i = i := by rw [scanSorted.eq_def, if_neg (by simp [h])]
theorem scan_stop (h2 : lt d[i]! d[i - 1]! = true) : scanSorted lt d b i = i := by rw [scanSorted.eq_def, if_neg (by simp [h2])]
theorem sd_go (hj : 1 ≤ j) (h : lt d[j]! d[j - 1]! = true) : Go.Sort.shiftDown lt (j - 1) (swp d j (j - 1)) = Go.Sort.shiftDown lt j d := by
  obtain ⟨k, rfl⟩ : ∃ k, j = k + 1 := ⟨j - 1, by omega⟩
  simp only [Nat.add_sub_cancel] at h ⊢
  rw [Go.Sort.shiftDown.eq_def lt (k + 1) d]; simp [h]
theorem sd_stop (hj : 1 ≤ j) (h : lt d[j]! d[j - 1]! = false) : Go.Sort.shiftDown lt j d = d := by
  obtain ⟨k, rfl⟩ : ∃ k, j = k + 1 := ⟨j - 1, by omega⟩
  simp only [Nat.add_sub_cancel] at h
  rw [Go.Sort.shiftDown.eq_def]; simp [h]
theorem su_go (hj : j < b) (h : lt d[j]! d[j - 1]! = true) : shiftUp lt b (j + 1) (swp d j (j - 1)) = shiftUp lt b j d := by rw [shiftUp.eq_def lt b j d, if_pos hj, if_neg (by simp [h])]
theorem su_end (hj : ¬ j < b) : shiftUp lt b j d = d := by rw [shiftUp.eq_def, if_neg hj]
theorem su_stop (hj : j < b) (h : lt d[j]! d[j - 1]! = false) : shiftUp lt b j d = d := by rw [shiftUp.eq_def, if_pos hj, if_pos (by simp [h])]
theorem pi_done (hy : scanSorted lt d b i = y) (h : y = b) : partialIns lt a b (s + 1) i d = (d, true) := by subst hy; unfold partialIns; simp only [if_pos h]
theorem pi_small (hy : scanSorted lt d b i = y) (h : ¬ y = b) (h2 : b - a < 50) : partialIns lt a b (s + 1) i d = (d, false) := by subst hy; unfold partialIns; simp only [if_neg h, if_pos h2]
theorem pi_go (hy : scanSorted lt d b i = y) (h : ¬ y = b) (h2 : ¬ b - a < 50) (h3 : (if y - a ≥ 2 then Go.Sort.shiftDown lt (y - 1) (swp d y (y - 1)) else swp d y (y - 1)) = e1) (h4 : (if b - y ≥ 2 then shiftUp lt b (y + 1) e1 else e1) = e2) :
    partialIns lt a b s y e2 = partialIns lt a b (s + 1) i d := by subst hy; subst h4; subst h3; rw [partialIns.eq_def lt a b (s + 1)]; simp only [if_neg h, if_neg h2]
theorem ii_go (h : a < j) (h2 : lt d[j]! d[j - 1]! = true) : insInner lt a (j - 1) (swp d j (j - 1)) = insInner lt a j d := by
  obtain ⟨k, rfl⟩ : ∃ k, j = k + 1 := ⟨j - 1, by omega⟩
  simp only [Nat.add_sub_cancel] at h2 ⊢
  rw [insInner.eq_def lt a (k + 1) d]; dsimp only; rw [if_pos (by simp [h2]; omega)]
theorem ii_a (h : ¬ a < j) : insInner lt a j d = d := by
  cases j with
  | zero => rfl
  | succ k => rw [insInner.eq_def]; dsimp only; rw [if_neg (by simp; omega)]
theorem ii_stop (h2 : lt d[j]! d[j - 1]! = false) : insInner lt a j d = d := by
  cases j with
  | zero => rfl
  | succ k => simp only [Nat.add_sub_cancel] at h2; rw [insInner.eq_def]; dsimp only; rw [if_neg (by simp [h2])]
theorem io_go (h : i < b) : insOuter lt a b (i + 1) (insInner lt a i d) = insOuter lt a b i d := by rw [insOuter.eq_def lt a b i d, if_pos h]
theorem io_end (h : ¬ i < b) : insOuter lt a b i d = d := by rw [insOuter.eq_def, if_neg h]
theorem up_go (h : i ≤ j) (hp : p d[i]! = true) : scanUp p d j (i + 1) = scanUp p d j i := by rw [scanUp.eq_def p d j i, if_pos (by simp [h, hp])]
theorem up_out (h : ¬ i ≤ j) : scanUp p d j i = i := by rw [scanUp.eq_def, if_neg (by simp [h])]
theorem up_no (hp : p d[i]! = false) : scanUp p d j i = i := by rw [scanUp.eq_def, if_neg (by simp [hp])]
theorem dn_go (hj : 1 ≤ j) (h : i ≤ j) (hp : p d[j]! = true) : scanDown p d i (j - 1) = scanDown p d i j := by
  obtain ⟨k, rfl⟩ : ∃ k, j = k + 1 := ⟨j - 1, by omega⟩
  rw [Nat.add_sub_cancel, scanDown.eq_def p d i (k + 1)]; dsimp only; rw [if_pos (by simp [h, hp])]
theorem dn_out (h : ¬ i ≤ j) : scanDown p d i j = j := by
  cases j with
  | zero => rfl
  | succ k => rw [scanDown.eq_def]; dsimp only; rw [if_neg (by simp [h])]
theorem dn_no (hp : p d[j]! = false) : scanDown p d i j = j := by
  cases j with
  | zero => rfl
  | succ k => rw [scanDown.eq_def]; dsimp only; rw [if_neg (by simp [hp])]
theorem pe_stop (hy : scanUp (fun x => !lt D[a]! x) D j i = y) (hw : scanDown (fun x => lt D[a]! x) D y j = w) (h : w < y) : partEqLoop lt a i j D = (y, D) := by
  subst hw; subst hy; rw [partEqLoop.eq_def]; dsimp only; rw [if_pos h]
theorem pe_go (hy : scanUp (fun x => !lt D[a]! x) D j i = y) (hw : scanDown (fun x => lt D[a]! x) D y j = w) (h : ¬ w < y) (h2 : i ≤ y) (h3 : w ≤ j) (h4 : 1 ≤ y) : partEqLoop lt a (y + 1) (w - 1) (swp D y w) = partEqLoop lt a i j D := by
  subst hw; subst hy; rw [partEqLoop.eq_def lt a i j D]; dsimp only; rw [if_neg h, dif_pos (by omega)]
theorem pl_stop (hy : scanUp (fun x => lt x D[a]!) D j i = y) (hw : scanDown (fun x => !lt x D[a]!) D y j = w) (h : w < y) : partLoop lt a i j D = (w, D) := by
  subst hw; subst hy; rw [partLoop.eq_def]; dsimp only; rw [if_pos h]
theorem pl_go (hy : scanUp (fun x => lt x D[a]!) D j i = y) (hw : scanDown (fun x => !lt x D[a]!) D y j = w) (h : ¬ w < y) (h2 : i ≤ y) (h3 : w ≤ j) (h4 : 1 ≤ y) : partLoop lt a (y + 1) (w - 1) (swp D y w) = partLoop lt a i j D := by
  subst hw; subst hy; rw [partLoop.eq_def lt a i j D]; dsimp only; rw [if_neg h, dif_pos (by omega)]
theorem pt_a (hD : swp d a pivot = D) (hy : scanUp (fun x => lt x D[a]!) D (b - 1) (a + 1) = y) (hw : scanDown (fun x => !lt x D[a]!) D y (b - 1) = w) (h : w < y) : partition lt d a b pivot = (w, true, swp D w a) := by
  subst hw; subst hy; subst hD; unfold partition; dsimp only; rw [if_pos h]
theorem pt_b {x : Nat} (hD : swp d a pivot = D) (hy : scanUp (fun x => lt x D[a]!) D (b - 1) (a + 1) = y) (hw : scanDown (fun x => !lt x D[a]!) D y (b - 1) = w) (h : ¬ w < y) (hr : partLoop lt a (y + 1) (w - 1) (swp D y w) = (x, e)) :
    partition lt d a b pivot = (x, false, swp e x a) := by
  subst hw; subst hy; subst hD; unfold partition; dsimp only; rw [if_neg h, hr]
end
theorem nlt_t {α : Type} {cf : α → α → Int} {x y : α} (h : ¬ cf x y < 0) : (!ltOf cf x y) = true := by unfold ltOf; rw [decide_eq_false h]; rfl
theorem nlt_f {α : Type} {cf : α → α → Int} {x y : α} (h : cf x y < 0) : (!ltOf cf x y) = false := by unfold ltOf; rw [decide_eq_true h]; rfl
/-- An order that a sort takes. -/
theorem swo_lt {α : Type} {cf : α → α → Int} (asym : ∀ x y, cf x y < 0 → ¬ cf y x < 0) (nt : ∀ x y z, ¬ cf x y < 0 → ¬ cf y z < 0 → ¬ cf x z < 0) : SWO (ltOf cf) where
  irrefl x := by unfold ltOf; rw [decide_eq_false_iff_not]; intro h'; exact asym _ _ h' h'
  trans x y z := by
    unfold ltOf; simp only [decide_eq_true_eq]
    intro h1 h2
    rcases Int.lt_or_le (cf x z) 0 with h3 | h3
    · exact h3
    · exact absurd h1 (nt x z y (by omega) (fun h' => asym _ _ h2 h'))
  ntrans x y z := by
    unfold ltOf; simp only [decide_eq_false_iff_not]
    exact nt x y z
theorem sorted_list {α : Type} [Inhabited α] {cf : α → α → Int} {d : Array α} (h : SortedIn (ltOf cf) 0 d.size d) : d.toList.Pairwise fun x y => ¬ cf y x < 0 := by
  rw [List.pairwise_iff_getElem]
  intro i j hi hj hij
  have := h i j (Nat.zero_le _) hij (by simpa using hj)
  unfold ltOf at this
  rw [decide_eq_false_iff_not, getElem!_pos d j (by simpa using hj), getElem!_pos d i (by simpa using hi)] at this
  simpa using this
theorem perm_list {α : Type} [Inhabited α] {d d' : Array α} (h : PermIn 0 d.size d d') : d'.toList.Perm d.toList := by
  have h1 := h.2.2
  rw [← h.1] at h1
  have e1 : d'.extract 0 d'.size = d' := by simp
  rw [e1, h.1] at h1
  simpa using h1
theorem two_le (l : Nat) (h : 1 ≤ l) : 2 ^ bitsLen l ≤ 2 * l := two_pow_bitsLen_le h
end Go.Wk
