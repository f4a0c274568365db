/- The plain twin of Go's pdqsort (the library's), step by step, as the walks want it. -/
import Derived.Test.YtnemfpgfgblpbaaSortPure
import Derived.Sort.AssemblyPlain
import Derived.Sort.LotD5
set_option linter.unusedSimpArgs false
set_option linter.unusedVariables false
set_option linter.unusedSectionVars false
namespace Go.HL
open Go.Sort
variable {α : Type} [Inhabited α] {lt : α → α → Bool} {d : Array α}

theorem getE {i : Nat} (h : i < d.toList.length) : d.toList[i]? = some d[i]! := by
  have h' : i < d.size := by simpa using h
  rw [List.getElem?_eq_getElem h, getElem!_pos d i h']; simp
theorem swpL (d : Array α) (i j : Nat) : (d.toList.set i d[j]!).set j d[i]! = (swp d i j).toList := by simp [swp]
theorem swp_len (d : Array α) (i j : Nat) : (swp d i j).toList.length = d.toList.length := by simp [swp]

theorem rev_go {i j : Nat} (h : i < j) : reverseLoop (i + 1) (j - 1) (swp d i j) = reverseLoop i j d := by rw [reverseLoop.eq_def i j d, if_pos h]
theorem rev_stop {i j : Nat} (h : ¬ i < j) : reverseLoop i j d = d := by rw [reverseLoop.eq_def, if_neg h]

section sift
variable {hi first root : Nat}
theorem sift_stop (h : 2 * root + 1 ≥ hi) : siftDown lt hi first root d = d := by rw [siftDown.eq_def, dif_pos h]
theorem sift_r_stop (h : ¬ 2 * root + 1 ≥ hi) (h2 : 2 * root + 1 + 1 < hi) {x y r : Nat} (hx : x = first + (2 * root + 1)) (hy : y = first + (2 * root + 2)) (hr : r = first + root) (h3 : lt d[x]! d[y]! = true) (h4 : lt d[r]! d[y]! = false) : siftDown lt hi first root d = d := by
  subst hx; subst hy; subst hr
  rw [siftDown.eq_def, dif_neg h, if_pos (by simp [h2]; exact h3), if_pos (by simp [h4])]
theorem sift_r_go (h : ¬ 2 * root + 1 ≥ hi) (h2 : 2 * root + 1 + 1 < hi) {x y r : Nat} (hx : x = first + (2 * root + 1)) (hy : y = first + (2 * root + 2)) (hr : r = first + root) (h3 : lt d[x]! d[y]! = true) (h4 : lt d[r]! d[y]! = true) : siftDown lt hi first (2 * root + 2) (swp d r y) = siftDown lt hi first root d := by
  subst hx; subst hy; subst hr
  rw [siftDown.eq_def lt hi first root, dif_neg h, if_pos (by simp [h2]; exact h3), if_neg (by simp [h4]), dif_pos (by omega)]
theorem sift_l_stop (h : ¬ 2 * root + 1 ≥ hi) {x y r : Nat} (hx : x = first + (2 * root + 1)) (hy : y = first + (2 * root + 2)) (hr : r = first + root) (h3 : ¬ (2 * root + 1 + 1 < hi ∧ lt d[x]! d[y]! = true)) (h4 : lt d[r]! d[x]! = false) : siftDown lt hi first root d = d := by
  subst hx; subst hy; subst hr
  rw [siftDown.eq_def, dif_neg h, if_neg (by rw [show first + (2 * root + 1) + 1 = first + (2 * root + 2) from by omega]; simpa using h3), if_pos (by simp [h4])]
theorem sift_l_go (h : ¬ 2 * root + 1 ≥ hi) {x y r : Nat} (hx : x = first + (2 * root + 1)) (hy : y = first + (2 * root + 2)) (hr : r = first + root) (h3 : ¬ (2 * root + 1 + 1 < hi ∧ lt d[x]! d[y]! = true)) (h4 : lt d[r]! d[x]! = true) : siftDown lt hi first (2 * root + 1) (swp d r x) = siftDown lt hi first root d := by
  subst hx; subst hy; subst hr
  rw [siftDown.eq_def lt hi first root, dif_neg h, if_neg (by rw [show first + (2 * root + 1) + 1 = first + (2 * root + 2) from by omega]; simpa using h3), if_neg (by simp [h4])]
end sift

theorem siftDown_size : ∀ (k hi first root : Nat) (d : Array α), hi - root ≤ k → (siftDown lt hi first root d).size = d.size
  | 0, hi, first, root, d, h => by rw [siftDown.eq_def, dif_pos (by omega)]
  | k + 1, hi, first, root, d, h => by
    rw [siftDown.eq_def]
    split
    · rfl
    · split
      · split
        · rfl
        · split
          · rw [siftDown_size k _ _ _ _ (by omega)]; simp [swp]
          · rfl
      · split
        · rfl
        · rw [siftDown_size k _ _ _ _ (by omega)]; simp [swp]
theorem sift_len (hi first root : Nat) (d : Array α) : (siftDown lt hi first root d).toList.length = d.toList.length := by simpa using siftDown_size (lt := lt) (hi - root) hi first root d (Nat.le_refl _)

/-- The order, as a test. -/
def ltOf' (cf : α → α → Int) (x y : α) : Bool := decide (cf x y < 0)
theorem swo_of {cf : α → α → Int} (h : Cmp3 cf) : SWO (ltOf' cf) where
  irrefl x := by unfold ltOf'; rw [decide_eq_false_iff_not]; intro h'; exact h.asym _ _ h' h'
  trans x y z := by
    unfold ltOf'; simp only [decide_eq_true_eq]
    intro h1 h2
    rcases Int.lt_or_le (cf x z) 0 with h3 | h3
    · exact h3
    · exact absurd h1 (h.nt x z y (by omega) (fun h' => h.asym _ _ h2 h'))
  ntrans x y z := by
    unfold ltOf'; simp only [decide_eq_false_iff_not]
    exact h.nt x y z
theorem sorted_srt {cf : α → α → Int} {d : Array α} (h : SortedIn (ltOf' cf) 0 d.size d) : Srt cf d.toList := by
  unfold Srt
  rw [List.pairwise_iff_getElem]
  intro i j hi hj hij
  have := h i j (Nat.zero_le _) hij (by simpa using hj)
  unfold ltOf' at this
  rw [decide_eq_false_iff_not, getElem!_pos d j (by simpa using hj), getElem!_pos d i (by simpa using hi)] at this
  simpa using this
theorem permIn_perm {d d' : Array α} (h : PermIn 0 d.size d d') : d'.toList.Perm d.toList := by
  have h1 := h.2.2
  rw [← h.1] at h1
  have e1 : d'.extract 0 d'.size = d' := by simp
  rw [e1, h.1] at h1
  simpa using h1
end Go.HL
