/- Plain words: numbers in a list, put in their place. -/
import Derived.Test.YtjliljlmgepmpaaGreatDoorTreP1
set_option linter.unusedSimpArgs false
set_option linter.unusedVariables false
set_option linter.unusedSectionVars false
namespace Go.Wk
open Go.HL
variable [DM]
theorem has_ok {l : List Int} {n : Int} {Q : Bool → Prop} (hl : l.length ≤ 1000000) (h : Q (decide (n ∈ l))) : ref32_Has_W l n Q := by
  refine loop_up1 l.length (fun i => n ∉ l.take i) (by simp) fun K i hi hI hK => ?_
  unfold ref32_Has_l1
  refine ⟨fun c => ?_, fun c => ?_⟩
  · have hlt : i < l.length := by omega
    rw [gi_nat hlt]
    refine ⟨by omega, fun d => ?_, fun d => ⟨by unfold I64; omega, hK (i + 1) (by omega) hlt ?_⟩⟩
    · rwa [decide_eq_true (by rw [← d]; exact List.getElem_mem hlt)] at h
    · rw [List.take_succ_eq_append_getElem hlt, List.mem_append, List.mem_singleton]
      rintro (q | q)
      · exact hI q
      · exact d q.symm
  · have : i = l.length := by omega
    subst this; rw [List.take_length] at hI
    rwa [decide_eq_false hI] at h
def insI : List Int → Int → List Int
  | [], n => [n]
  | a :: l, n => if a < n then a :: insI l n else n :: a :: l
theorem insI_eq (n : Int) : ∀ (l : List Int) (i : Nat), i ≤ l.length → (∀ x ∈ l.take i, x < n) → (∀ h : i < l.length, ¬ l[i] < n) → l.take i ++ [n] ++ l.drop i = insI l n
  | [], i, hi, _, _ => by simp at hi; subst hi; rfl
  | a :: l, 0, _, _, h => by
    have := h (by simp)
    simp only [List.getElem_cons_zero] at this
    simp [insI, this]
  | a :: l, i + 1, hi, h1, h2 => by
    have ha : a < n := h1 a (by simp)
    have := insI_eq n l i (by simpa using hi) (fun x hx => h1 x (by simp [hx])) (fun h => by have := h2 (by simpa using h); simpa using this)
    simp [insI, ha, ← this]
theorem mem_insI {l : List Int} {n x : Int} : x ∈ insI l n ↔ x = n ∨ x ∈ l := by
  induction l with
  | nil => simp [insI]
  | cons a l ih =>
    unfold insI; split
    · rw [List.mem_cons, ih, List.mem_cons]
      constructor
      · rintro (q | q | q)
        · exact .inr (.inl q)
        · exact .inl q
        · exact .inr (.inr q)
      · rintro (q | q | q)
        · exact .inr (.inl q)
        · exact .inl q
        · exact .inr (.inr q)
    · rw [List.mem_cons]
theorem len_insI (l : List Int) (n : Int) : (insI l n).length = l.length + 1 := by
  induction l with
  | nil => rfl
  | cons a l ih => unfold insI; split <;> simp [ih]
theorem rise_insI {l : List Int} {n : Int} (h : l.Pairwise (· < ·)) (hn : n ∉ l) : (insI l n).Pairwise (· < ·) := by
  induction l with
  | nil => simp [insI]
  | cons a l ih =>
    rw [List.pairwise_cons] at h
    rw [List.mem_cons] at hn
    unfold insI; split
    · rename_i c
      rw [List.pairwise_cons]
      refine ⟨fun x hx => ?_, ih h.2 fun q => hn (.inr q)⟩
      rcases mem_insI.1 hx with rfl | hx
      · exact c
      · exact h.1 x hx
    · rename_i c
      have hna : n < a := by
        have : n ≠ a := fun e => hn (.inl e)
        omega
      rw [List.pairwise_cons]
      refine ⟨fun x hx => ?_, List.pairwise_cons.2 h⟩
      rcases List.mem_cons.1 hx with rfl | hx
      · exact hna
      · have := h.1 x hx; omega
def addI (l : List Int) (n : Int) : List Int := if n ∈ l then l else insI l n
theorem mem_addI {l : List Int} {n x : Int} : x ∈ addI l n ↔ x = n ∨ x ∈ l := by
  unfold addI; split
  · rename_i h
    constructor
    · exact .inr
    · rintro (rfl | q)
      · exact h
      · exact q
  · exact mem_insI
theorem len_addI (l : List Int) (n : Int) : (addI l n).length ≤ l.length + 1 := by
  unfold addI; split
  · omega
  · rw [len_insI]; omega
theorem rise_addI {l : List Int} {n : Int} (h : l.Pairwise (· < ·)) : (addI l n).Pairwise (· < ·) := by
  unfold addI; split
  · exact h
  · rename_i q; exact rise_insI h q
theorem add_ok {l : List Int} {n : Int} {Q : List Int → Prop} (hl : l.length ≤ 1000000) (h : Q (addI l n)) : ref32_Add_W l n Q := by
  refine has_ok hl ⟨fun c => ?_, fun c => ?_⟩
  · have : n ∈ l := by simpa using c
    unfold addI at h; rwa [if_pos this] at h
  · have hn : n ∉ l := by simpa using c
    unfold addI at h; rw [if_neg hn] at h
    have j1 : ∀ i : Nat, i ≤ l.length → (∀ x ∈ l.take i, x < n) → (∀ h : i < l.length, ¬ l[i] < n) → ref32_Add_j1 l n Q (i : Int) := by
      intro i hi h1 h2
      have e : ([] ++ cut l 0 (i : Int)) ++ [n] ++ cut l (i : Int) (l.length : Int) = insI l n := by
        rw [List.nil_append, cut0n, cutn]; exact insI_eq n l i hi h1 h2
      unfold ref32_Add_j1
      rw [e]
      refine ⟨by omega, by omega, ?_, ?_, by omega, ?_, h⟩
      · rw [cut0n]; simp; omega
      · rw [cut0n]; simp; omega
      · rw [cut0n, cutn]; simp; omega
    refine loop_up1 l.length (fun i => ∀ x ∈ l.take i, x < n) (by simp) fun K i hi hI hK => ?_
    unfold ref32_Add_l1
    refine ⟨fun c => ?_, fun c => j1 i hi hI fun h => by omega⟩
    have hlt : i < l.length := by omega
    rw [gi_nat hlt]
    refine ⟨by omega, fun d => ⟨by unfold I64; omega, hK (i + 1) (by omega) hlt fun x hx => ?_⟩, fun d => j1 i hi hI fun _ => d⟩
    rw [List.take_succ_eq_append_getElem hlt, List.mem_append, List.mem_singleton] at hx
    rcases hx with hx | rfl
    · exact hI x hx
    · exact d
theorem rise_nodup {l : List Int} (h : l.Pairwise (· < ·)) : l.Nodup := h.imp fun {a b} q => by omega
theorem rise_eq {l m : List Int} (hl : l.Pairwise (· < ·)) (hm : m.Pairwise (· < ·)) (h : ∀ x, x ∈ l ↔ x ∈ m) : l = m :=
  rise_ext (lt := fun a b : Int => a < b) (fun a => by omega) (fun a b c => by omega) hl hm h
end Go.Wk
