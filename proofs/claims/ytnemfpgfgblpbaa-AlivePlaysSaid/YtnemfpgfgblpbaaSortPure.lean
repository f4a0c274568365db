/- Sorting by a comparison: the plain facts. -/
import Derived.Test.YtnemfpgfgblpbaaOwn2
set_option linter.unusedSimpArgs false
set_option linter.unusedVariables false
set_option linter.unusedSectionVars false
namespace Go.HL

/-- What a sort asks of a comparison. -/
structure Cmp3 {α : Type} (cf : α → α → Int) : Prop where
  asym : ∀ x y, cf x y < 0 → ¬ cf y x < 0
  nt : ∀ x y z, ¬ cf x y < 0 → ¬ cf y z < 0 → ¬ cf x z < 0
def Srt {α : Type} (cf : α → α → Int) (l : List α) : Prop := l.Pairwise fun x y => ¬ cf y x < 0

section
variable {α : Type} {cf : α → α → Int}
theorem srt_ins (O : Cmp3 cf) {L1 L2 : List α} {x : α} (hs : Srt cf (L1 ++ L2)) (h2 : ∀ y ∈ L2, cf x y < 0) (h1 : ∀ L y, L1 = L ++ [y] → ¬ cf x y < 0) : Srt cf (L1 ++ x :: L2) := by
  unfold Srt at *
  rw [List.pairwise_append] at hs ⊢
  obtain ⟨s1, s2, s3⟩ := hs
  refine ⟨s1, List.pairwise_cons.2 ⟨fun y hy => O.asym _ _ (h2 y hy), s2⟩, ?_⟩
  intro z hz y hy
  rcases List.mem_cons.1 hy with rfl | hy
  · rcases List.eq_nil_or_concat L1 with e | ⟨L, w, e⟩
    · subst e; simp at hz
    · rw [List.concat_eq_append] at e
      have hw := h1 L w e
      subst e
      rcases List.mem_append.1 hz with hz | hz
      · rw [List.pairwise_append] at s1
        exact O.nt _ _ _ hw (s1.2.2 z hz w (by simp))
      · simp at hz; subst hz; exact hw
  · exact s3 z hz y hy

theorem swap_list (A L R : List α) (x y : α) : ((A ++ (L ++ [y]) ++ x :: R).set (A.length + L.length + 1) y).set (A.length + L.length) x = A ++ L ++ x :: y :: R := by
  have e1 : A ++ (L ++ [y]) ++ x :: R = (A ++ L) ++ y :: x :: R := by simp
  rw [e1, show A.length + L.length = (A ++ L).length from by simp]
  rw [List.set_append_right _ _ (by omega), List.set_append_right _ _ (by omega)]
  simp
theorem get_mid (A R : List α) (x : α) : (A ++ x :: R)[A.length]? = some x := by simp

theorem get3 (A L R B : List α) (x : α) : (A ++ (L ++ x :: R) ++ B)[A.length + L.length]? = some x := by
  rw [show A ++ (L ++ x :: R) ++ B = (A ++ L) ++ x :: (R ++ B) from by simp, show A.length + L.length = (A ++ L).length from by simp]
  exact get_mid _ _ _
theorem get3' (A L R B : List α) (x y : α) : (A ++ ((L ++ [y]) ++ x :: R) ++ B)[A.length + L.length]? = some y := by
  have := get3 A L (x :: R) B y
  rwa [show L ++ y :: x :: R = (L ++ [y]) ++ x :: R from by simp] at this
theorem swap3 (A L R B : List α) (x y : α) : ((A ++ ((L ++ [y]) ++ x :: R) ++ B).set (A.length + L.length + 1) y).set (A.length + L.length) x = A ++ (L ++ x :: y :: R) ++ B := by
  have := swap_list A L (R ++ B) x y
  simpa using this
theorem split_at (M : List α) (n : Nat) (h : n < M.length) : ∃ L x R, M = L ++ x :: R ∧ L.length = n :=
  ⟨M.take n, M[n], M.drop (n + 1), by simp, by simp; omega⟩
theorem snoc_of {L : List α} (h : 0 < L.length) : ∃ L' y, L = L' ++ [y] := by
  rcases List.eq_nil_or_concat L with e | ⟨L', y, e⟩
  · subst e; simp at h
  · exact ⟨L', y, by simpa using e⟩

/-- Sorted lists of the same elements are one, where the comparison parts what is not one. -/
theorem srt_unique (htot : ∀ x y, ¬ cf x y < 0 → ¬ cf y x < 0 → x = y) : ∀ {l l' : List α}, l.Perm l' → Srt cf l → Srt cf l' → l = l'
  | [], l', hp, _, _ => by simpa using hp.symm
  | a :: l, l', hp, h1, h2 => by
    match l', hp, h2 with
    | [], hp, h2 => simp at hp
    | b :: l', hp, h2 =>
      unfold Srt at h1 h2
      rw [List.pairwise_cons] at h1 h2
      have hab : a = b := by
        have ha : a ∈ b :: l' := hp.mem_iff.1 (by simp)
        have hb : b ∈ a :: l := hp.mem_iff.2 (by simp)
        rcases List.mem_cons.1 ha with h | h
        · exact h
        · rcases List.mem_cons.1 hb with h' | h'
          · exact h'.symm
          · exact htot _ _ (h2.1 a h) (h1.1 b h')
      subst hab
      rw [srt_unique htot ((List.perm_cons a).1 hp) h1.2 h2.2]
end

/-- The order of a clock's keys: by their times, then by themselves. -/
def orI (a b : Int) : Int := if a = 0 then b else a
end Go.HL
