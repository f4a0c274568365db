/- Plain words: what an address's text holds; a set's text. -/
import Derived.Test.YtlhcpndehikneaaGreatDoorSxmQ
set_option linter.unusedSimpArgs false
set_option linter.unusedVariables false
set_option linter.unusedSectionVars false
namespace Go.Wk
open Go.HL
variable [DM]
theorem dig_nc : ∀ k < 16, dig k ≠ 44 ∧ dig k ≠ 45 ∧ dig k ≠ 32 := by decide
theorem numL_nc {b : Nat} (hb : 2 ≤ b ∧ b ≤ 16) (n : Nat) : ∀ c ∈ numL b n, c ≠ 44 ∧ c ≠ 45 ∧ c ≠ 32 := by
  intro c h
  obtain ⟨k, hk, rfl⟩ := numL_mem hb.1 n _ h
  exact dig_nc k (by omega)
theorem txt_nc (a : Ad) : ∀ c ∈ txt a, c ≠ 44 ∧ c ≠ 45 ∧ c ≠ 32 := by
  have w : ∀ i j, ∀ c ∈ joinS (wL a i j) [58], c ≠ 44 ∧ c ≠ 45 ∧ c ≠ 32 := by
    intro i j c h
    rcases joinS_mem h with h | ⟨x, hx, h⟩
    · simp at h; subst h; decide
    · obtain ⟨k, _, rfl⟩ := List.mem_map.1 hx
      exact numL_nc (by decide) _ c h
  intro c h
  unfold txt at h
  split at h
  · split at h
    · exact w _ _ c h
    · rcases List.mem_append.1 h with h | h
      · rcases List.mem_append.1 h with h | h
        · exact w _ _ c h
        · simp at h; subst h; decide
      · exact w _ _ c h
  · rcases joinS_mem h with h | ⟨x, hx, h⟩
    · simp at h; subst h; decide
    · obtain ⟨k, _, rfl⟩ := List.mem_map.1 hx
      exact numL_nc (by decide) _ c h
theorem txt_ne (a : Ad) : txt a ≠ [] := by
  unfold txt
  split
  · split
    · exact joinS_ne (by intro e; have := congrArg List.length e; rw [wL_len] at this; simp at this) fun x hx => (wL_good a 0 8 x hx).1
    · simp
  · exact joinS_ne (by intro e; have := congrArg List.length e; rw [oL_len] at this; simp at this) fun x hx => (oL_good a 4 x hx).1
/-- A set's text. -/
def txL (l : List Ad) : Str := if l = [] then [45] else joinS (l.map txt) [44]
theorem txL_ne {l : List Ad} (h : l ≠ []) : txL l = joinS (l.map txt) [44] := by unfold txL; rw [if_neg h]
theorem txJ_no {l : List Ad} (h : l ≠ []) : joinS (l.map txt) [44] ≠ [45] := by
  intro e
  have q : (45 : UInt8) ∈ joinS (l.map txt) [44] := by rw [e]; simp
  rcases joinS_mem q with q | ⟨x, hx, q⟩
  · simp at q
  · obtain ⟨a, _, rfl⟩ := List.mem_map.1 hx
    exact (txt_nc a _ q).2.1 rfl
theorem txJ_split {l : List Ad} (h : l ≠ []) : splitS (joinS (l.map txt) [44]) [44] = l.map txt := by
  refine split_join (by simpa using h) fun x hx => ?_
  obtain ⟨a, _, rfl⟩ := List.mem_map.1 hx
  exact fun q => (txt_nc a _ q).1 rfl
theorem txL_len {l : List Ad} : (txL l).length ≤ l.length * 101 + 1 := by
  unfold txL
  split
  · simp
  · have := joinS_len (c := 44) (m := 100) (l := l.map txt) (by intro x hx; obtain ⟨a, _, rfl⟩ := List.mem_map.1 hx; exact txt_len a)
    rw [List.length_map] at this; omega
theorem txL_inj_split {l : List Ad} {s : Str} (h : l.map txt = splitS s [44]) (hl : l ≠ []) : joinS (l.map txt) [44] = s := by
  rw [h, join_split]
theorem txL_no {l : List Ad} : (32 : UInt8) ∉ txL l := by
  unfold txL
  split
  · simp
  · intro q
    rcases joinS_mem q with q | ⟨x, hx, q⟩
    · simp at q
    · obtain ⟨a, _, rfl⟩ := List.mem_map.1 hx
      exact (txt_nc a _ q).2.2 rfl
end Go.Wk
