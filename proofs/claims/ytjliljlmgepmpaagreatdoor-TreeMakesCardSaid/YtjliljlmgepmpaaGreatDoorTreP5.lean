/- Plain words for one law: what it needs. -/
import Derived.Test.YtjliljlmgepmpaaGreatDoorTreV
import Derived.Test.YtjliljlmgepmpaaGreatDoorTreM1
set_option linter.unusedSimpArgs false
set_option linter.unusedVariables false
set_option linter.unusedSectionVars false
namespace Go.Wk
open Go.HL
variable [DM]
theorem sorted_ok {l : List Br} {Q : List Br → Prop} (hl : l.length ≤ 100000) (h : ∀ L, L.Perm l → (L.Pairwise fun x y => ¬ blt y x) → Q L) : ref32_Sorted_W l Q := by
  refine loop_up l.length (fun i s => s.Perm (l.take i) ∧ s.Pairwise fun x y => ¬ blt y x) (by simp) fun K i out hi ⟨hp, hs⟩ hK => ?_
  have hol : out.length = i := by rw [hp.length_eq]; simp; omega
  show ref32_Sorted_l1 _ _ _ out (i : Int)
  unfold ref32_Sorted_l1
  refine ⟨fun c => ?_, fun c => ?_⟩
  · have hlt : i < l.length := by omega
    have j1 : ∀ n : Nat, n ≤ out.length → (∀ y ∈ out.take n, blt y l[i]) → (∀ h : n < out.length, ¬ blt out[n] l[i]) → ref32_Sorted_j1 l out (i : Int) (fun out_1 i_1 => K (out_1, i_1)) (n : Int) := by
      intro n hn h1 h2
      unfold ref32_Sorted_j1
      have e : ([] ++ cut out 0 (n : Int)) ++ [gi l (i : Int)] ++ cut out (n : Int) (out.length : Int) = out.take n ++ [l[i]] ++ out.drop n := by
        rw [List.nil_append, cut0n, cutn, gi_nat hlt]
      rw [e]
      refine ⟨by omega, by omega, by omega, ?_, ?_, by omega, ?_, by unfold I64; omega, hK (i + 1) _ (by omega) hlt ⟨?_, ?_⟩⟩
      · rw [cut0n]; simp; omega
      · rw [cut0n]; simp; omega
      · rw [cut0n, cutn]; simp; omega
      · rw [List.take_succ_eq_append_getElem hlt]
        refine (List.Perm.trans ?_ (hp.append_right [l[i]]))
        rw [List.append_assoc]
        refine List.Perm.trans (List.Perm.append_left _ List.perm_append_comm) ?_
        rw [← List.append_assoc, List.take_append_drop]
      · rw [List.append_assoc, List.pairwise_append]
        have hs' := hs
        rw [← List.take_append_drop n out, List.pairwise_append] at hs'
        refine ⟨hs'.1, ?_, fun a ha b hb => ?_⟩
        · rw [List.singleton_append, List.pairwise_cons]
          refine ⟨fun b hb => ?_, hs'.2.1⟩
          have hn2 : n < out.length := by
            rcases Nat.lt_or_ge n out.length with q | q
            · exact q
            · rw [List.drop_of_length_le q] at hb; cases hb
          have h3 := h2 hn2
          rw [List.drop_eq_getElem_cons hn2] at hb hs'
          rcases List.mem_cons.1 hb with rfl | hb
          · exact h3
          · have h4 := (List.pairwise_cons.1 hs'.2.1).1 b hb
            unfold blt at *; omega
        · rw [List.singleton_append] at hb
          rcases List.mem_cons.1 hb with rfl | hb
          · intro q; exact blt_irr _ (blt_tr _ _ _ q (h1 a ha))
          · exact hs'.2.2 a ha b hb
    refine loop_up1 out.length (fun n => ∀ y ∈ out.take n, blt y l[i]) (by simp) fun K2 n hn hI hK2 => ?_
    unfold ref32_Sorted_l2
    refine ⟨fun c2 => ?_, fun c2 => j1 n hn hI fun q => by omega⟩
    have hn2 : n < out.length := by omega
    rw [gi_nat hn2, gi_nat hlt]
    refine ⟨by omega, by omega, less_ok ⟨fun q => ⟨by unfold I64; omega, hK2 (n + 1) (by omega) hn2 fun y hy => ?_⟩, fun q => j1 n hn hI fun _ => by simpa using q⟩⟩
    rw [List.take_succ_eq_append_getElem hn2] at hy
    rcases List.mem_append.1 hy with hy | hy
    · exact hI y hy
    · rw [List.mem_singleton] at hy; subst hy; simpa using q
  · have : i = l.length := by omega
    subst this; rw [List.take_length] at hp; exact h out hp hs
/-! ### Lists that rise -/
end Go.Wk
