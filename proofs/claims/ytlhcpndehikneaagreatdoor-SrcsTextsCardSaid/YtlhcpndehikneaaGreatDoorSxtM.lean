/- Plain words: the law of sets' texts. -/
import Derived.Test.YtlhcpndehikneaaGreatDoorSxtL
set_option linter.unusedSimpArgs false
set_option linter.unusedVariables false
set_option linter.unusedSectionVars false
namespace Go.Wk
open Go.HL
variable [DM]
theorem livesX_ok {Q : Bool → Prop} (h : Q true) : law11_lives_W Q := by
  have hset : ASet [four 1, four 2] := by rw [← four_of]; exact ofL_set _
  refine fourP_ok (by decide) (fourP_ok (by decide) (fourP_ok (by decide) (ofP_ok (by decide) ?_)))
  rw [four_of]
  refine ⟨fun _ => ⟨by decide, fourP_ok (by decide) ⟨fun _ => fourP_ok (by decide) (hasP_ok hset (by decide) ⟨fun _ => fourP_ok (by decide) (hasP_ok hset (by decide) ⟨fun _ => ?_, fun c => ?_⟩), fun c => ?_⟩), fun c => ?_⟩⟩, fun c => ?_⟩
  · refine textTP_ok (by decide) ?_
    rw [four_txL]; dsimp only; rw [decide_eq_true rfl]; exact h
  · exact absurd c (by decide +kernel)
  · exact absurd c (by decide +kernel)
  · exact absurd rfl c
  · exact absurd (by decide) c
theorem srcsTexts_ok {l : List Ad} {s : Str} {Q : Bool → Prop} (h : Q true) : law11_SrcsTexts_W l s Q := by
  refine cutT_any (n := 80) fun r hr => addrsN_ok 8 (by omega) (ofR_ok (by rw [List.length_take]; omega) ?_)
  have ha := ofL_set (l.take 8)
  have hn : (ofL (l.take 8)).length ≤ 8 := by have := ofL_len (l.take 8); rw [List.length_take] at this; omega
  generalize ofL (l.take 8) = a at ha hn
  have ht : (txL a).length ≤ 809 := by have := txL_len (l := a); omega
  have rest : ∀ (c : List Ad) (f : Int), (f = 0 ∧ ASet c ∧ txL c = r ∧ c.length ≤ 81) ∨ (f = 2 ∧ c = []) → law11_SrcsTexts_j1 Q r c f false := by
    rintro c f (⟨rfl, hc, ec, nc⟩ | ⟨rfl, rfl⟩)
    · exact ⟨fun q => (by cases q), fun _ => ⟨fun q => absurd rfl q, fun _ => printTR_ok (by omega) ⟨fun _ => ofR_ok (by omega) (sameR_ok (by have := ofL_len c; omega) ⟨fun _ => livesX_ok h, fun q => absurd (ofL_id hc) (of_decide_eq_false q)⟩), fun q => absurd ec q⟩⟩⟩
    · exact ⟨fun q => (by cases q), fun _ => ⟨fun _ => ⟨fun _ => ⟨fun _ => livesX_ok h, fun q => absurd rfl q⟩, fun q => absurd rfl q⟩, fun q => absurd q (by decide)⟩⟩
  have tail : ∀ (c : List Ad) (f : Int), (f = 0 ∧ ASet c ∧ txL c = r ∧ c.length ≤ 81) ∨ (f = 2 ∧ c = []) → law08_Addrs_W a 8 (fun r_6 => srcs_Print_W r_6 (fun r_7 => ref11_Print_W a (fun r_8 => (¬ ((r_7 : Str) = r_8) → law11_SrcsTexts_j1 Q r c f true) ∧ ((r_7 : Str) = r_8 → ref11_Same_W a a (fun r_9 => ((!r_9) = true → law11_SrcsTexts_j1 Q r c f true) ∧ ((!r_9) = false → law11_SrcsTexts_j1 Q r c f (!decide ((0 : Int) = 0)))))))) := by
    intro c f hc
    refine addrsN_ok 8 (by omega) ?_
    rw [List.take_of_length_le hn]
    exact textTP_ok (by omega) (printTR_ok (by omega) ⟨fun q => absurd rfl q, fun _ => sameR_ok (by omega) ⟨fun q => (by simp at q), fun _ => rest c f hc⟩⟩)
  refine printTR_ok (by omega) (parseL_any (by omega) (fun x hx => ?_) (fun b hb _ eb ub => ?_) (fun q => absurd rfl (q a ha)))
  · by_cases q : a = []
    · subst q
      have := (split_mem _ _ x hx).1
      have e : (txL []).length = 1 := rfl
      omega
    · rw [txL_ne q, txJ_split q] at hx
      obtain ⟨y, _, rfl⟩ := List.mem_map.1 hx
      have := txt_len y; omega
  · obtain rfl : a = b := ub a ha rfl
    refine parseL_any (by omega) (fun x hx => by have := (split_mem _ _ x hx).1; omega) (fun c hc nc ec _ => tail c 0 (.inl ⟨rfl, hc, ec, by omega⟩)) (fun _ => tail [] 2 (.inr ⟨rfl, rfl⟩))
end Go.Wk
