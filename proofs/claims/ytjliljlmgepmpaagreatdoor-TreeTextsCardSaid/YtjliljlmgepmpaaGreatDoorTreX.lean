/- TreeTexts: a tree's text, written and read. -/
import Derived.Test.YtjliljlmgepmpaaGreatDoorTreV
import Derived.Test.YtjliljlmgepmpaaGreatDoorTreR
set_option linter.unusedSimpArgs false
set_option linter.unusedVariables false
set_option linter.unusedSectionVars false
namespace Go.Wk
open Go.HL
variable [DM]
theorem few_ok {l : List Br} {Q : List Br → Prop} (h : Q (l.take 12)) : law32_few_W l Q := by
  refine loop_up (min 12 l.length) (fun i s => s = l.take i) (by simp) fun K i s hi hs hK => ?_
  show law32_few_l1 _ _ _ s (i : Int)
  unfold law32_few_l1 law32_few_j1
  have fin : i = min 12 l.length → Q s := fun e => by
    rw [hs, e]
    by_cases c : l.length ≤ 12
    · rw [List.take_of_length_le (by omega)]; rwa [List.take_of_length_le c] at h
    · rwa [show min 12 l.length = 12 by omega]
  refine ⟨fun c => ⟨fun d => ?_, fun d => fin ?_⟩, fun c => ⟨fun q => by simp at q, fun _ => fin (by omega)⟩⟩
  · have d' := of_decide_eq_true d
    have hlt : i < l.length := by omega
    have hsl := congrArg List.length hs
    rw [List.length_take] at hsl
    rw [gi_nat hlt]
    refine ⟨by omega, by simp only [List.length_cons, List.length_nil]; omega, by unfold I64; omega, hK (i + 1) _ (by omega) (by omega) ?_⟩
    rw [List.take_succ_eq_append_getElem hlt, hs]
  · have d' := of_decide_eq_false d
    omega
theorem few12 {L : List Br} (h : L.length ≤ 12) : L.take 12 = L := List.take_of_length_le h
theorem rprint_ok {r : Int} {L : List Br} {Q : Str → Prop} (hr : I64 r) (hL : Sm L) (hl : L.length ≤ 1000) (h : Q (txt r L)) : ref32_Print_W r L Q := by
  refine rnumI_ok hr ?_
  refine loop_up L.length (fun i s => s = txt r (L.take i)) (by simp [txt]) fun K i s hi hs hK => ?_
  show ref32_Print_l1 _ _ _ s (i : Int)
  unfold ref32_Print_l1
  refine ⟨fun c => ?_, fun c => ?_⟩
  · have hlt : i < L.length := by omega
    rw [gi_nat hlt]
    obtain ⟨e1, e2⟩ := hL L[i] (List.getElem_mem hlt)
    have l1 := itoa_len e1; have l2 := itoa_len e2
    have l3 := txt_len hr (L := L.take i) fun e he => hL e (List.take_subset _ _ he)
    rw [List.length_take] at l3
    have l4 : min i L.length * 44 ≤ 1000 * 44 := Nat.mul_le_mul_right _ (by omega)
    rw [← hs] at l3
    refine ⟨by simp only [List.length_cons, List.length_nil]; omega, by omega, rnumI_ok e1 ⟨?_, ?_, rnumI_ok e2 ⟨?_, by unfold I64; omega, hK (i + 1) _ (by omega) hlt ?_⟩⟩⟩
    · simp only [List.length_append, List.length_cons, List.length_nil]; omega
    · simp only [List.length_append, List.length_cons, List.length_nil]; omega
    · simp only [List.length_append, List.length_cons, List.length_nil]; omega
    · rw [List.take_succ_eq_append_getElem hlt, txt_snoc, hs]; simp only [List.append_assoc]
  · have : i = L.length := by omega
    subst this
    rw [List.take_length] at hs; rw [hs]; exact h
theorem cut60_ok {s : Str} {Q : Str → Prop} (h : ∀ t : Str, t.length ≤ 60 → Q t) : law01_Cut_W s 60 Q := by
  refine ⟨fun c => ⟨by omega, h _ ?_⟩, fun c => h _ (by omega)⟩
  unfold cut
  simp only [List.length_take, List.length_drop]
  omega
theorem treeTexts_ok {r : Int} {l : List Br} {s : Str} {Q : Bool → Prop} (hr : I64 r) (hS : Sm l) (h : Q true) : law32_TreeTexts_W r l s Q := by
  refine few_ok ?_
  generalize hL : l.take 12 = L
  have hl : L.length ≤ 12 := by rw [← hL, List.length_take]; omega
  have hLS : Sm L := fun e he => hS e (List.take_subset 12 l (hL ▸ he))
  have htl := txt_len hr hLS
  have j1 : law32_TreeTexts_j1 Q r L := by
    refine refGood_ok (by omega) fun b hb => ⟨fun _ => lives_ok h, fun c => ?_⟩
    have gd : Gd r L := hb.1 (by rw [Bool.not_eq_false'] at c; exact c)
    refine rprint_ok hr hLS (by omega) (parse_ok (by omega) (fun r' L' g' hr' hL' es hu => ?_) fun hno => absurd rfl (hno r L gd hr hLS))
    obtain ⟨rfl, rfl⟩ := hu r L hr hLS rfl
    refine few_ok ?_
    rw [few12 hl]
    exact text_ok hr hLS (by omega) (rprint_ok hr hLS (by omega) ⟨fun _ => refSame_ok (by omega) ⟨fun _ => ⟨fun _ => lives_ok h, fun c => absurd rfl c⟩, fun c => by simp at c⟩, fun c => absurd rfl c⟩)
  refine cut60_ok fun t ht => parse_ok (by omega) (fun r' L' g' hr' hL' es hu => ⟨fun c => absurd rfl c, fun _ => ?_⟩) fun hno => ⟨fun _ => ⟨fun c => absurd rfl c, fun _ => ?_⟩, fun c => absurd c (by decide)⟩
  · have := g'.few
    refine refGood_ok (by omega) fun b hb => ⟨fun c => ?_, fun _ => rprint_ok hr' hL' (by omega) ⟨fun c => absurd es.symm c, fun _ => j1⟩⟩
    rw [hb.2 g'] at c; cases c
  · exact refSame_ok (by simp) ⟨fun c => by simp at c, fun _ => j1⟩
end Go.Wk
