/- TreeMakes: which branches are a tree. -/
import Derived.Test.YtjliljlmgepmpaaGreatDoorTreP5
set_option linter.unusedSimpArgs false
set_option linter.unusedVariables false
set_option linter.unusedSectionVars false
namespace Go.Wk
open Go.HL
variable [DM]
theorem few_ok {l : List Br} {Q : List Br → Prop} (h : Q (l.take 12)) : law32_few_W l Q := by
  refine loop_up (min 12 l.length) (fun i s => s = l.take i) (by simp) fun K i s hi hs hK => ?_
  show law32_few_l1 _ _ _ s (i : Int)
  unfold law32_few_l1 law32_few_j1
  have fin : i = min 12 l.length → Q s := fun e => by
    rw [hs, e]
    by_cases c : l.length ≤ 12
    · rw [List.take_of_length_le (by omega)]; rwa [List.take_of_length_le c] at h
    · rwa [show min 12 l.length = 12 by omega]
  refine ⟨fun c => ⟨fun d => ?_, fun d => fin ?_⟩, fun c => ⟨fun q => by simp at q, fun _ => fin (by omega)⟩⟩
  · have d' := of_decide_eq_true d
    have hlt : i < l.length := by omega
    have hsl := congrArg List.length hs
    rw [List.length_take] at hsl
    rw [gi_nat hlt]
    refine ⟨by omega, by simp only [List.length_cons, List.length_nil]; omega, by unfold I64; omega, hK (i + 1) _ (by omega) (by omega) ?_⟩
    rw [List.take_succ_eq_append_getElem hlt, hs]
  · have d' := of_decide_eq_false d
    omega
theorem nodesT_ok {r : Int} {L : List Br} {Q : List Int → Prop} (hl : L.length ≤ 100000) (h : ∀ l, l.Pairwise (· < ·) → IsR L r l → Q l) : tree_Nodes_W r L Q :=
  walk_ok hl fun out ho => by
    have := ho.toIsR.len_le
    exact rising_ok (by omega) ho.nd fun m hm hmem => h m hm ⟨rise_nodup hm, fun x => (hmem x).trans (ho.mem x)⟩
theorem few12 {L : List Br} (h : L.length ≤ 12) : L.take 12 = L := List.take_of_length_le h
theorem treeMakes_ok {r : Int} {l : List Br} {Q : Bool → Prop} (h : Q true) : law32_TreeMakes_W r l Q := by
  refine few_ok ?_
  generalize hL : l.take 12 = L
  have hl : L.length ≤ 12 := by rw [← hL, List.length_take]; omega
  refine few_ok ?_
  rw [few12 hl]
  refine of_ok (by omega) fun L' hp hs => ?_
  have hlp := hp.length_eq
  have key : ∀ x0 x1 e, (Gd r L' → x0 = r ∧ x1 = L' ∧ e = 0) → (¬ Gd r L' → x0 = 0 ∧ x1 = [] ∧ e = 2) → law32_TreeMakes_j1 Q r L x0 x1 e := by
    intro x0 x1 e h1 h2
    refine sorted_ok (by omega) fun S hSp hSs => ?_
    have hSL : S = L' := sorted_uniq (hSp.trans hp.symm) hSs hs
    subst hSL
    refine few_ok ?_
    rw [few12 hl]
    refine good_ok (by omega) fun b hb => refGood_ok (by omega) fun b' hb' => ?_
    have hbb : b = b' := by rw [Bool.eq_iff_iff, hb, hb']
    subst hbb
    refine ⟨fun c => by simp at c, fun _ => refGood_ok (by omega) fun g hg => ⟨fun c => ?_, fun c => ?_⟩⟩
    · have ng : ¬ Gd r S := fun q => by rw [hg.2 q] at c; cases c
      obtain ⟨rfl, rfl, rfl⟩ := h2 ng
      exact sameT_ok (by simp) ⟨fun _ => ⟨fun _ => lives_ok h, fun c => absurd rfl c⟩, fun c => by simp at c⟩
    · have gd : Gd r S := hg.1 (by rw [Bool.not_eq_false'] at c; exact c)
      obtain ⟨rfl, rfl, rfl⟩ := h1 gd
      refine refSame_ok (by omega) ⟨fun _ => ⟨fun _ => goodG_ok (by omega) gd ⟨fun _ => ⟨by unfold I64; omega, nodesT_ok (by omega) fun m _ hm => ⟨fun _ => lives_ok h, fun c => ?_⟩⟩, fun c => by cases c⟩, fun c => absurd rfl c⟩, fun c => by simp at c⟩
      have := gd.toGd0.len hm
      omega
  exact ⟨fun g => key _ _ _ (fun _ => ⟨rfl, rfl, rfl⟩) (fun n => absurd g n), fun n => key _ _ _ (fun g => absurd g n) (fun _ => ⟨rfl, rfl, rfl⟩)⟩
end Go.Wk
