/- TreeTells: what is told of a good tree. -/
import Derived.Test.YtjliljlmgepmpaaGreatDoorTreP6
set_option linter.unusedSimpArgs false
set_option linter.unusedVariables false
set_option linter.unusedSectionVars false
namespace Go.Wk
open Go.HL
variable [DM]
theorem few_ok {l : List Br} {Q : List Br → Prop} (h : Q (l.take 12)) : law32_few_W l Q := by
  refine loop_up (min 12 l.length) (fun i s => s = l.take i) (by simp) fun K i s hi hs hK => ?_
  show law32_few_l1 _ _ _ s (i : Int)
  unfold law32_few_l1 law32_few_j1
  have fin : i = min 12 l.length → Q s := fun e => by
    rw [hs, e]
    by_cases c : l.length ≤ 12
    · rw [List.take_of_length_le (by omega)]; rwa [List.take_of_length_le c] at h
    · rwa [show min 12 l.length = 12 by omega]
  refine ⟨fun c => ⟨fun d => ?_, fun d => fin ?_⟩, fun c => ⟨fun q => by simp at q, fun _ => fin (by omega)⟩⟩
  · have d' := of_decide_eq_true d
    have hlt : i < l.length := by omega
    have hsl := congrArg List.length hs
    rw [List.length_take] at hsl
    rw [gi_nat hlt]
    refine ⟨by omega, by simp only [List.length_cons, List.length_nil]; omega, by unfold I64; omega, hK (i + 1) _ (by omega) (by omega) ?_⟩
    rw [List.take_succ_eq_append_getElem hlt, hs]
  · have d' := of_decide_eq_false d
    omega
theorem nodesT_ok {r : Int} {L : List Br} {Q : List Int → Prop} (hl : L.length ≤ 100000) (h : ∀ l, l.Pairwise (· < ·) → IsR L r l → Q l) : tree_Nodes_W r L Q :=
  walk_ok hl fun out ho => by
    have := ho.toIsR.len_le
    exact rising_ok (by omega) ho.nd fun m hm hmem => h m hm ⟨rise_nodup hm, fun x => (hmem x).trans (ho.mem x)⟩
theorem few12 {L : List Br} (h : L.length ≤ 12) : L.take 12 = L := List.take_of_length_le h
theorem refParent_ok {r n : Int} {L : List Br} {Q : Int → Bool → Prop} (hl : L.length ≤ 100000) (h0 : n ∉ L.map (·.2) → Q 0 false) (h1 : ∀ x, (x, n) ∈ L → Q x true) : ref32_Parent_W r L n Q := by
  refine loop_up1 L.length (fun i => ∀ e ∈ L.take i, e.2 ≠ n) (by simp) fun K i hi hI hK => ?_
  unfold ref32_Parent_l1
  refine ⟨fun c => ⟨by omega, ?_⟩, fun c => h0 fun q => ?_⟩
  · have hlt : i < L.length := by omega
    rw [gi_nat hlt]
    refine ⟨fun e => h1 _ (by rw [show (L[i].1, n) = L[i] by rw [← e]]; exact List.getElem_mem hlt), fun e => ⟨by unfold I64; omega, hK (i + 1) (by omega) (by omega) fun x hx => ?_⟩⟩
    rw [List.take_succ_eq_append_getElem hlt] at hx
    rcases List.mem_append.1 hx with hx | hx
    · exact hI x hx
    · rw [List.mem_singleton] at hx; subst hx; exact e
  · rw [List.take_of_length_le (by omega)] at hI
    obtain ⟨e, he, q⟩ := List.mem_map.1 q
    exact hI e he q
theorem refPath_ok {r : Int} {L : List Br} (hl : L.length ≤ 100000) (g : Gd0 r L) {n : Int} {p : List Int} (hp : Pth L r n p) : ∃ fu, ∀ Q : List Int → Prop, Q p → ref32_Path_Wn fu r L n Q := by
  induction hp with
  | root => exact ⟨1, fun Q h => ⟨fun _ => h, fun c => absurd rfl c⟩⟩
  | @step x y p hp hxy ih =>
    obtain ⟨fu, hfu⟩ := ih
    have hlen := hp.len g
    refine ⟨fu + 1, fun Q h => ⟨fun c => absurd c (g.root _ hxy), fun _ => refParent_ok hl (fun hno => absurd (List.mem_map.2 ⟨_, hxy, rfl⟩) hno) fun x' hx' => ⟨fun c => (by cases c), fun _ => ?_⟩⟩⟩
    have e := g.one hx' hxy; subst e
    exact hfu _ ⟨by simp only [List.length_cons, List.length_nil]; omega, h⟩
theorem refPath_no {r n : Int} {L : List Br} (hl : L.length ≤ 100000) {Q : List Int → Prop} (hn : ¬ (n = r ∨ n ∈ L.map (·.2))) (h : Q []) : ref32_Path_W r L n Q :=
  ⟨1, fun c => absurd (.inl c) hn, fun _ => refParent_ok hl (fun _ => ⟨fun _ => h, fun c => (by cases c)⟩) fun x hx => absurd (.inr (List.mem_map.2 ⟨_, hx, rfl⟩)) hn⟩
theorem refDepth_ok {r : Int} {L : List Br} {Q : Int → Prop} (hl : L.length ≤ 100000) (g : Gd0 r L) (h : ∀ d : Nat, DepthIs L r d → Q (d : Int)) : ref32_Depth_W r L Q := by
  refine nodes_ok hl fun l hl1 hl2 => ?_
  have hll := hl2.len_le
  refine loop_up l.length (fun i m => ∃ d : Nat, m = d ∧ d ≤ L.length ∧ (∀ x p, x ∈ l.take i → Pth L r x p → p.length ≤ d + 1) ∧ (d = 0 ∨ ∃ x p, Pth L r x p ∧ p.length = d + 1)) ⟨0, rfl, by omega, fun x p hx => by simp at hx, .inl rfl⟩ fun K i m hi ⟨d, hm, hd, h1, h2⟩ hK => ?_
  subst hm
  show ref32_Depth_l1 _ _ _ _ _ ((d : Nat) : Int) (i : Int)
  unfold ref32_Depth_l1
  refine ⟨fun c => ⟨by omega, ?_⟩, fun c => ?_⟩
  · have hlt : i < l.length := by omega
    rw [gi_nat hlt]
    obtain ⟨p, hp⟩ := ((hl2.mem l[i]).1 (List.getElem_mem hlt)).pth
    obtain ⟨fu, hfu⟩ := refPath_ok hl g hp
    have hpp := hp.len_pos
    have hpl := hp.len g
    have hmem : ∀ (d' : Nat), d ≤ d' → p.length ≤ d' + 1 → ∀ x q, x ∈ l.take (i + 1) → Pth L r x q → q.length ≤ d' + 1 := by
      intro d' hd' hp' x q hx hq
      rw [List.take_succ_eq_append_getElem hlt] at hx
      rcases List.mem_append.1 hx with hx | hx
      · have := h1 x q hx hq; omega
      · rw [List.mem_singleton] at hx; subst hx
        rw [hq.uniq g hp]; exact hp'
    refine ⟨fu, hfu _ ⟨by unfold I64; omega, fun c1 => ⟨by unfold I64; omega, hK (i + 1) _ (by omega) hlt ⟨p.length - 1, by omega, by omega, hmem _ (by omega) (by omega), .inr ⟨_, p, hp, by omega⟩⟩⟩, fun c1 => ⟨by unfold I64; omega, hK (i + 1) _ (by omega) hlt ⟨d, rfl, hd, hmem _ (by omega) (by omega), h2⟩⟩⟩⟩
  · rw [List.take_of_length_le (by omega)] at h1
    refine h d ⟨fun x p hp => h1 x p ((hl2.mem x).2 hp.rch) hp, ?_⟩
    rcases h2 with rfl | h2
    · exact ⟨r, [r], .root, rfl⟩
    · exact h2
theorem belowT_ok {r n : Int} {L : List Br} {Q : List Int → Prop} (hl : L.length ≤ 100000) (h1 : n = r ∨ n ∈ L.map (·.2) → ∀ l, l.Pairwise (· < ·) → IsR L n l → Q l) (h0 : ¬ (n = r ∨ n ∈ L.map (·.2)) → Q []) : tree_Below_W r L n Q := by
  refine hasT_ok hl ⟨fun c => h0 (by rw [Bool.not_eq_true'] at c; exact of_decide_eq_false c), fun c => ?_⟩
  rw [Bool.not_eq_false'] at c
  exact walk_ok hl fun out ho => by
    have := ho.toIsR.len_le
    exact rising_ok (by omega) ho.nd fun m hm hmem => h1 (of_decide_eq_true c) m hm ⟨rise_nodup hm, fun x => (hmem x).trans (ho.mem x)⟩
theorem isR_eq {L : List Br} {a : Int} {l m : List Int} (hl : l.Pairwise (· < ·)) (hm : m.Pairwise (· < ·)) (h : IsR L a l) (k : IsR L a m) : l = m := rise_eq hl hm fun x => by rw [h.mem, k.mem]
theorem treeTells_ok {r n : Int} {l : List Br} {Q : Bool → Prop} (h : Q true) : law32_TreeTells_W r l n Q := by
  refine few_ok ?_
  generalize hL : l.take 12 = L
  have hl : L.length ≤ 12 := by rw [← hL, List.length_take]; omega
  have hl' : L.length ≤ 100000 := by omega
  have few : ∀ {K : Int → List Br → Prop}, K r L → law32_Few_W r L (fun a b => K a b) := fun k => few_ok (by rw [few12 hl]; exact k)
  refine refGood_ok hl' fun b hb => ⟨fun c => lives_ok h, fun c => ?_⟩
  have gd : Gd r L := hb.1 (by rw [Bool.not_eq_false'] at c; exact c)
  have g := gd.toGd0
  -- the later parts
  have j3 : law32_TreeTells_j3 Q r L false := by
    refine ⟨fun q => (by cases q), fun _ => few (depth_ok hl' g fun d _ hd => refDepth_ok hl' g fun d' hd' => ⟨fun _ => few (leaves_ok hl' fun l1 h1 => refLeaves_ok hl' fun l2 h2 => ?_), fun c => ?_⟩)⟩
    · obtain rfl := h1.uniq h2
      have hll : l1.length ≤ 1000000 := by
        have : l1.length ≤ L.length + 1 := rch_len (rise_nodup h1.ris) fun x hx => ((h1.mem x).1 hx).1
        omega
      refine eqI_ok hll ⟨fun _ => few (fan_ok hl' fun f _ hf => refFan_ok hl' g fun f' _ hf' => ⟨fun _ => lives_ok h, fun c => ?_⟩), fun c => by simp at c⟩
      exact absurd (by rw [hf.uniq hf']) c
    · exact absurd (by rw [hd.uniq hd']) c
  have j2 : law32_TreeTells_j2 n Q r L := by
    refine few (nexts_ok hl' fun nx hnx => refNext_ok hl' ?_)
    rw [hnx.at_]
    have hk := kids_len L n
    refine eqI_ok (by omega) ⟨fun c => by simp at c, fun _ => few ?_⟩
    have tail : ∀ p : List Int, p.length ≤ 1000000 → ref32_SameInts_W p p (fun r_17 => ((!r_17) = true → law32_TreeTells_j3 Q r L true) ∧ ((!r_17) = false → law32_Few_W r L (fun r_0_8 r_1_8 => tree_Nodes_W r_0_8 r_1_8 (fun r_18 => ref32_Nodes_W r L (fun r_19 => ref32_SameInts_W r_18 r_19 (fun r_20 => law32_TreeTells_j3 Q r L (!r_20))))))) := by
      intro p hp
      refine eqI_ok hp ⟨fun c => by simp at c, fun _ => few (nodesT_ok hl' fun l1 r1 i1 => nodes_ok hl' fun l2 r2 i2 => ?_)⟩
      have e := isR_eq r1 r2 i1 i2
      subst e
      have := i1.len_le
      refine eqI_ok (by omega) ?_
      rw [decide_eq_true rfl]; exact j3
    by_cases hn : n = r ∨ n ∈ L.map (·.2)
    · refine path_ok hl' g (fun p hp => ?_) fun hno => absurd hn hno
      obtain ⟨fu, hfu⟩ := refPath_ok hl' g hp
      have := hp.len g
      exact ⟨fu, hfu _ (tail p (by omega))⟩
    · refine path_ok hl' g (fun p hp => absurd (g.reach.1 hp.rch) hn) fun _ => refPath_no hl' hn (tail [] (by simp))
  refine nodes_ok hl' fun l0 hr0 hi0 => ?_
  have hll0 := hi0.len_le
  refine has_ok (by omega) (few ?_)
  have hin : n ∈ l0 ↔ (n = r ∨ n ∈ L.map (·.2)) := (hi0.mem n).trans g.reach
  have rest : ∀ (p : Int) (ok : Bool), ok = decide (n ∈ L.map (·.2)) →
      (decide (n ∈ l0) = true → ref32_Below_W r L n (fun r_6 => law32_TreeTells_j1 n Q r L (decide (n ∈ l0)) p ok p ok r_6)) ∧ (decide (n ∈ l0) = false → law32_TreeTells_j1 n Q r L (decide (n ∈ l0)) p ok p ok []) := by
    intro p ok hok
    have main : ∀ bl : List Int, (n ∈ l0 → bl.Pairwise (· < ·) ∧ IsR L n bl) → (n ∉ l0 → bl = []) → law32_TreeTells_j1 n Q r L (decide (n ∈ l0)) p ok p ok bl := by
      intro bl hb1 hb0
      refine few (hasT_ok hl' ?_)
      have e : decide (n = r ∨ n ∈ L.map (·.2)) = decide (n ∈ l0) := by rw [Bool.eq_iff_iff, decide_eq_true_eq, decide_eq_true_eq, hin]
      rw [e]
      have bel : law32_Few_W r L (fun r_0_4 r_1_4 => tree_Below_W r_0_4 r_1_4 n (fun r_8 => ref32_SameInts_W r_8 bl (fun r_9 => ((!r_9) = true → Q false) ∧ ((!r_9) = false → law32_TreeTells_j2 n Q r L)))) := by
        refine few (belowT_ok hl' (fun hn l1 hr1 hi1 => ?_) fun hn => ?_)
        · obtain ⟨k1, k2⟩ := hb1 (hin.2 hn)
          have e := isR_eq hr1 k1 hi1 k2
          subst e
          have := hi1.len_le
          exact eqI_ok (by omega) ⟨fun c => by simp at c, fun _ => j2⟩
        · rw [hb0 fun q => hn (hin.1 q)]
          exact eqI_ok (by simp) ⟨fun c => by simp at c, fun _ => j2⟩
      refine ⟨fun c => by simp at c, fun _ => ⟨fun c => absurd rfl c, fun _ => ⟨fun c => by simp at c, fun _ => ⟨fun c => ⟨fun c2 => ?_, fun _ => bel⟩, fun c => ⟨fun c2 => ?_, fun _ => bel⟩⟩⟩⟩⟩
      · exfalso
        have hn := hin.1 (of_decide_eq_true c)
        rw [hok] at c2
        by_cases hr : n = r
        · subst hr
          rw [decide_eq_false g.no_root] at c2; simp at c2
        · rw [decide_eq_true (hn.resolve_left hr), decide_eq_false hr] at c2; simp at c2
      · exfalso
        have hn : ¬ (n = r ∨ n ∈ L.map (·.2)) := fun q => of_decide_eq_false c (hin.2 q)
        rw [hok, decide_eq_false fun q => hn (.inr q)] at c2; simp at c2
    refine ⟨fun c => below_ok hl' fun l1 hr1 hi1 => main l1 (fun _ => ⟨hr1, hi1⟩) fun q => absurd (of_decide_eq_true c) q, fun c => main [] (fun q => absurd q (of_decide_eq_false c)) fun _ => rfl⟩
  refine parent_ok hl' (fun hno => refParent_ok hl' (fun _ => rest 0 false (decide_eq_false hno).symm) fun x hx => absurd (List.mem_map.2 ⟨_, hx, rfl⟩) hno) fun x hx => refParent_ok hl' (fun hno => absurd (List.mem_map.2 ⟨_, hx, rfl⟩) hno) fun x' hx' => ?_
  have e := g.one hx' hx; subst e
  exact rest x' true (decide_eq_true (List.mem_map.2 ⟨_, hx, rfl⟩)).symm
end Go.Wk
