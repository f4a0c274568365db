/- Plain words: RepairPlays. -/
import Derived.Test.YtjliljlmgepmpaaGreatRqV
import Derived.Test.YtjliljlmgepmpaaGreatRepP1
set_option linter.unusedSimpArgs false
set_option linter.unusedVariables false
set_option linter.unusedSectionVars false
namespace Go.Wk
open Go.HL
variable [DM]
theorem refParent_ok {r n : Int} {L : List Br} {Q : Int → Bool → Prop} (hl : L.length ≤ 100000) (h0 : n ∉ L.map (·.2) → Q 0 false) (h1 : ∀ x, (x, n) ∈ L → Q x true) : ref32_Parent_W r L n Q := by
  refine loop_up1 L.length (fun i => ∀ e ∈ L.take i, e.2 ≠ n) (by simp) fun K i hi hI hK => ?_
  unfold ref32_Parent_l1
  refine ⟨fun c => ⟨by omega, ?_⟩, fun c => h0 fun q => ?_⟩
  · have hlt : i < L.length := by omega
    rw [gi_nat hlt]
    refine ⟨fun e => h1 _ (by rw [show (L[i].1, n) = L[i] by rw [← e]]; exact List.getElem_mem hlt), fun e => ⟨by unfold I64; omega, hK (i + 1) (by omega) (by omega) fun x hx => ?_⟩⟩
    rw [List.take_succ_eq_append_getElem hlt] at hx
    rcases List.mem_append.1 hx with hx | hx
    · exact hI x hx
    · rw [List.mem_singleton] at hx; subst hx; exact e
  · rw [List.take_of_length_le (by omega)] at hI
    obtain ⟨e, he, q⟩ := List.mem_map.1 q
    exact hI e he q
theorem refPath_ok {r : Int} {L : List Br} (hl : L.length ≤ 100000) (g : Gd0 r L) {n : Int} {p : List Int} (hp : Pth L r n p) : ∃ fu, ∀ Q : List Int → Prop, Q p → ref32_Path_Wn fu r L n Q := by
  induction hp with
  | root => exact ⟨1, fun Q h => ⟨fun _ => h, fun c => absurd rfl c⟩⟩
  | @step x y p hp hxy ih =>
    obtain ⟨fu, hfu⟩ := ih
    have hlen := hp.len g
    refine ⟨fu + 1, fun Q h => ⟨fun c => absurd c (g.root _ hxy), fun _ => refParent_ok hl (fun hno => absurd (List.mem_map.2 ⟨_, hxy, rfl⟩) hno) fun x' hx' => ⟨fun c => (by cases c), fun _ => ?_⟩⟩⟩
    have e := g.one hx' hxy; subst e
    exact hfu _ ⟨by simp only [List.length_cons, List.length_nil]; omega, h⟩
theorem kids_from {L : List Br} {x : Int} (h : kids L x ≠ []) : x ∈ L.map (·.1) := by
  obtain ⟨y, r, e⟩ : ∃ y r, kids L x = y :: r := by
    cases hk : kids L x with
    | nil => exact absurd hk h
    | cons y r => exact ⟨y, r, rfl⟩
  have : (x, y) ∈ L := mem_kids.1 (by rw [e]; simp)
  exact List.mem_map.2 ⟨_, this, rfl⟩
theorem ch_from {A B : List Br} {x : Int} (h : kids A x ≠ kids B x) : x ∈ (A ++ B).map (·.1) := by
  rw [List.map_append, List.mem_append]
  by_cases c : kids A x = []
  · exact .inr (kids_from fun q => h (c.trans q.symm))
  · exact .inl (kids_from c)
structure ChIs (A B : List Br) (l : List Int) : Prop where
  ris : l.Pairwise (· < ·)
  mem : ∀ x, x ∈ l ↔ kids A x ≠ kids B x
theorem refChanged_ok {r s : Int} {A B : List Br} {Q : List Int → Prop} (hA : A.length ≤ 1000) (hB : B.length ≤ 1000) (h : ∀ l, ChIs A B l → Q l) : ref32_Changed_W r A s B Q := by
  refine ⟨by simp only [List.length_nil]; omega, by simp only [List.nil_append]; omega, ?_⟩
  unfold ref32_Changed_j1 ref32_Changed_l1
  simp only [List.nil_append]
  generalize hC : A ++ B = C
  have hCl : C.length ≤ 2000 := by rw [← hC, List.length_append]; omega
  refine loop_up C.length (fun i all => all.Pairwise (· < ·) ∧ all.length ≤ i ∧ ∀ x, x ∈ all ↔ x ∈ (C.take i).map (·.1)) ⟨List.Pairwise.nil, Nat.le_refl _, fun x => by simp⟩ fun K i all hi ⟨h1, h2, h3⟩ hK => ?_
  dsimp only
  refine ⟨fun c => ?_, fun c => ?_⟩
  · have hlt : i < C.length := by omega
    rw [gi_nat hlt]
    refine ⟨by omega, add_ok (by omega) ⟨by unfold I64; omega, hK (i + 1) _ (by omega) hlt ⟨rise_addI h1, ?_, fun x => ?_⟩⟩⟩
    · have := len_addI all C[i].1; omega
    · rw [mem_addI, h3 x, List.take_succ_eq_append_getElem hlt, List.map_append, List.mem_append]
      constructor
      · rintro (q | q)
        · exact .inr (by simp [q])
        · exact .inl q
      · rintro (q | q)
        · exact .inr q
        · exact .inl (by simpa using q)
  · have hi' : i = C.length := by omega
    rw [List.take_of_length_le (by omega)] at h3
    refine loop_up all.length (fun j out => out = (all.take j).filter fun x => decide (kids A x ≠ kids B x)) (by simp) fun K2 j out hj hout hK2 => ?_
    show ref32_Changed_l2 _ _ _ _ _ _ _ out (j : Int)
    unfold ref32_Changed_l2
    have hol : out.length ≤ 2000 := by
      rw [hout]; exact Nat.le_trans (List.length_filter_le _ _) (by rw [List.length_take]; omega)
    refine ⟨fun c => ?_, fun c => ?_⟩
    · have hlt : j < all.length := by omega
      rw [gi_nat hlt]
      have hkl := kids_len A all[j]
      refine ⟨by omega, refNext_ok (by omega) (refNext_ok (by omega) (eqI_ok (by omega) ⟨fun c2 => ⟨by simp only [List.length_cons, List.length_nil]; omega, by unfold I64; omega, hK2 (j + 1) _ (by omega) hlt ?_⟩, fun c2 => ⟨by unfold I64; omega, hK2 (j + 1) _ (by omega) hlt ?_⟩⟩))⟩
      · have hne : kids A all[j] ≠ kids B all[j] := by rw [Bool.not_eq_true'] at c2; exact of_decide_eq_false c2
        rw [List.take_succ_eq_append_getElem hlt, List.filter_append, hout]
        congr 1
        simp [hne]
      · have he : kids A all[j] = kids B all[j] := by rw [Bool.not_eq_false'] at c2; exact of_decide_eq_true c2
        rw [List.take_succ_eq_append_getElem hlt, List.filter_append, hout]
        simp [he]
    · rw [List.take_of_length_le (by omega)] at hout
      refine h out ⟨hout ▸ h1.filter _, fun x => ?_⟩
      rw [hout, List.mem_filter, h3 x, decide_eq_true_eq]
      constructor
      · exact fun q => q.2
      · exact fun q => ⟨hC ▸ ch_from q, q⟩
theorem within_ok {l p : List Int} {Q : Bool → Prop} (hl : l.length ≤ 100000) (hp : p.length ≤ 100000) (hne : p ≠ []) (h : ∀ y ∈ l, y ∈ p.take (p.length - 1)) (hq : Q true) : law34_within_W l p Q := by
  have hpos := List.length_pos_iff.2 hne
  refine loop_up1 l.length (fun _ => True) trivial fun K i hi _ hK => ?_
  unfold law34_within_l1
  refine ⟨fun c => ⟨fun q => by omega, fun _ => ⟨by unfold I64; omega, by omega, by omega, ?_⟩⟩, fun _ => hq⟩
  have hlt : i < l.length := by omega
  rw [show (p.length : Int) - 1 = ((p.length - 1 : Nat) : Int) by omega, cut0n, gi_nat hlt]
  refine has_ok (by rw [List.length_take]; omega) ?_
  rw [decide_eq_true (h _ (List.getElem_mem hlt))]
  exact ⟨fun q => (by cases q), fun _ => ⟨by unfold I64; omega, hK (i + 1) (by omega) (by omega) trivial⟩⟩
theorem cut34_ok {l : List Int} {n : Int} {Q : List Int → Prop} (hl : l.length ≤ 100000) (h : Q (cutI l n)) : law34_cut_W l n Q := by
  refine loop_up l.length (fun i s => s = cutI (l.take i) n) rfl fun K i s hi hs hK => ?_
  have hsl : s.length ≤ i := by
    rw [hs]; unfold cutI
    exact Nat.le_trans (List.length_filter_le _ _) (by simp; omega)
  show law34_cut_l1 _ _ _ _ s (i : Int)
  unfold law34_cut_l1
  refine ⟨fun cc => ?_, fun cc => ?_⟩
  · have hlt : i < l.length := by omega
    have et : cutI (l.take (i + 1)) n = cutI (l.take i) n ++ cutI [l[i]] n := by
      rw [List.take_succ_eq_append_getElem hlt]; unfold cutI; rw [List.filter_append]
    rw [gi_nat hlt]
    refine ⟨by omega, fun q => ⟨by simp only [List.length_cons, List.length_nil]; omega, by unfold I64; omega, hK (i + 1) _ (by omega) (by omega) ?_⟩, fun q => ⟨by unfold I64; omega, hK (i + 1) _ (by omega) (by omega) ?_⟩⟩
    · rw [et, hs]; simp [cutI, q]
    · rw [et, hs]; simp [cutI, q]
  · have : i = l.length := by omega
    subst this
    rw [List.take_length] at hs; rw [hs]; exact h
theorem Pth.anc {r n : Int} {T : List Br} {p : List Int} (g : Gd0 r T) (h : Pth T r n p) : ∃ q, p = q ++ [n] ∧ ∀ y, Rch T y n → y ≠ n → y ∈ q := by
  induction h with
  | root =>
    refine ⟨[], rfl, fun y hy hne => ?_⟩
    cases hy with
    | refl => exact absurd rfl hne
    | step _ hl => exact absurd rfl (g.root _ hl)
  | @step a b p hp hl ih =>
    obtain ⟨q, rfl, hq⟩ := ih
    refine ⟨_, rfl, fun y hy hne => ?_⟩
    cases hy with
    | refl => exact absurd rfl hne
    | @step w _ hw hl' =>
      have e := g.one hl' hl; subst e
      by_cases c : y = w
      · rw [c]; exact List.mem_append_right _ (List.mem_singleton.2 rfl)
      · exact List.mem_append_left _ (hq y hw c)
theorem kids_ris {T : List Br} (h : T.Pairwise blt) (y : Int) : (kids T y).Pairwise (· < ·) := by
  unfold kids
  rw [List.pairwise_map]
  have h2 := h.sublist (List.filter_sublist (p := fun e : Br => decide (e.1 = y)))
  refine h2.imp_of_mem fun {a b} ha hb q => ?_
  have ha := of_decide_eq_true (List.mem_filter.1 ha).2
  have hb := of_decide_eq_true (List.mem_filter.1 hb).2
  rcases q with q | q
  · omega
  · exact q.2
section
variable {r n : Int} {T L : List Br} {M x U : List Int} {fan : Nat}
theorem Pr.anc (c : Cx r x fan U) (v : VI r T M x fan) (hM : ∀ y ∈ M, y ∈ U) (h : Pr (n :: x) T L) : ∀ e ∈ T, e ∉ L → Rch T e.2 n := by
  induction h with
  | refl => exact fun e he q => absurd he q
  | @step L s _ hs hk ih =>
    intro e he hne
    by_cases q : e ∈ L
    · have es : e.2 = s := Decidable.byContradiction fun q2 => hne (mem_cutTo.2 ⟨q, q2⟩)
      rw [es]
      rcases List.mem_cons.1 hs with q2 | q2
      · rw [q2]; exact .refl
      · rcases hq : kids T s with _ | ⟨z, m⟩
        · have : s ∈ M := v.mem.2 ⟨List.mem_map.2 ⟨e, he, es⟩, kids_nil.1 hq⟩
          exact absurd (hM s this) (c.off s q2)
        · have hz : (s, z) ∈ T := mem_kids.1 (by rw [hq]; simp)
          have hzL : (s, z) ∉ L := fun q3 => by
            have : z ∈ kids L s := mem_kids.2 q3
            rw [hk] at this; cases this
          exact (Rch.refl.step hz).trans (ih _ hz hzL)
    · exact ih e he q
theorem LeaveR.otherwise (c : Cx r x fan U) (v : VI r T M x fan) (hM : ∀ y ∈ M, y ∈ U) (hn : n ∈ M) (h : LeaveR r T M n x fan L) (hS : ¬ StarP T fan) : ∀ y, kids T y ≠ kids L y → Rch T y n ∧ y ≠ n := by
  cases h with
  | star h => exact absurd h hS
  | cut h hp hs =>
    intro y hy
    obtain ⟨e, he, e1, e2⟩ : ∃ e ∈ T, e.1 = y ∧ e ∉ L := Decidable.byContradiction fun q => hy (by
      have all : ∀ e ∈ T, e.1 = y → e ∈ L := fun e he e1 => Decidable.byContradiction fun q2 => q ⟨e, he, e1, q2⟩
      obtain ⟨p, rfl⟩ := hp.eqf
      unfold kids
      rw [List.filter_filter]
      congr 1
      apply List.filter_congr
      intro e he
      by_cases q2 : e.1 = y
      · have := (List.mem_filter.1 (all e he q2)).2
        simp [q2, this]
      · simp [q2])
    refine ⟨?_, ?_⟩
    · have : Rch T y e.2 := Rch.refl.step (by rw [← e1]; exact he)
      exact this.trans (hp.anc c v hM e he e2)
    · rintro rfl
      exact (v.mem.1 hn).2 (List.mem_map.2 ⟨e, he, e1⟩)
theorem JoinR.otherwise (c : Cx r x fan U) (v : VI r T M x fan) (hM : ∀ y ∈ M, y ∈ U) (hn : n ∈ U) (hnM : n ∉ M) (h : JoinR r T M n x fan L) (hS : ¬ StarP T fan) (hS2 : ¬ StarP L fan) : ∀ y, kids T y ≠ kids L y → Rch L y n ∧ y ≠ n := by
  have v' := h.vi c v hM hn hnM
  have g := v.good.toGd0
  have hnr : n ≠ r := fun q => c.ru (q ▸ hn)
  have hnx : n ∉ x := fun q => c.off n q hn
  have same : ∀ y, (kids L y).Perm (kids T y) → kids T y = kids L y := fun y hp => rise_eq (kids_ris v.good.ris y) (kids_ris v'.good.ris y) fun z => hp.mem_iff.symm
  cases h with
  | star h => exact absurd h hS
  | room h a hr hp hs =>
    intro y hy
    have ham := List.mem_of_find?_eq_some hr
    have e : y = a := Decidable.byContradiction fun q => hy (same y (by
      have := kids_perm hp y
      rwa [kids_snoc, if_neg fun q2 => q q2.symm] at this))
    subst e
    refine ⟨Rch.refl.step (hp.mem_iff.2 (List.mem_append_right _ (List.mem_singleton.2 rfl))), fun q => ?_⟩
    rcases List.mem_cons.1 ham with q2 | q2
    · exact hnr (q.symm.trans q2)
    · exact hnx (q ▸ q2)
  | none h hr hf e =>
    exfalso
    have h1 := no_room c v hM h hr hf
    refine hS2 ⟨r, ?_⟩
    have e2 : (kids L r).length = M.length + 1 := by
      rw [e, ← len_addI' hnM]
      unfold kids
      rw [List.filter_eq_self.2 fun b hb => ?_]
      · simp
      · obtain ⟨m, _, rfl⟩ := List.mem_map.1 hb; simp
    rw [e2]
    refine Nat.lt_of_not_le fun q => h1 ⟨0, ⟨by omega, fun j hj => by omega⟩, Nat.zero_le _⟩
  | fresh h hr s hf h2 hp hs =>
    have hsx := List.mem_of_find?_eq_some hf
    have hkr := root_full g h hr
    have hmk : lastK T r ∈ kids T r := lastK_mem fun q => by rw [q] at hkr; simp at hkr; omega
    generalize lastK T r = mv at hmk hp
    have hme : (r, mv) ∈ T := mem_kids.1 hmk
    intro y hy
    have e : y = r ∨ y = s := Decidable.byContradiction fun q => hy (same y (by
      have := kids_perm hp y
      rw [kids_append, kids_cutTo] at this
      have h3 : kids [(r, s), (s, mv), (s, n)] y = [] := kids_nil.2 (by simp; exact ⟨fun q2 => q (.inl q2), fun q2 => q (.inr q2)⟩)
      have h4 : (kids T y).filter (fun z => !decide (z = mv)) = kids T y := List.filter_eq_self.2 fun z hz => by
        have : z ≠ mv := fun q2 => q (.inl (g.one (x := y) (y := mv) (b := r) (q2 ▸ mem_kids.1 hz) hme))
        simp [this]
      rwa [h3, h4, List.append_nil] at this))
    rcases e with e | e
    · rw [e]
      refine ⟨v'.good.toGd0.reach.2 (.inr ?_), fun q => hnr q.symm⟩
      exact List.mem_map.2 ⟨(s, n), hp.mem_iff.2 (List.mem_append_right _ (by simp)), rfl⟩
    · rw [e]
      exact ⟨Rch.refl.step (hp.mem_iff.2 (List.mem_append_right _ (by simp))), fun q => hnx (q ▸ hsx)⟩
end
theorem repairPlays_ok {ar af : Int} {am sv : List Int} {moves : List UInt8} {Q : Bool → Prop} (ha : 0 ≤ af ∧ af < 256) (h : Q true) : law34_RepairPlays_W ar am sv af moves Q := by
  refine own_ok ha fun U s k a => turned_ok (by have := a.ls; omega) ha fun x hx => ?_
  have lU := a.lm; have ls := a.ls; have hk := a.fan; have hxl := hx.length_eq
  have c : Cx ar x k U := ⟨hx.nodup_iff.2 (rise_nodup a.rs), fun q => a.ns (hx.mem_iff.1 q), a.nm, fun y hy => a.off y (hx.mem_iff.1 hy), by omega, lU, hk.1, hk.2⟩
  refine refMakeT_ok (m := []) List.Pairwise.nil (by simp; omega) (by omega) fun T0 hT0 => ?_
  have v0 : VI ar T0 [] x k := hT0.vi c List.Pairwise.nil (by simp)
  refine loop_by (fun s => s.2.2.2) 31 (fun i s => i ≤ 30 ∧ s.1 = ar ∧ VI ar s.2.1 s.2.2.1 x k ∧ ∀ y ∈ s.2.2.1, y ∈ U) rfl ⟨by omega, rfl, v0, by simp⟩ ?_
  rintro K i ⟨_, T, M, _⟩ rfl hi ⟨hi2, e, v, hM⟩ hK
  simp only at e v hM hi hi2
  replace e := e.symm; subst e
  have g := v.good.toGd0
  have hfew := v.few c hM
  have lM := c.lm v.leaf.ris hM
  have done : i < 30 → ∀ (L : List Br) (M1 p : List Int), VI ar L M1 x k → (∀ y ∈ M1, y ∈ U) → p ≠ [] → p.length ≤ 1000 → (¬ StarP T k → ¬ StarP L k → ∀ y, kids T y ≠ kids L y → y ∈ p.take (p.length - 1)) →
      law34_RepairPlays_j2 Q ar s (k : Int) ar T (i : Int) (fun t_0_1 t_1_1 l_1 i_1 => K (t_0_1, t_1_1, l_1, i_1)) M1 ar L p := fun hi30 L M1 p v1 hM1 hne hpl hw => by
    have hf1 := v1.few c hM1
    have lM1 := c.lm v1.leaf.ris hM1
    have j4 : law34_RepairPlays_j4 Q (i : Int) (fun t_0_1 t_1_1 l_1 i_1 => K (t_0_1, t_1_1, l_1, i_1)) M1 ar L false := ⟨fun q => (by cases q), fun _ => ⟨by unfold I64; omega, hK (i + 1) _ rfl (by omega) (by omega) ⟨by omega, rfl, v1, hM1⟩⟩⟩
    have j3 : law34_RepairPlays_j3 Q (k : Int) ar T (i : Int) (fun t_0_1 t_1_1 l_1 i_1 => K (t_0_1, t_1_1, l_1, i_1)) M1 ar L p false := by
      refine ⟨fun q => (by cases q), fun _ => rstar_ok (by omega) g (fun st => ⟨fun q => (by cases q), fun _ => j4⟩) fun st => ⟨fun _ => rstar_ok (by omega) v1.good.toGd0 (fun st2 => ⟨fun q => (by cases q), fun _ => j4⟩) fun st2 => ⟨fun _ => refChanged_ok (by omega) (by omega) fun l hl => ?_, fun q => (by cases q)⟩, fun q => (by cases q)⟩⟩
      refine within_ok ?_ (by omega) hne (fun y hy => hw st st2 y ((hl.mem y).1 hy)) j4
      have := nodup_le (m := (T ++ L).map (·.1)) (rise_nodup hl.ris) fun y hy => ch_from ((hl.mem y).1 hy)
      simp only [List.length_map, List.length_append] at this; omega
    refine refValid_ok (by omega) (by omega) (by omega) (by omega) fun b hb => ?_
    rw [hb.2 (v1.valid a.rs hx)]
    refine ⟨fun q => (by cases q), fun _ => own34_ok (by omega) ?_⟩
    exact pstar_ok (by omega) (fun st => rstar_ok (by omega) v1.good.toGd0 (fun _ => j3) fun q => absurd st q) fun st => rstar_ok (by omega) v1.good.toGd0 (fun q => absurd q st) fun _ => j3
  have go : ∀ b : Bool, (b = true → i < moves.length ∧ i < 30 ∧ 0 < U.length) → law34_RepairPlays_j1 moves Q ar U s (k : Int) x ar T M (i : Int) (fun t_0_1 t_1_1 l_1 i_1 => K (t_0_1, t_1_1, l_1, i_1)) b := by
    intro b hb
    unfold law34_RepairPlays_j1
    refine ⟨fun q => ?_, fun _ => lives34_ok h⟩
    obtain ⟨h1, h2, h3⟩ := hb q
    rw [gi_nat h1]
    have ht := moves[i].toNat_lt
    have e : ((moves[i].toNat : Int).tmod (U.length : Int)) = ((moves[i].toNat % U.length : Nat) : Int) := by rw [Int.tmod_eq_emod_of_nonneg (by omega)]; rfl
    have hm := Nat.mod_lt moves[i].toNat (show 0 < U.length by omega)
    rw [e]
    generalize moves[i].toNat % U.length = d at hm
    rw [gi_nat hm]
    have hnU : U[d] ∈ U := List.getElem_mem hm
    generalize U[d] = n at hnU
    refine ⟨by omega, by unfold I64; omega, by omega, by omega, has_ok (by omega) ⟨fun q => ?_, fun q => ?_⟩⟩
    · have hn : n ∈ M := by simpa using q
      refine own34_ok (by omega) (copied34_ok (by omega) (leave_ok c v hM hn fun L hL => cut34_ok (by omega) ?_))
      obtain ⟨p, hp⟩ := Rch.pth (g.reach.2 (.inr (v.mem.1 hn).1))
      obtain ⟨fu, hfu⟩ := refPath_ok (by omega) g hp
      obtain ⟨q, rfl, hq⟩ := hp.anc g
      have hpl := hp.len g
      refine ⟨fu, hfu _ (rleave_ok c v hM hn fun L2 hL2 => ?_)⟩
      obtain rfl := hL.uniq hL2
      have v1 := hL.vi c v hM hn
      have hf1 := v1.few c (cutU hM)
      refine refSame_ok (by omega) ⟨fun q => by simp at q, fun _ => done h2 L _ _ v1 (cutU hM) (by simp) (by omega) fun st st2 y hy => ?_⟩
      obtain ⟨r1, r2⟩ := hL.otherwise c v hM hn st y hy
      rw [List.length_append, List.length_singleton, Nat.add_sub_cancel, List.take_left']
      · exact hq y r1 r2
      · rfl
    · have hn : n ∉ M := by simpa using q
      refine own34_ok (by omega) (copied34_ok (by omega) (join_ok c v hM hnU hn fun L hL => add_ok (by omega) (rjoin_ok c v hM hnU hn fun L2 hL2 => ?_)))
      obtain rfl := hL.uniq hL2
      have v1 := hL.vi c v hM hnU hn
      have hM1 := addU hM hnU
      have hf1 := v1.few c hM1
      refine refSame_ok (by omega) ⟨fun q => by simp at q, fun _ => ?_⟩
      have g1 := v1.good.toGd0
      obtain ⟨p, hp⟩ := Rch.pth (g1.reach.2 (.inr (v1.mem.1 (mem_addI.2 (.inl rfl))).1))
      obtain ⟨fu, hfu⟩ := refPath_ok (by omega) g1 hp
      obtain ⟨q, rfl, hq⟩ := hp.anc g1
      have hpl := hp.len g1
      refine ⟨fu, hfu _ (done h2 L _ _ v1 hM1 (by simp) (by omega) fun st st2 y hy => ?_)⟩
      obtain ⟨r1, r2⟩ := hL.otherwise c v hM hnU hn st st2 y hy
      rw [List.length_append, List.length_singleton, Nat.add_sub_cancel, List.take_left']
      · exact hq y r1 r2
      · rfl
  show law34_RepairPlays_l2 _ _ _ _ _ _ _ _ _ T M (i : Int)
  unfold law34_RepairPlays_l2
  refine ⟨fun cc => ⟨fun c2 => go _ fun q => ?_, fun _ => go false fun q => by cases q⟩, fun _ => go false fun q => by cases q⟩
  have := of_decide_eq_true q
  omega
end Go.Wk
