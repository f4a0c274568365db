/- Plain words: RepairTo. -/
import Derived.Test.YtjliljlmgepmpaaGreatRqV
import Derived.Test.YtjliljlmgepmpaaGreatRepT1
set_option linter.unusedSimpArgs false
set_option linter.unusedVariables false
set_option linter.unusedSectionVars false
namespace Go.Wk
open Go.HL
variable [DM]
theorem contains_I {l : List Int} {n : Int} {Q : Bool → Prop} (hl : l.length ≤ 100000) (h : Q (decide (n ∈ l))) : slices_Contains_s_int_int_W l n Q := by
  refine loop_up1 l.length (fun i => n ∉ l.take i) (by simp) fun K i hi hI hK => ?_
  show slices_Index_s_int_int_l1 _ _ _ _ _
  unfold slices_Index_s_int_int_l1
  refine ⟨fun c => ?_, fun c => ?_⟩
  · have hlt : i < l.length := by omega
    rw [gi_nat hlt]
    refine ⟨by omega, fun q => ?_, fun q => ⟨by unfold I64; omega, hK (i + 1) (by omega) (by omega) fun q2 => ?_⟩⟩
    · show Q (decide ((0 : Int) ≤ (i : Int)))
      rw [decide_eq_true (by omega)]
      rwa [decide_eq_true (by rw [q]; exact List.getElem_mem hlt)] at h
    · rw [List.take_succ_eq_append_getElem hlt] at q2
      rcases List.mem_append.1 q2 with q2 | q2
      · exact hI q2
      · rw [List.mem_singleton] at q2; exact q q2
  · rw [List.take_of_length_le (by omega)] at hI
    show Q (decide ((0 : Int) ≤ -1))
    rw [decide_eq_false (by decide)]
    rwa [decide_eq_false hI] at h
section
variable {r n : Int} {T L T0 : List Br} {M M0 m x U : List Int} {fan i : Nat}
theorem VI.hasM (c : Cx r x fan U) (v : VI r T M x fan) (hM : ∀ y ∈ M, y ∈ U) (hn : n ∈ U) : hasB r T n = decide (n ∈ M) := by
  unfold hasB
  rw [Bool.eq_iff_iff, decide_eq_true_eq, decide_eq_true_eq]
  constructor
  · rintro (q | q)
    · exact absurd hn (q ▸ c.ru)
    · obtain ⟨e, he, rfl⟩ := List.mem_map.1 q
      exact (v.to_ he).resolve_right fun q => c.off _ q hn
  · exact fun q => .inr (v.mem.1 q).1
def HeldP (r : Int) (T : List Br) (x : List Int) (fan : Nat) : Prop := ¬ StarP T fan ∧ ∀ e ∈ T, e.1 = r ∨ e.1 ∈ x
theorem held_ok {Q : Bool → Prop} (hl : T.length ≤ 100000) (hx : x.length ≤ 100000) (h1 : HeldP r T x fan → Q true) (h0 : ¬ HeldP r T x fan → Q false) : repair_held_W r T x (fan : Int) Q := by
  refine pstar_ok hl (fun st => ⟨fun q => (by cases q), fun _ => h0 fun q => q.1 st⟩) fun st => ⟨fun _ => ⟨fun e => !decide (e.1 = r ∨ e.1 ∈ x), fun e => ⟨fun q => contains_I hx ?_, fun q => ?_⟩, containsFunc_Br (by omega) ?_⟩, fun q => by cases q⟩
  · by_cases c : e.1 ∈ x <;> simp [c, q]
  · simp [q]
  · rcases hq : T.any (fun e => !decide (e.1 = r ∨ e.1 ∈ x)) with _ | _
    · refine h1 ⟨st, fun e he => ?_⟩
      rw [List.any_eq_false] at hq
      have := hq e he
      exact Decidable.or_iff_not_imp_left.2 (by simpa using this)
    · refine h0 fun q => ?_
      obtain ⟨e, he, c⟩ := List.any_eq_true.1 hq
      rw [decide_eq_true (q.2 e he)] at c; cases c
inductive Lvs (r : Int) (m x : List Int) (fan : Nat) (T0 : List Br) (M0 : List Int) : Nat → List Br → List Int → Prop
  | zero : Lvs r m x fan T0 M0 0 T0 M0
  | keep {i : Nat} {T : List Br} {M : List Int} (h : Lvs r m x fan T0 M0 i T M) (hi : i < M0.length) (hm : M0[i] ∈ m) : Lvs r m x fan T0 M0 (i + 1) T M
  | cut {i : Nat} {T L : List Br} {M : List Int} (h : Lvs r m x fan T0 M0 i T M) (hi : i < M0.length) (hm : M0[i] ∉ m) (hl : LeaveR r T M M0[i] x fan L) : Lvs r m x fan T0 M0 (i + 1) L (cutI M M0[i])
theorem Lvs.uniq (h : Lvs r m x fan T0 M0 i T M) : ∀ {T' M'}, Lvs r m x fan T0 M0 i T' M' → T = T' ∧ M = M' := by
  induction h with
  | zero => intro T' M' k; cases k; exact ⟨rfl, rfl⟩
  | keep h hi hm ih =>
    intro T' M' k
    cases k with
    | keep k => exact ih k
    | cut k _ km => exact absurd hm km
  | cut h hi hm hl ih =>
    intro T' M' k
    cases k with
    | keep k _ km => exact absurd km hm
    | cut k _ km kl =>
      obtain ⟨rfl, rfl⟩ := ih k
      exact ⟨hl.uniq kl, rfl⟩
theorem Lvs.vi (c : Cx r x fan M0) (v : VI r T0 M0 x fan) (h : Lvs r m x fan T0 M0 i T M) : VI r T M x fan ∧ (∀ y ∈ M, y ∈ M0) ∧ (∀ (j : Nat) (hj : j < M0.length), j < i → M0[j] ∉ m → M0[j] ∉ M) ∧ ∀ (j : Nat) (hj : j < M0.length), i ≤ j → M0[j] ∈ M := by
  induction h with
  | zero => exact ⟨v, fun y hy => hy, fun j hj q => by omega, fun j hj _ => List.getElem_mem hj⟩
  | @keep i T M h hi hm ih =>
    obtain ⟨a, b, d, e⟩ := ih
    refine ⟨a, b, fun j hj q q2 => ?_, fun j hj q => e j hj (by omega)⟩
    by_cases q3 : j = i
    · subst q3; exact absurd hm q2
    · exact d j hj (by omega) q2
  | @cut i T L M h hi hm hl ih =>
    obtain ⟨a, b, d, e⟩ := ih
    refine ⟨hl.vi c a b (e i hi (Nat.le_refl _)), cutU b, fun j hj q q2 q4 => ?_, fun j hj q => mem_cutI.2 ⟨e j hj (by omega), fun q2 => ?_⟩⟩
    · rw [mem_cutI] at q4
      by_cases q3 : j = i
      · subst q3; exact q4.2 rfl
      · exact d j hj (by omega) q2 q4.1
    · have := nd_inj (rise_nodup v.leaf.ris) q2; omega
theorem Lvs.end_ (c : Cx r x fan M0) (v : VI r T0 M0 x fan) (h : Lvs r m x fan T0 M0 M0.length T M) : VI r T M x fan ∧ ∀ y ∈ M, y ∈ m := by
  obtain ⟨a, b, d, _⟩ := h.vi c v
  refine ⟨a, fun y hy => Decidable.byContradiction fun q => ?_⟩
  obtain ⟨j, hj, rfl⟩ := List.mem_iff_getElem.1 (b y hy)
  exact d j hj hj q hy
inductive Jns (r : Int) (m x : List Int) (fan : Nat) (T0 : List Br) (M0 : List Int) : Nat → List Br → List Int → Prop
  | zero : Jns r m x fan T0 M0 0 T0 M0
  | keep {i : Nat} {T : List Br} {M : List Int} (h : Jns r m x fan T0 M0 i T M) (hi : i < m.length) (hm : m[i] ∈ M) : Jns r m x fan T0 M0 (i + 1) T M
  | join {i : Nat} {T L : List Br} {M : List Int} (h : Jns r m x fan T0 M0 i T M) (hi : i < m.length) (hm : m[i] ∉ M) (hl : JoinR r T M m[i] x fan L) : Jns r m x fan T0 M0 (i + 1) L (addI M m[i])
theorem Jns.uniq (h : Jns r m x fan T0 M0 i T M) : ∀ {T' M'}, Jns r m x fan T0 M0 i T' M' → T = T' ∧ M = M' := by
  induction h with
  | zero => intro T' M' k; cases k; exact ⟨rfl, rfl⟩
  | keep h hi hm ih =>
    intro T' M' k
    cases k with
    | keep k => exact ih k
    | join k _ km =>
      obtain ⟨rfl, rfl⟩ := ih k
      exact absurd hm km
  | join h hi hm hl ih =>
    intro T' M' k
    cases k with
    | keep k _ km =>
      obtain ⟨rfl, rfl⟩ := ih k
      exact absurd km hm
    | join k _ km kl =>
      obtain ⟨rfl, rfl⟩ := ih k
      exact ⟨hl.uniq kl, rfl⟩
theorem Jns.vi (c : Cx r x fan m) (v : VI r T0 M0 x fan) (h0 : ∀ y ∈ M0, y ∈ m) (h : Jns r m x fan T0 M0 i T M) : VI r T M x fan ∧ (∀ y ∈ M, y ∈ m) ∧ ∀ (j : Nat) (hj : j < m.length), j < i → m[j] ∈ M := by
  induction h with
  | zero => exact ⟨v, h0, fun j hj q => by omega⟩
  | @keep i T M h hi hm ih =>
    obtain ⟨a, b, d⟩ := ih
    refine ⟨a, b, fun j hj q => ?_⟩
    by_cases q3 : j = i
    · subst q3; exact hm
    · exact d j hj (by omega)
  | @join i T L M h hi hm hl ih =>
    obtain ⟨a, b, d⟩ := ih
    refine ⟨hl.vi c a b (List.getElem_mem hi) hm, addU b (List.getElem_mem hi), fun j hj q => mem_addI.2 ?_⟩
    by_cases q3 : j = i
    · subst q3; exact .inl rfl
    · exact .inr (d j hj (by omega))
inductive ToR (r : Int) (T : List Br) (M m x : List Int) (fan : Nat) (L : List Br) : Bool → Prop
  | anew (h : ¬ HeldP r T x fan) (hm : MadeT r m x fan L) : ToR r T M m x fan L false
  | kept (h : HeldP r T x fan) {T1 : List Br} {M1 M2 : List Int} (h1 : Lvs r m x fan T M M.length T1 M1) (h2 : Jns r m x fan T1 M1 m.length L M2) : ToR r T M m x fan L true
theorem ToR.uniq {K : List Br} {b b' : Bool} (h : ToR r T M m x fan L b) (k : ToR r T M m x fan K b') : L = K ∧ b = b' := by
  cases h with
  | anew h hm =>
    cases k with
    | anew k km => exact ⟨hm.uniq km, rfl⟩
    | kept k => exact absurd k h
  | kept h h1 h2 =>
    cases k with
    | anew k => exact absurd h k
    | kept k k1 k2 =>
      obtain ⟨rfl, rfl⟩ := h1.uniq k1
      exact ⟨(h2.uniq k2).1, rfl⟩
structure Ts (r : Int) (T : List Br) (M m x : List Int) (fan : Nat) : Prop where
  good : Gd r T
  leaf : LeafIs T r M
  c1 : Cx r x fan M
  c2 : Cx r x fan m
  rm : m.Pairwise (· < ·)
theorem Ts.vi (t : Ts r T M m x fan) (h : HeldP r T x fan) : VI r T M x fan :=
  ⟨t.good, t.leaf, h.2, .inl fun y => Nat.le_of_not_lt fun q => h.1 ⟨y, q⟩⟩
theorem ToR.vi {b : Bool} (t : Ts r T M m x fan) (h : ToR r T M m x fan L b) : VI r L m x fan := by
  cases h with
  | anew h hm => exact hm.vi t.c2 t.rm fun y hy => hy
  | @kept h T1 M1 M2 h1 h2 =>
    obtain ⟨v1, s1⟩ := h1.end_ t.c1 (t.vi h)
    obtain ⟨v2, s2, d⟩ := h2.vi t.c2 v1 s1
    have : M2 = m := rise_eq v2.leaf.ris t.rm fun y => ⟨s2 y, fun hy => by
      obtain ⟨j, hj, rfl⟩ := List.mem_iff_getElem.1 hy
      exact d j hj hj⟩
    rw [← this]; exact v2
theorem to_ok {Q : Int → List Br → Bool → Prop} (t : Ts r T M m x fan) (h : ∀ L b, ToR r T M m x fan L b → Q r L b) : repair_To_W r T m x (fan : Int) Q := by
  have c1 := t.c1; have c2 := t.c2
  have lT := t.good.few; have lx := c1.lx; have lM := c1.lu; have lm := c2.lu; have f1 := c1.f1; have f2 := c1.f2
  refine held_ok (by omega) (by omega) (fun hh => ⟨fun q => (by cases q), fun _ => leaves_ok (by omega) fun lv hlv => ?_⟩) fun hh => ⟨fun _ => makeT_ok (c2.all t.rm fun y hy => hy) t.rm (by omega) (by omega) fun L hL => h L _ (.anew hh hL), fun q => by cases q⟩
  have v := t.vi hh
  obtain rfl := hlv.uniq t.leaf
  refine loop_by (fun s => s.2.2) lv.length (fun i s => s.1 = r ∧ ∃ M1, Lvs r m x fan T lv i s.2.1 M1) rfl ⟨rfl, _, .zero⟩ ?_
  rintro K i ⟨_, T1, _⟩ rfl hi ⟨e, M1, hL⟩ hK
  simp only at e hi hL
  replace e := e.symm; subst e
  obtain ⟨v1, s1, _, e1⟩ := hL.vi c1 v
  have hf1 := v1.few c1 s1
  show repair_To_l1 _ _ _ _ _ _ _ T1 (i : Int)
  unfold repair_To_l1
  refine ⟨fun cc => ?_, fun cc => ?_⟩
  · have hlt : i < lv.length := by omega
    rw [gi_nat hlt]
    refine ⟨by omega, contains_I (by omega) ⟨fun q => ?_, fun q => ⟨by unfold I64; omega, hK (i + 1) _ rfl (by omega) (by omega) ⟨rfl, M1, hL.keep hlt (by simpa using q)⟩⟩⟩⟩
    have q2 : lv[i] ∉ m := by simpa using q
    exact leave_ok c1 v1 s1 (e1 i hlt (Nat.le_refl _)) fun L hl => ⟨by unfold I64; omega, hK (i + 1) _ rfl (by omega) (by omega) ⟨rfl, _, hL.cut hlt q2 hl⟩⟩
  · have : i = lv.length := by omega
    subst this
    obtain ⟨v1, s1⟩ := hL.end_ c1 v
    refine loop_by (fun s => s.2.2) m.length (fun i s => s.1 = r ∧ ∃ M2, Jns r m x fan T1 M1 i s.2.1 M2) rfl ⟨rfl, _, .zero⟩ ?_
    rintro K2 k ⟨_, T2, _⟩ rfl hk ⟨e, M2, hJ⟩ hK2
    simp only at e hk hJ
    replace e := e.symm; subst e
    obtain ⟨v2, s2, _⟩ := hJ.vi c2 v1 s1
    have hf2 := v2.few c2 s2
    show repair_To_l2 _ _ _ _ _ _ T2 (k : Int)
    unfold repair_To_l2
    refine ⟨fun cc => ?_, fun cc => ?_⟩
    · have hlt : k < m.length := by omega
      rw [gi_nat hlt]
      refine ⟨by omega, hasT_ok (by omega) ?_⟩
      rw [v2.hasM c2 s2 (List.getElem_mem hlt)]
      refine ⟨fun q => ?_, fun q => ⟨by unfold I64; omega, hK2 (k + 1) _ rfl (by omega) (by omega) ⟨rfl, M2, hJ.keep hlt (by simpa using q)⟩⟩⟩
      have q2 : m[k] ∉ M2 := by simpa using q
      exact join_ok c2 v2 s2 (List.getElem_mem hlt) q2 fun L hl => ⟨by unfold I64; omega, hK2 (k + 1) _ rfl (by omega) (by omega) ⟨rfl, _, hJ.join hlt q2 hl⟩⟩
    · have : k = m.length := by omega
      subst this
      exact clone_Br (by omega) (pofS_ok v2.good (h T2 _ (.kept hh hL hJ)))
theorem rto_ok {Q : Int → List Br → Bool → Prop} (t : Ts r T M m x fan) (h : ∀ L b, ToR r T M m x fan L b → Q r L b) : ref34_To_W r T m x (fan : Int) Q := by
  have c1 := t.c1; have c2 := t.c2
  have lT := t.good.few; have lx := c1.lx; have lM := c1.lu; have lm := c2.lu; have f1 := c1.f1; have f2 := c1.f2
  have mk : ¬ HeldP r T x fan → ref33_Make_W r m x (fan : Int) (fun a b => Q a b false) := fun hh => refMakeT_ok t.rm (by omega) (by omega) fun L hL => h L _ (.anew hh hL)
  refine rstar_ok (by omega) t.good.toGd0 (fun st => ⟨fun _ => mk fun q => q.1 st, fun q => by cases q⟩) fun st => ⟨fun q => (by cases q), fun _ => ?_⟩
  refine loop_up1 T.length (fun i => ∀ e ∈ T.take i, e.1 = r ∨ e.1 ∈ x) (by simp) fun K0 i0 hi0 hI hK0 => ?_
  unfold ref34_To_l1
  refine ⟨fun cc => ?_, fun cc => ?_⟩
  · have hlt : i0 < T.length := by omega
    have ne : (T[i0].1 = r ∨ T[i0].1 ∈ x) → K0 ((i0 : Int) + 1) := fun q => hK0 (i0 + 1) (by omega) (by omega) fun e he => by
      rw [List.take_succ_eq_append_getElem hlt] at he
      rcases List.mem_append.1 he with he | he
      · exact hI e he
      · rw [List.mem_singleton] at he; rw [he]; exact q
    rw [gi_nat hlt]
    refine ⟨by omega, fun q => has_ok (by omega) ⟨fun q2 => mk fun hh => ?_, fun q2 => ⟨by unfold I64; omega, ne (.inr (by simpa using q2))⟩⟩, fun q => ⟨fun q2 => (by cases q2), fun _ => ⟨by unfold I64; omega, ne (.inl q)⟩⟩⟩
    rcases hh.2 _ (List.getElem_mem hlt) with p | p
    · exact q p
    · simp [p] at q2
  have hI : ∀ e ∈ T, e.1 = r ∨ e.1 ∈ x := by rwa [List.take_of_length_le (by omega)] at hI
  have hh : HeldP r T x fan := ⟨st, hI⟩
  have v := t.vi hh
  refine refLeaves_ok (by omega) fun lv hlv => ?_
  obtain rfl := hlv.uniq t.leaf
  refine loop_by (fun s => s.2.2) lv.length (fun i s => s.1 = r ∧ ∃ M1, Lvs r m x fan T lv i s.2.1 M1) rfl ⟨rfl, _, .zero⟩ ?_
  rintro K i ⟨_, T1, _⟩ rfl hi ⟨e, M1, hL⟩ hK
  simp only at e hi hL
  replace e := e.symm; subst e
  obtain ⟨v1, s1, _, e1⟩ := hL.vi c1 v
  show ref34_To_l2 _ _ _ _ _ _ _ T1 (i : Int)
  unfold ref34_To_l2
  refine ⟨fun cc => ?_, fun cc => ?_⟩
  · have hlt : i < lv.length := by omega
    rw [gi_nat hlt]
    refine ⟨by omega, has_ok (by omega) ⟨fun q => ?_, fun q => ⟨by unfold I64; omega, hK (i + 1) _ rfl (by omega) (by omega) ⟨rfl, M1, hL.keep hlt (by simpa using q)⟩⟩⟩⟩
    have q2 : lv[i] ∉ m := by simpa using q
    exact rleave_ok c1 v1 s1 (e1 i hlt (Nat.le_refl _)) fun L hl => ⟨by unfold I64; omega, hK (i + 1) _ rfl (by omega) (by omega) ⟨rfl, _, hL.cut hlt q2 hl⟩⟩
  · have : i = lv.length := by omega
    subst this
    obtain ⟨v1, s1⟩ := hL.end_ c1 v
    refine loop_by (fun s => s.2.2) m.length (fun i s => s.1 = r ∧ ∃ M2, Jns r m x fan T1 M1 i s.2.1 M2) rfl ⟨rfl, _, .zero⟩ ?_
    rintro K2 k ⟨_, T2, _⟩ rfl hk ⟨e, M2, hJ⟩ hK2
    simp only at e hk hJ
    replace e := e.symm; subst e
    obtain ⟨v2, s2, _⟩ := hJ.vi c2 v1 s1
    have hf2 := v2.few c2 s2
    show ref34_To_l3 _ _ _ _ _ _ T2 (k : Int)
    unfold ref34_To_l3
    refine ⟨fun cc => ?_, fun cc => ?_⟩
    · have hlt : k < m.length := by omega
      rw [gi_nat hlt]
      refine ⟨by omega, nodes_ok (by omega) fun N hN hR => has_ok (by have := hR.len_le; omega) ?_⟩
      have eN : decide (m[k] ∈ N) = decide (m[k] ∈ M2) := by
        rw [← v2.hasM c2 s2 (List.getElem_mem hlt), Bool.eq_iff_iff, decide_eq_true_eq, hasB_iff v2.good.toGd0, hR.mem]
      rw [eN]
      refine ⟨fun q => ?_, fun q => ⟨by unfold I64; omega, hK2 (k + 1) _ rfl (by omega) (by omega) ⟨rfl, M2, hJ.keep hlt (by simpa using q)⟩⟩⟩
      have q2 : m[k] ∉ M2 := by simpa using q
      exact rjoin_ok c2 v2 s2 (List.getElem_mem hlt) q2 fun L hl => ⟨by unfold I64; omega, hK2 (k + 1) _ rfl (by omega) (by omega) ⟨rfl, _, hJ.join hlt q2 hl⟩⟩
    · have : k = m.length := by omega
      subst this
      exact h T2 _ (.kept hh hL hJ)
end
theorem repairTo_ok {ar af br bf : Int} {am sv bm bs : List Int} {Q : Bool → Prop} (ha : 0 ≤ af ∧ af < 256) (hb : 0 ≤ bf ∧ bf < 256) (h : Q true) : law34_RepairTo_W ar am sv af br bm bs bf Q := by
  refine own_ok ha fun M s k a => own_ok hb fun m v k2 b => turned_ok (by have := a.ls; omega) ha fun s' hs' => ?_
  have lM := a.lm; have ls := a.ls; have lm := b.lm; have lv := b.ls; have hk := a.fan; have hsl := hs'.length_eq
  refine refMakeT_ok a.rm (by omega) (by omega) fun T hT => ?_
  have good := hT.good (a.nd hs') a.rm (by omega) hk.1
  have leaf := hT.leaf (a.nd hs') a.rm hk.1
  have few := good.few
  refine loop_up1 M.length (fun i => ∀ y ∈ M.take i, y ∉ v) (by simp) fun K i hi hI hK => ?_
  unfold law34_RepairTo_l1
  refine ⟨fun cc => ?_, fun cc => ?_⟩
  · have hlt : i < M.length := by omega
    rw [gi_nat hlt]
    refine ⟨by omega, has_ok (by omega) ⟨fun _ => lives34_ok h, fun q => ⟨by unfold I64; omega, hK (i + 1) (by omega) (by omega) fun y hy => ?_⟩⟩⟩
    rw [List.take_succ_eq_append_getElem hlt] at hy
    rcases List.mem_append.1 hy with hy | hy
    · exact hI y hy
    · rw [List.mem_singleton] at hy; rw [hy]; simpa using q
  rw [List.take_of_length_le (by omega)] at hI
  refine loop_up1 m.length (fun _ => True) trivial fun K2 i2 hi2 _ hK2 => ?_
  unfold law34_RepairTo_l2
  refine ⟨fun cc => ?_, fun cc => ?_⟩
  · have hlt : i2 < m.length := by omega
    rw [gi_nat hlt]
    exact ⟨by omega, has_ok (by omega) ⟨fun _ => lives34_ok h, fun q => ⟨by unfold I64; omega, hK2 (i2 + 1) (by omega) (by omega) trivial⟩⟩⟩
  refine turned_ok (by omega) hb fun x hx => own34_ok (by omega) (copied34_ok (by omega) (copied34_ok (by have := hx.length_eq; omega) ?_))
  have hxl := hx.length_eq
  have t : Ts ar T M m x k := ⟨good, leaf,
    ⟨hx.nodup_iff.2 (rise_nodup b.rs), fun q => b.ns (hx.mem_iff.1 q), a.nm, fun y hy q => hI y q (hx.mem_iff.1 hy), by omega, lM, hk.1, hk.2⟩,
    ⟨hx.nodup_iff.2 (rise_nodup b.rs), fun q => b.ns (hx.mem_iff.1 q), b.nm, fun y hy q => b.off y (hx.mem_iff.1 hy) q, by omega, lm, hk.1, hk.2⟩, b.rm⟩
  refine to_ok t fun L1 b1 r1 => rto_ok t fun L2 b2 r2 => ?_
  obtain ⟨rfl, rfl⟩ := r1.uniq r2
  have vi := r1.vi t
  have hfew := vi.few t.c2 fun y hy => hy
  refine refSame_ok (by omega) ⟨fun _ => ⟨fun _ => refValid_ok (by omega) (by omega) (by omega) (by omega) fun bb hbb => ?_, fun c => by simp at c⟩, fun c => by simp at c⟩
  rw [hbb.2 (vi.valid b.rs hx)]
  exact ⟨fun _ => lives34_ok h, fun c => by cases c⟩
end Go.Wk
