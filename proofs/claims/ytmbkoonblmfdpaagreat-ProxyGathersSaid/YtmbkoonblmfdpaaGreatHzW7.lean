/- Walks of Host and Proxy. -/
import Derived.Test.YtmbkoonblmfdpaaGreatHzW6
set_option linter.unusedSimpArgs false
set_option linter.unusedVariables false
set_option linter.unusedSectionVars false
set_option maxHeartbeats 40000000
set_option maxRecDepth 100000
namespace Go.Wk
open Go.HL
open Go.Proofs hiding encI
variable [DM]
def ref24_Gather_j2 (l : List T_api_Want) (out_1 : List T_api_Want) (i_1 : Int) (K_1 : (List T_api_Want) → Int → Prop) (x_17_1 : Bool) (x_18_1 : List T_api_Addr) (n_1 : Int) : Prop :=
 ∀ vx_18_1 : Value, (((0 : Int) ≤ n_1 ∧ n_1 ≤ (out_1.length : Int)) ∧ (((0 : Int) ≤ 0 ∧ 0 ≤ n_1 ∧ n_1 ≤ (out_1.length : Int)) ∧ (((([] : List T_api_Want).length + (cut out_1 0 n_1).length) * 56 ≤ 140737488355328) ∧ ((((([] : List T_api_Want) ++ (cut out_1 0 n_1)).length + ([(((gi l i_1).1), (x_17_1, (vx_18_1, x_18_1)))] : List T_api_Want).length) * 56 ≤ 140737488355328) ∧ (((0 : Int) ≤ n_1 ∧ n_1 ≤ (out_1.length : Int) ∧ (out_1.length : Int) ≤ (out_1.length : Int)) ∧ (((((([] : List T_api_Want) ++ (cut out_1 0 n_1)) ++ ([(((gi l i_1).1), (x_17_1, (vx_18_1, x_18_1)))] : List T_api_Want)).length + (cut out_1 n_1 (out_1.length : Int)).length) * 56 ≤ 140737488355328) ∧ ((I64 (i_1 + 1)) ∧ (K_1 (((([] : List T_api_Want) ++ (cut out_1 0 n_1)) ++ ([(((gi l i_1).1), (x_17_1, (vx_18_1, x_18_1)))] : List T_api_Want)) ++ (cut out_1 n_1 (out_1.length : Int))) (i_1 + 1)))))))))
def ref24_Gather_l4 (l : List T_api_Want) (out_1 : List T_api_Want) (i_1 : Int) (K_1 : (List T_api_Want) → Int → Prop) (x_17_1 : Bool) (x_18_1 : List T_api_Addr) (K_3 : Int → Prop) (n_2 : Int) : Prop :=
 (n_2 < (out_1.length : Int) → ((0 : Int) ≤ n_2 ∧ n_2 < (out_1.length : Int)) ∧ (ref03_Cmp_W ((gi out_1 n_2).1) ((gi l i_1).1) (fun r_3 => (r_3 < 0 → (I64 (n_2 + 1)) ∧ (K_3 (n_2 + 1))) ∧ (¬ (r_3 < 0) → ref24_Gather_j2 l out_1 i_1 K_1 x_17_1 x_18_1 n_2)))) ∧ (¬ (n_2 < (out_1.length : Int)) → ref24_Gather_j2 l out_1 i_1 K_1 x_17_1 x_18_1 n_2)
def ref24_Gather_j1 (l : List T_api_Want) (out_1 : List T_api_Want) (i_1 : Int) (K_1 : (List T_api_Want) → Int → Prop) (x_17_1 : Bool) (x_18_1 : List T_api_Addr) : Prop :=
 loopW (fun (K_3 : Int → Prop) (s : Int) => ref24_Gather_l4 l out_1 i_1 K_1 x_17_1 x_18_1 K_3 s) 0
def ref24_Gather_l3 (l : List T_api_Want) (out_1 : List T_api_Want) (i_1 : Int) (K_1 : (List T_api_Want) → Int → Prop) (K_2 : (List T_api_Filter) → Int → Prop) (l_2 : List T_api_Filter) (k_1 : Int) : Prop :=
 (k_1 < (l.length : Int) → ((0 : Int) ≤ k_1 ∧ k_1 < (l.length : Int)) ∧ (((0 : Int) ≤ i_1 ∧ i_1 < (l.length : Int)) ∧ (((((gi l k_1).1) : T_api_Addr) = ((gi l i_1).1) → ((l_2.length + ([(((gi l k_1).2).1, (((gi l k_1).2).2))] : List T_api_Filter).length) * 32 ≤ 140737488355328) ∧ ((I64 (k_1 + 1)) ∧ (K_2 (l_2 ++ ([(((gi l k_1).2).1, (((gi l k_1).2).2))] : List T_api_Filter)) (k_1 + 1)))) ∧ (¬ ((((gi l k_1).1) : T_api_Addr) = ((gi l i_1).1)) → (I64 (k_1 + 1)) ∧ (K_2 l_2 (k_1 + 1)))))) ∧ (¬ (k_1 < (l.length : Int)) → ((0 : Int) ≤ i_1 ∧ i_1 < (l.length : Int)) ∧ (ref19_All_W l_2 (fun r_0_1 r_1_1 => ref24_Gather_j1 l out_1 i_1 K_1 r_0_1 r_1_1)))
def ref24_Gather_l5 (Q : (List T_api_Want) → Prop) (out_1 : List T_api_Want) (K_4 : (List T_api_Want) → Int → Prop) (some_1 : List T_api_Want) (i_2 : Int) : Prop :=
 (i_2 < (out_1.length : Int) → ((0 : Int) ≤ i_2 ∧ i_2 < (out_1.length : Int)) ∧ (ref19_None_W (((gi out_1 i_2).2).1) ((((gi out_1 i_2).2).2).2) (fun r_4 => ((!r_4) = true → ((some_1.length + ([(((gi out_1 i_2).1), (((gi out_1 i_2).2).1, (((gi out_1 i_2).2).2)))] : List T_api_Want).length) * 56 ≤ 140737488355328) ∧ ((I64 (i_2 + 1)) ∧ (K_4 (some_1 ++ ([(((gi out_1 i_2).1), (((gi out_1 i_2).2).1, (((gi out_1 i_2).2).2)))] : List T_api_Want)) (i_2 + 1)))) ∧ ((!r_4) = false → (I64 (i_2 + 1)) ∧ (K_4 some_1 (i_2 + 1)))))) ∧ (¬ (i_2 < (out_1.length : Int)) → Q some_1)
def ref24_Gather_l1 (l : List T_api_Want) (Q : (List T_api_Want) → Prop) (K_1 : (List T_api_Want) → Int → Prop) (out_1 : List T_api_Want) (i_1 : Int) : Prop :=
 (i_1 < (l.length : Int) → ((0 : Int) ≤ i_1 ∧ i_1 < (l.length : Int)) ∧ (ref24_find_W out_1 ((gi l i_1).1) (fun r_2 => (0 ≤ r_2 → (I64 (i_1 + 1)) ∧ (K_1 out_1 (i_1 + 1))) ∧ (¬ (0 ≤ r_2) → loopW (fun (K_2 : (List T_api_Filter × Int) → Prop) (s : List T_api_Filter × Int) => ref24_Gather_l3 l out_1 i_1 K_1 (fun l_2 k_1 => K_2 (l_2, k_1)) s.1 s.2) ([], i_1))))) ∧ (¬ (i_1 < (l.length : Int)) → loopW (fun (K_4 : (List T_api_Want × Int) → Prop) (s : List T_api_Want × Int) => ref24_Gather_l5 Q out_1 (fun some_1 i_2 => K_4 (some_1, i_2)) s.1 s.2) ([], 0))
def ref24_Gather_W (l : List T_api_Want) (Q : (List T_api_Want) → Prop) : Prop :=
 loopW (fun (K_1 : (List T_api_Want × Int) → Prop) (s : List T_api_Want × Int) => ref24_Gather_l1 l Q (fun out_1 i_1 => K_1 (out_1, i_1)) s.1 s.2) ([], 0)
theorem ref24_Gather_walk {F : Fz} {fr : List Ow} {h0 : Heap} (l : List T_api_Want) (vl : Value) (hS : St F (fr) h0) (hN_l : NfL nf_api_Want F h0 l) (hL_l : SliceF F h0 19 e_api_Want vl l) {Q : (List T_api_Want) → Prop} (hM : ref24_Gather_W l Q) :
  HC Tryz.prog 31 #[vl] h0 fun u h' => ∃ (F' : Fz) (r_1 : List T_api_Want) (vr_1 : Value), u = vr_1 ∧ Kp F h0 F' h' ∧ St F' (Ow.own 77 19 e_api_Want vr_1 r_1 :: fr) h' ∧ (NfL nf_api_Want F' h' l) ∧ (SliceF F' h' 19 e_api_Want vl l) ∧ (NfL nf_api_Want F' h' r_1) ∧ Q r_1 := by
 unfold ref24_Gather_W at hM
 have hK := Kp.refl F h0
 refine HC.of_HW (n := 112) Tryz.func31 rfl rfl (Nat.le_of_ble_eq_true rfl) ?_
 refine HW.seq ?_
 refine HW.region ?_
 refine oA (.slice none 0 0) rfl rfl ?_
 refine HO.nil (thenQ_normal (?_))
 refine HW.seq ?_
 refine HW.region ?_
 refine HO.eff (want_none) rfl (st_litEmpty (α := T_api_Want) e_api_Want hS tl_71) ?_
 rintro _ h_1 ⟨b_1, rfl, hS, hk⟩
 replace hK := hK.trans hk
 replace hN_l := hN_l.kp hk
 replace hL_l := hL_l.kp hk
 have hN_2 : NfL nf_api_Want F h_1 ([] : List T_api_Want) := NfL.nil _ _ _
 refine oA (.slice (some ⟨b_1, 0, none⟩) 0 0) rfl rfl ?_
 refine HO.nil (thenQ_normal (?_))
 refine HW.seq ?_
 refine HW.seq ?_
 refine HW.region ?_
 refine oA (.int .i64 0) rfl rfl ?_
 refine HO.nil (thenQ_normal (?_))
 refine HW.block ?_
 obtain ⟨I_1, m_1, hI_1, hR_1⟩ := hM
 refine HW.loop (S := List T_api_Want × Int) (fun s f h => match s with | (out_1, i_1) => ∃ (F' : Fz) (vout_1 : Value), f 0 = vl ∧ f 2 = .slice none 0 0 ∧ f 3 = vout_1 ∧ f 4 = .int .i64 i_1 ∧ Kp F h0 F' h ∧ St F' (Ow.own 77 19 e_api_Want vout_1 out_1 :: fr) h ∧ (NfL nf_api_Want F' h l) ∧ (SliceF F' h 19 e_api_Want vl l) ∧ (NfL nf_api_Want F' h ([] : List T_api_Want)) ∧ (NfL nf_api_Want F' h out_1) ∧ I_1 (out_1, i_1)) m_1 ([], 0) ⟨F, .slice (some ⟨b_1, 0, none⟩) 0 0, rfl, rfl, rfl, rfl, hK, hS, hN_l, hL_l, hN_2, hN_2, hI_1⟩ ?_
 rintro ⟨out_1, i_1⟩ f_1 h_2 ⟨F_1, vout_1, e0, e2, e3, e4, hK, hS, hN_l, hL_l, hN_2, hN_3, hI0⟩
 obtain ⟨K_1, hKe_1⟩ : ∃ K : (List T_api_Want) → Int → Prop, K = fun out_1' i_1' => I_1 (out_1', i_1') ∧ m_1 (out_1', i_1') < m_1 (out_1, i_1) := ⟨_, rfl⟩
 have hM : ref24_Gather_l1 l Q K_1 out_1 i_1 := by rw [hKe_1]; exact hR_1 (out_1, i_1) hI0
 unfold ref24_Gather_l1 at hM
 refine HW.fr [(0, vl), (2, .slice none 0 0), (3, vout_1), (4, .int .i64 i_1)] ⟨e0, e2, e3, e4, trivial⟩ ?_
 refine HW.seq ?_
 refine HW.seq ?_
 refine HW.region ?_
 refine oM (.int .i64 i_1) rfl rfl ?_
 refine oM (vl) rfl rfl ?_
 refine oV (.int .i64 (l.length : Int)) (q_len ts_71 (shp hL_l.is) rfl rfl) rfl ?_
 refine oV (.bool (decide (i_1 < (l.length : Int)))) (q_lss rfl rfl) rfl ?_
 refine HO.nil (thenQ_normal (?_))
 refine HW.cond (decide (i_1 < (l.length : Int))) rfl (fun c_1 => ?_) (fun c_1 => ?_)
 ·
  replace hM := hM.1 (of_decide_eq_true c_1)
  refine HW.skip (thenQ_normal (?_))
  refine HW.seq ?_
  refine HW.block ?_
  refine HW.seq ?_
  refine HW.seq ?_
  refine HW.region ?_
  refine oM (vout_1) rfl rfl ?_
  refine oM (vl) rfl rfl ?_
  refine oM (.int .i64 i_1) rfl rfl ?_
  obtain ⟨ho_1, hM⟩ := hM
  refine oV (elemPtr 19 vl (i_1).toNat) (q_idx ts_71 hL_l.is rfl rfl ho_1) rfl ?_
  refine oV (fieldPtr 19 vl (i_1).toNat 0) (q_fldElem fa_77_0 hL_l.is rfl ho_1) rfl ?_
  refine oV (.agg (e_api_Addr ((gi l i_1).1)).toArray) (q_ldFieldAgg (n := 17) (cs := (e_api_Addr ((gi l i_1).1))) ta_28 hL_l.is rfl ho_1 (by decide) rfl) rfl ?_
  replace hS : St F_1 (Ow.own 77 19 e_api_Want vout_1 out_1 :: fr) h_2 := hS
  have hZ_1 := hS
  have hkz_1 := (hS.freeze).2
  replace hS := hS.freeze.1
  have hL_1 : SliceF (fun bz_ => F_1 bz_ ∨ (Ow.own 77 19 e_api_Want vout_1 out_1).foot bz_) h_2 19 e_api_Want vout_1 out_1 := ⟨(hZ_1.own 0 rfl).slice, fun _ b hb => .inr hb⟩
  refine HO.call (want_none) rfl (ec en_78 rfl rfl) (ref24_find_walk (fr := (fr)) out_1 ((gi l i_1).1) vout_1 hS (NfL.kp hN_3 hkz_1) hL_1 hM) ?_
  rintro _ h_3 ⟨F_2, r_2, rfl, hk, hS, _, _, hM⟩
  obtain ⟨hS, hk⟩ := hZ_1.back hk hS
  generalize (fun bz_ => F_2 bz_ ∧ ¬ (Ow.own 77 19 e_api_Want vout_1 out_1).foot bz_) = F_3 at hS hk
  replace hK := hK.trans hk
  replace hN_l := hN_l.kp hk
  replace hL_l := hL_l.kp hk
  replace hN_2 := hN_2.kp hk
  replace hN_3 := hN_3.kp hk
  refine oV (.bool (decide (0 ≤ r_2))) (q_geq rfl rfl) rfl ?_
  refine HO.nil (thenQ_normal (?_))
  refine HW.cond (decide (0 ≤ r_2)) rfl (fun c_2 => ?_) (fun c_2 => ?_)
  ·
   replace hM := hM.1 (of_decide_eq_true c_2)
   refine HW.exit (thenQ_exit (blockQ_exit (thenQ_normal (?_))))
   refine HW.region ?_
   refine oM (.int .i64 i_1) rfl rfl ?_
   obtain ⟨ho_2, hM⟩ := hM
   refine oV (.int .i64 (i_1 + 1)) (q_addN _ rfl rfl rfl ho_2.1 ho_2.2) rfl ?_
   refine oA (.int .i64 (i_1 + 1)) rfl rfl ?_
   refine HO.nil (thenQ_normal (?_))
   rw [hKe_1] at hM
   exact ⟨(out_1, i_1 + 1), ⟨F_3, vout_1, rfl, rfl, rfl, rfl, hK, hS, hN_l, hL_l, hN_2, hN_3, hM.1⟩, hM.2⟩
  ·
   replace hM := hM.2 (of_decide_eq_false c_2)
   refine HW.skip (thenQ_normal (?_))
   refine HW.seq ?_
   refine HW.region ?_
   refine HO.eff (want_none) rfl (st_litEmpty (α := T_api_Filter) e_api_Filter hS tl_133) ?_
   rintro _ h_4 ⟨b_2, rfl, hS, hk⟩
   replace hK := hK.trans hk
   replace hN_l := hN_l.kp hk
   replace hL_l := hL_l.kp hk
   replace hN_2 := hN_2.kp hk
   replace hN_3 := hN_3.kp hk
   have hN_4 : NfL nf_api_Filter F_3 h_4 ([] : List T_api_Filter) := NfL.nil _ _ _
   refine oA (.slice (some ⟨b_2, 0, none⟩) 0 0) rfl rfl ?_
   refine HO.nil (thenQ_normal (?_))
   refine HW.seq ?_
   refine HW.seq ?_
   refine HW.region ?_
   refine oM (.int .i64 i_1) rfl rfl ?_
   refine oA (.int .i64 i_1) rfl rfl ?_
   refine HO.nil (thenQ_normal (?_))
   refine HW.block ?_
   obtain ⟨I_2, m_2, hI_2, hR_2⟩ := hM
   replace hS : St F_3 (Ow.own 77 19 e_api_Want vout_1 out_1 :: Ow.own 50 2 e_api_Filter (.slice (some ⟨b_2, 0, none⟩) 0 0) ([] : List T_api_Filter) :: fr) h_4 := hS.perm2 [1, 0] 2 rfl rfl
   refine HW.loop (S := List T_api_Filter × Int) (fun s f h => match s with | (l_2, k_1) => ∃ (F' : Fz) (v_1 : Value), f 0 = vl ∧ f 2 = .slice none 0 0 ∧ f 3 = vout_1 ∧ f 4 = .int .i64 i_1 ∧ f 5 = v_1 ∧ f 6 = .int .i64 k_1 ∧ Kp F h0 F' h ∧ St F' (Ow.own 77 19 e_api_Want vout_1 out_1 :: Ow.own 50 2 e_api_Filter v_1 l_2 :: fr) h ∧ (NfL nf_api_Want F' h l) ∧ (SliceF F' h 19 e_api_Want vl l) ∧ (NfL nf_api_Want F' h ([] : List T_api_Want)) ∧ (NfL nf_api_Want F' h out_1) ∧ (NfL nf_api_Filter F' h ([] : List T_api_Filter)) ∧ (NfL nf_api_Filter F' h l_2) ∧ I_2 (l_2, k_1)) m_2 ([], i_1) ⟨F_3, .slice (some ⟨b_2, 0, none⟩) 0 0, rfl, rfl, rfl, rfl, rfl, rfl, hK, hS, hN_l, hL_l, hN_2, hN_3, hN_4, hN_4, hI_2⟩ ?_
   rintro ⟨l_2, k_1⟩ f_2 h_5 ⟨F_4, v_1, e0, e2, e3, e4, e5, e6, hK, hS, hN_l, hL_l, hN_2, hN_3, hN_4, hN_5, hI0⟩
   obtain ⟨K_2, hKe_2⟩ : ∃ K : (List T_api_Filter) → Int → Prop, K = fun l_2' k_1' => I_2 (l_2', k_1') ∧ m_2 (l_2', k_1') < m_2 (l_2, k_1) := ⟨_, rfl⟩
   have hM : ref24_Gather_l3 l out_1 i_1 K_1 K_2 l_2 k_1 := by rw [hKe_2]; exact hR_2 (l_2, k_1) hI0
   unfold ref24_Gather_l3 at hM
   refine HW.fr [(0, vl), (2, .slice none 0 0), (3, vout_1), (4, .int .i64 i_1), (5, v_1), (6, .int .i64 k_1)] ⟨e0, e2, e3, e4, e5, e6, trivial⟩ ?_
   refine HW.seq ?_
   refine HW.seq ?_
   refine HW.region ?_
   refine oM (.int .i64 k_1) rfl rfl ?_
   refine oM (vl) rfl rfl ?_
   refine oV (.int .i64 (l.length : Int)) (q_len ts_71 (shp hL_l.is) rfl rfl) rfl ?_
   refine oV (.bool (decide (k_1 < (l.length : Int)))) (q_lss rfl rfl) rfl ?_
   refine HO.nil (thenQ_normal (?_))
   refine HW.cond (decide (k_1 < (l.length : Int))) rfl (fun c_3 => ?_) (fun c_3 => ?_)
   ·
    replace hM := hM.1 (of_decide_eq_true c_3)
    refine HW.skip (thenQ_normal (?_))
    refine HW.seq ?_
    refine HW.block ?_
    refine HW.seq ?_
    refine HW.regionA 11 mixed (fun h => (NfI nf_api_Want h l) ∧ (SliceIs h 19 e_api_Want vl l) ∧ (NfI nf_api_Want h ([] : List T_api_Want)) ∧ (NfI nf_api_Want h out_1) ∧ (NfI nf_api_Filter h ([] : List T_api_Filter)) ∧ (NfI nf_api_Filter h l_2) ∧ (OwnIs h 0 77 19 e_api_Want vout_1 out_1) ∧ (OwnIs h 0 50 2 e_api_Filter v_1 l_2)) [] (by kernel_rfl) ?_
    refine HA.val (k := 0) (v := vl) rfl rfl (by kernel_rfl) (by kernel_rfl) (want_none) rfl (fun _ ⟨hN_l, hL_l, hN_2, hN_3, hN_4, hN_5, c405, c406⟩ => q_move rfl) ?_
    refine HA.val (k := 1) (v := .int .i64 k_1) rfl rfl (by kernel_rfl) (by kernel_rfl) (want_none) rfl (fun _ ⟨hN_l, hL_l, hN_2, hN_3, hN_4, hN_5, c405, c406⟩ => q_move rfl) ?_
    obtain ⟨ho_3, hM⟩ := hM
    refine HA.val (k := 2) (v := elemPtr 19 vl (k_1).toNat) rfl rfl (by kernel_rfl) (by kernel_rfl) (want_none) rfl (fun _ ⟨hN_l, hL_l, hN_2, hN_3, hN_4, hN_5, c405, c406⟩ => q_idx ts_71 hL_l rfl rfl ho_3) ?_
    refine HA.val (k := 3) (v := fieldPtr 19 vl (k_1).toNat 0) rfl rfl (by kernel_rfl) (by kernel_rfl) (want_none) rfl (fun _ ⟨hN_l, hL_l, hN_2, hN_3, hN_4, hN_5, c405, c406⟩ => q_fldElem fa_77_0 hL_l rfl ho_3) ?_
    refine HA.val (k := 4) (v := .agg (e_api_Addr ((gi l k_1).1)).toArray) rfl rfl (by kernel_rfl) (by kernel_rfl) (want_none) rfl (fun _ ⟨hN_l, hL_l, hN_2, hN_3, hN_4, hN_5, c405, c406⟩ => q_ldFieldAgg (n := 17) (cs := (e_api_Addr ((gi l k_1).1))) ta_28 hL_l rfl ho_3 (by decide) rfl) ?_
    refine HA.val (k := 5) (v := vl) rfl rfl (by kernel_rfl) (by kernel_rfl) (want_none) rfl (fun _ ⟨hN_l, hL_l, hN_2, hN_3, hN_4, hN_5, c405, c406⟩ => q_move rfl) ?_
    refine HA.val (k := 6) (v := .int .i64 i_1) rfl rfl (by kernel_rfl) (by kernel_rfl) (want_none) rfl (fun _ ⟨hN_l, hL_l, hN_2, hN_3, hN_4, hN_5, c405, c406⟩ => q_move rfl) ?_
    obtain ⟨ho_4, hM⟩ := hM
    refine HA.val (k := 7) (v := elemPtr 19 vl (i_1).toNat) rfl rfl (by kernel_rfl) (by kernel_rfl) (want_none) rfl (fun _ ⟨hN_l, hL_l, hN_2, hN_3, hN_4, hN_5, c405, c406⟩ => q_idx ts_71 hL_l rfl rfl ho_4) ?_
    refine HA.val (k := 8) (v := fieldPtr 19 vl (i_1).toNat 0) rfl rfl (by kernel_rfl) (by kernel_rfl) (want_none) rfl (fun _ ⟨hN_l, hL_l, hN_2, hN_3, hN_4, hN_5, c405, c406⟩ => q_fldElem fa_77_0 hL_l rfl ho_4) ?_
    refine HA.val (k := 9) (v := .agg (e_api_Addr ((gi l i_1).1)).toArray) rfl rfl (by kernel_rfl) (by kernel_rfl) (want_none) rfl (fun _ ⟨hN_l, hL_l, hN_2, hN_3, hN_4, hN_5, c405, c406⟩ => q_ldFieldAgg (n := 17) (cs := (e_api_Addr ((gi l i_1).1))) ta_28 hL_l rfl ho_4 (by decide) rfl) ?_
    refine HA.val (k := 10) (v := .bool (decide ((((gi l k_1).1) : T_api_Addr) = ((gi l i_1).1)))) rfl rfl (by kernel_rfl) (by kernel_rfl) (want_none) rfl (fun _ ⟨hN_l, hL_l, hN_2, hN_3, hN_4, hN_5, c405, c406⟩ => q_eqlAgg (a := ((gi l k_1).1)) (b := ((gi l i_1).1)) (fun a b w => teq_28 9997 a b w) (by kernel_rfl) rfl rfl rfl rfl) ?_
    refine HA.nil ⟨⟨hN_l.is, hL_l.is, hN_2.is, hN_3.is, hN_4.is, hN_5.is, (hS.own 0 rfl), (hS.own 1 rfl)⟩, (Go.Wk.at_nil _ _)⟩ (by kernel_rfl) (thenQ_normal (?_))
    refine HW.cond (decide ((((gi l k_1).1) : T_api_Addr) = ((gi l i_1).1))) rfl (fun c_4 => ?_) (fun c_4 => ?_)
    ·
     replace hM := hM.1 (of_decide_eq_true c_4)
     refine HW.region ?_
     refine oM (v_1) rfl rfl ?_
     refine oM (vl) rfl rfl ?_
     refine oM (.int .i64 k_1) rfl rfl ?_
     refine oV (elemPtr 19 vl (k_1).toNat) (q_idx ts_71 hL_l.is rfl rfl ho_3) rfl ?_
     refine oV (fieldPtr 19 vl (k_1).toNat 17) (q_fldElem fa_77_1 hL_l.is rfl ho_3) rfl ?_
     refine oV (.agg #[.bool (((gi l k_1).2).1), (((gi l k_1).2).2).1]) (q_ldFieldAgg (n := 2) (cs := [.bool (((gi l k_1).2).1), (((gi l k_1).2).2).1]) ta_50 hL_l.is rfl ho_3 (by decide) rfl) rfl ?_
     refine HO.eff (want_none) rfl (st_lit (enc := e_api_Filter) (cells := #[.bool (((gi l k_1).2).1), (((gi l k_1).2).2).1]) #[.bool false, .slice none 0 0] ([(((gi l k_1).2).1, (((gi l k_1).2).2))] : List T_api_Filter) hS tl_133 (by decide) (by decide) (by kernel_rfl) (by kernel_rfl) rfl (by intro x hx; rfl) rfl) ?_
     rintro _ h_6 ⟨b_3, rfl, hS, hk⟩
     replace hK := hK.trans hk
     replace hN_l := hN_l.kp hk
     replace hL_l := hL_l.kp hk
     replace hN_2 := hN_2.kp hk
     replace hN_3 := hN_3.kp hk
     replace hN_4 := hN_4.kp hk
     replace hN_5 := hN_5.kp hk
     have hN_6 : NfL nf_api_Filter F_4 h_6 ([(((gi l k_1).2).1, (((gi l k_1).2).2))] : List T_api_Filter) := (NfL.cons (nfm_api_Filter (((gi l k_1).2).1, (((gi l k_1).2).2)) (nff_api_Want_18 (NfL.at hN_l ho_3))) (NfL.nil _ _ _))
     obtain ⟨ho_5, hM⟩ := hM
     refine HO.eff (want_none) rfl (st_append te_133 hS (i := 2) rfl (hS.own 0 rfl).slice rfl rfl rfl (fun a_ ha_ => nfo_api_Filter (hN_6.is.all a_ ha_)) ho_5 (by omega)) ?_
     rintro v_2 h_7 ⟨hS, hk⟩
     replace hK := hK.trans hk
     replace hN_l := hN_l.kp hk
     replace hL_l := hL_l.kp hk
     replace hN_2 := hN_2.kp hk
     replace hN_3 := hN_3.kp hk
     replace hN_4 := hN_4.kp hk
     replace hN_5 := hN_5.kp hk
     replace hN_6 := hN_6.kp hk
     have hN_7 : NfL nf_api_Filter F_4 h_7 (l_2 ++ ([(((gi l k_1).2).1, (((gi l k_1).2).2))] : List T_api_Filter)) := NfL.app hN_5 hN_6
     refine oA (v_2) rfl rfl ?_
     refine HO.nil (blockQ_normal (thenQ_normal (?_)))
     refine HW.region ?_
     refine oM (.int .i64 k_1) rfl rfl ?_
     obtain ⟨ho_6, hM⟩ := hM
     refine oV (.int .i64 (k_1 + 1)) (q_addN _ rfl rfl rfl ho_6.1 ho_6.2) rfl ?_
     refine oA (.int .i64 (k_1 + 1)) rfl rfl ?_
     refine HO.nil (thenQ_normal (?_))
     replace hS : St F_4 (Ow.own 77 19 e_api_Want vout_1 out_1 :: Ow.own 50 2 e_api_Filter v_2 (l_2 ++ ([(((gi l k_1).2).1, (((gi l k_1).2).2))] : List T_api_Filter)) :: fr) h_7 := hS.perm2 [1, 2] 3 rfl rfl
     rw [hKe_2] at hM
     exact ⟨(l_2 ++ ([(((gi l k_1).2).1, (((gi l k_1).2).2))] : List T_api_Filter), k_1 + 1), ⟨F_4, v_2, rfl, rfl, rfl, rfl, rfl, rfl, hK, hS, hN_l, hL_l, hN_2, hN_3, hN_4, hN_7, hM.1⟩, hM.2⟩
    ·
     replace hM := hM.2 (of_decide_eq_false c_4)
     refine HW.skip (blockQ_normal (thenQ_normal (?_)))
     refine HW.region ?_
     refine oM (.int .i64 k_1) rfl rfl ?_
     obtain ⟨ho_7, hM⟩ := hM
     refine oV (.int .i64 (k_1 + 1)) (q_addN _ rfl rfl rfl ho_7.1 ho_7.2) rfl ?_
     refine oA (.int .i64 (k_1 + 1)) rfl rfl ?_
     refine HO.nil (thenQ_normal (?_))
     rw [hKe_2] at hM
     exact ⟨(l_2, k_1 + 1), ⟨F_4, v_1, rfl, rfl, rfl, rfl, rfl, rfl, hK, hS, hN_l, hL_l, hN_2, hN_3, hN_4, hN_5, hM.1⟩, hM.2⟩
   ·
    replace hM := hM.2 (of_decide_eq_false c_3)
    refine HW.exit (thenQ_exit (thenQ_exit (blockQ_exit (thenQ_normal (?_)))))
    refine HW.seq_mid (fun f h => ∃ (F' : Fz) (x_17_1 : Bool) (x_18_1 : List T_api_Addr) (b_4 : Nat) (vx_18_1 : Value), f 0 = vl ∧ f 2 = .slice none 0 0 ∧ f 3 = vout_1 ∧ f 4 = .int .i64 i_1 ∧ f 7 = .pointer (some ⟨b_4, 0, none⟩) ∧ Kp F h0 F' h ∧ St F' (Ow.own 77 19 e_api_Want vout_1 out_1 :: Ow.box b_4 77 (c_api_Want ((gi l i_1).1) (.bool x_17_1) vx_18_1).toArray :: Ow.own 28 17 e_api_Addr vx_18_1 x_18_1 :: fr) h ∧ (NfL nf_api_Want F' h l) ∧ (SliceF F' h 19 e_api_Want vl l) ∧ (NfL nf_api_Want F' h ([] : List T_api_Want)) ∧ (NfL nf_api_Want F' h out_1) ∧ (NfL nf_api_Filter F' h ([] : List T_api_Filter)) ∧ (NfL nf_api_Filter F' h l_2) ∧ ref24_Gather_j1 l out_1 i_1 K_1 x_17_1 x_18_1) ?_ ?_
    ·
     obtain ⟨ho_8, hM⟩ := hM
     refine HW.regionA 10 mixed (fun h => (SliceIs h 19 e_api_Want vl l)) [] (by kernel_rfl) ?_
     refine HA.val (k := 0) (v := vl) rfl rfl (by kernel_rfl) (by kernel_rfl) (want_none) rfl (fun _ hL_l => q_move rfl) ?_
     refine HA.val (k := 1) (v := .int .i64 i_1) rfl rfl (by kernel_rfl) (by kernel_rfl) (want_none) rfl (fun _ hL_l => q_move rfl) ?_
     refine HA.val (k := 2) (v := elemPtr 19 vl (i_1).toNat) rfl rfl (by kernel_rfl) (by kernel_rfl) (want_none) rfl (fun _ hL_l => q_idx ts_71 hL_l rfl rfl ho_8) ?_
     refine HA.val (k := 3) (v := fieldPtr 19 vl (i_1).toNat 0) rfl rfl (by kernel_rfl) (by kernel_rfl) (want_none) rfl (fun _ hL_l => q_fldElem fa_77_0 hL_l rfl ho_8) ?_
     refine HA.val (k := 4) (v := .agg (e_api_Addr ((gi l i_1).1)).toArray) rfl rfl (by kernel_rfl) (by kernel_rfl) (want_none) rfl (fun _ hL_l => q_ldFieldAgg (n := 17) (cs := (e_api_Addr ((gi l i_1).1))) ta_28 hL_l rfl ho_8 (by decide) rfl) ?_
     refine HA.val (k := 5) (v := v_1) rfl rfl (by kernel_rfl) (by kernel_rfl) (want_none) rfl (fun _ hL_l => q_move rfl) ?_
     refine HA.two (k := 6) (k' := 8) ⟨hL_l.is, (Go.Wk.at_nil _ _)⟩ (by kernel_rfl) ?_ ?_
     ·
      replace hS : St F_4 (Ow.own 50 2 e_api_Filter v_1 l_2 :: Ow.own 77 19 e_api_Want vout_1 out_1 :: fr) h_5 := hS.perm2 [1, 0] 2 rfl rfl
      have hZ_2 := hS
      have hkz_2 := (hS.freeze).2
      replace hS := hS.freeze.1
      have hL_2 : SliceF (fun bz_ => F_4 bz_ ∨ (Ow.own 50 2 e_api_Filter v_1 l_2).foot bz_) h_5 2 e_api_Filter v_1 l_2 := ⟨(hZ_2.own 0 rfl).slice, fun _ b hb => .inr hb⟩
      refine HS.call rfl (want_none) rfl (ec en_79 rfl rfl) (ref19_All_walk (fr := (Ow.own 77 19 e_api_Want vout_1 out_1 :: fr)) l_2 v_1 hS (NfL.kp hN_5 hkz_2) hL_2 hM) ?_
      rintro _ h_8 ⟨F_5, r_0_1, r_1_1, vr_1_1, rfl, hk, hS, _, _, hM⟩
      obtain ⟨hS, hk⟩ := hZ_2.back hk hS
      generalize (fun bz_ => F_5 bz_ ∧ ¬ (Ow.own 50 2 e_api_Filter v_1 l_2).foot bz_) = F_6 at hS hk
      replace hK := hK.trans hk
      replace hN_l := hN_l.kp hk
      replace hL_l := hL_l.kp hk
      replace hN_2 := hN_2.kp hk
      replace hN_3 := hN_3.kp hk
      replace hN_4 := hN_4.kp hk
      replace hN_5 := hN_5.kp hk
      refine HA.val (k := 7) (v := .agg (c_api_Want ((gi l i_1).1) (.bool r_0_1) vr_1_1).toArray) rfl rfl (by kernel_rfl) (by kernel_rfl) (want_none) rfl (fun _ hL_l => q_build tp_77 (fill_cons (cs' := (c_api_Want ((gi l i_1).1) (.bool false) (.slice none 0 0)).toArray) (vc := (e_api_Addr ((gi l i_1).1)).toArray) rfl rfl rfl (Nat.le_of_ble_eq_true rfl) rfl (fill_cons (cs' := (c_api_Want ((gi l i_1).1) (.bool r_0_1) vr_1_1).toArray) (vc := #[.bool r_0_1, vr_1_1]) rfl rfl rfl (Nat.le_of_ble_eq_true rfl) rfl rfl))) ?_
      refine HA.one (k := 8) ⟨hL_l.is, (Go.Wk.at_nil _ _)⟩ (by kernel_rfl) ?_
      refine HS.eff rfl (want_none) rfl (st_alloc (c := (c_api_Want (false, (default : Ba 16)) (.bool false) (.slice none 0 0)).toArray) hS tz_77 rfl) ?_
      rintro _ h_9 ⟨b_5, rfl, hS, hk⟩
      replace hK := hK.trans hk
      replace hN_l := hN_l.kp hk
      replace hL_l := hL_l.kp hk
      replace hN_2 := hN_2.kp hk
      replace hN_3 := hN_3.kp hk
      replace hN_4 := hN_4.kp hk
      replace hN_5 := hN_5.kp hk
      refine HA.one (k := 9) ⟨hL_l.is, (Go.Wk.at_nil _ _)⟩ (by kernel_rfl) ?_
      refine HS.sto rfl (want_none) rfl (st_storeAgg (c' := (c_api_Want ((gi l i_1).1) (.bool r_0_1) vr_1_1).toArray) hS (i := 0) rfl ta_77 rfl rfl rfl (List.forall_mem_cons.2 ⟨rfl, (List.forall_mem_cons.2 ⟨rfl, (List.forall_mem_cons.2 ⟨rfl, (List.forall_mem_cons.2 ⟨rfl, (List.forall_mem_cons.2 ⟨rfl, (List.forall_mem_cons.2 ⟨rfl, (List.forall_mem_cons.2 ⟨rfl, (List.forall_mem_cons.2 ⟨rfl, (List.forall_mem_cons.2 ⟨rfl, (List.forall_mem_cons.2 ⟨rfl, (List.forall_mem_cons.2 ⟨rfl, (List.forall_mem_cons.2 ⟨rfl, (List.forall_mem_cons.2 ⟨rfl, (List.forall_mem_cons.2 ⟨rfl, (List.forall_mem_cons.2 ⟨rfl, (List.forall_mem_cons.2 ⟨rfl, (List.forall_mem_cons.2 ⟨rfl, (List.forall_mem_cons.2 ⟨rfl, (List.forall_mem_cons.2 ⟨(shp (hS.own 2 rfl).slice).one, (fun _ h => by cases h)⟩)⟩)⟩)⟩)⟩)⟩)⟩)⟩)⟩)⟩)⟩)⟩)⟩)⟩)⟩)⟩)⟩)⟩)⟩) (Nat.le_of_ble_eq_true rfl) rfl) ?_
      rintro h_10 ⟨hS, hk⟩
      replace hK := hK.trans hk
      replace hN_l := hN_l.kp hk
      replace hL_l := hL_l.kp hk
      replace hN_2 := hN_2.kp hk
      replace hN_3 := hN_3.kp hk
      replace hN_4 := hN_4.kp hk
      replace hN_5 := hN_5.kp hk
      refine HA.nil ⟨hL_l.is, (Go.Wk.at_nil _ _)⟩ (by kernel_rfl) (thenQ_normal (?_))
      replace hS : St F_6 (Ow.own 77 19 e_api_Want vout_1 out_1 :: Ow.box b_5 77 (c_api_Want ((gi l i_1).1) (.bool r_0_1) vr_1_1).toArray :: Ow.own 28 17 e_api_Addr vr_1_1 r_1_1 :: fr) h_10 := hS.perm2 [3, 0, 2] 4 rfl rfl
      exact ⟨F_6, r_0_1, r_1_1, b_5, vr_1_1, rfl, rfl, rfl, rfl, rfl, hK, hS, hN_l, hL_l, hN_2, hN_3, hN_4, hN_5, hM⟩
     ·
      refine HS.eff rfl (want_none) rfl (st_alloc (c := (c_api_Want (false, (default : Ba 16)) (.bool false) (.slice none 0 0)).toArray) hS tz_77 rfl) ?_
      rintro _ h_8 ⟨b_5, rfl, hS, hk⟩
      replace hK := hK.trans hk
      replace hN_l := hN_l.kp hk
      replace hL_l := hL_l.kp hk
      replace hN_2 := hN_2.kp hk
      replace hN_3 := hN_3.kp hk
      replace hN_4 := hN_4.kp hk
      replace hN_5 := hN_5.kp hk
      refine HA.one (k := 6) ⟨hL_l.is, (Go.Wk.at_nil _ _)⟩ (by kernel_rfl) ?_
      replace hS : St F_4 (Ow.own 50 2 e_api_Filter v_1 l_2 :: Ow.box b_5 77 (c_api_Want (false, (default : Ba 16)) (.bool false) (.slice none 0 0)).toArray :: Ow.own 77 19 e_api_Want vout_1 out_1 :: fr) h_8 := hS.perm2 [2, 0, 1] 3 rfl rfl
      have hZ_2 := hS
      have hkz_2 := (hS.freeze).2
      replace hS := hS.freeze.1
      have hL_2 : SliceF (fun bz_ => F_4 bz_ ∨ (Ow.own 50 2 e_api_Filter v_1 l_2).foot bz_) h_8 2 e_api_Filter v_1 l_2 := ⟨(hZ_2.own 0 rfl).slice, fun _ b hb => .inr hb⟩
      refine HS.call rfl (want_none) rfl (ec en_79 rfl rfl) (ref19_All_walk (fr := (Ow.box b_5 77 (c_api_Want (false, (default : Ba 16)) (.bool false) (.slice none 0 0)).toArray :: Ow.own 77 19 e_api_Want vout_1 out_1 :: fr)) l_2 v_1 hS (NfL.kp hN_5 hkz_2) hL_2 hM) ?_
      rintro _ h_9 ⟨F_5, r_0_1, r_1_1, vr_1_1, rfl, hk, hS, _, _, hM⟩
      obtain ⟨hS, hk⟩ := hZ_2.back hk hS
      generalize (fun bz_ => F_5 bz_ ∧ ¬ (Ow.own 50 2 e_api_Filter v_1 l_2).foot bz_) = F_6 at hS hk
      replace hK := hK.trans hk
      replace hN_l := hN_l.kp hk
      replace hL_l := hL_l.kp hk
      replace hN_2 := hN_2.kp hk
      replace hN_3 := hN_3.kp hk
      replace hN_4 := hN_4.kp hk
      replace hN_5 := hN_5.kp hk
      refine HA.val (k := 7) (v := .agg (c_api_Want ((gi l i_1).1) (.bool r_0_1) vr_1_1).toArray) rfl rfl (by kernel_rfl) (by kernel_rfl) (want_none) rfl (fun _ hL_l => q_build tp_77 (fill_cons (cs' := (c_api_Want ((gi l i_1).1) (.bool false) (.slice none 0 0)).toArray) (vc := (e_api_Addr ((gi l i_1).1)).toArray) rfl rfl rfl (Nat.le_of_ble_eq_true rfl) rfl (fill_cons (cs' := (c_api_Want ((gi l i_1).1) (.bool r_0_1) vr_1_1).toArray) (vc := #[.bool r_0_1, vr_1_1]) rfl rfl rfl (Nat.le_of_ble_eq_true rfl) rfl rfl))) ?_
      refine HA.one (k := 9) ⟨hL_l.is, (Go.Wk.at_nil _ _)⟩ (by kernel_rfl) ?_
      refine HS.sto rfl (want_none) rfl (st_storeAgg (c' := (c_api_Want ((gi l i_1).1) (.bool r_0_1) vr_1_1).toArray) hS (i := 2) rfl ta_77 rfl rfl rfl (List.forall_mem_cons.2 ⟨rfl, (List.forall_mem_cons.2 ⟨rfl, (List.forall_mem_cons.2 ⟨rfl, (List.forall_mem_cons.2 ⟨rfl, (List.forall_mem_cons.2 ⟨rfl, (List.forall_mem_cons.2 ⟨rfl, (List.forall_mem_cons.2 ⟨rfl, (List.forall_mem_cons.2 ⟨rfl, (List.forall_mem_cons.2 ⟨rfl, (List.forall_mem_cons.2 ⟨rfl, (List.forall_mem_cons.2 ⟨rfl, (List.forall_mem_cons.2 ⟨rfl, (List.forall_mem_cons.2 ⟨rfl, (List.forall_mem_cons.2 ⟨rfl, (List.forall_mem_cons.2 ⟨rfl, (List.forall_mem_cons.2 ⟨rfl, (List.forall_mem_cons.2 ⟨rfl, (List.forall_mem_cons.2 ⟨rfl, (List.forall_mem_cons.2 ⟨(shp (hS.own 1 rfl).slice).one, (fun _ h => by cases h)⟩)⟩)⟩)⟩)⟩)⟩)⟩)⟩)⟩)⟩)⟩)⟩)⟩)⟩)⟩)⟩)⟩)⟩)⟩) (Nat.le_of_ble_eq_true rfl) rfl) ?_
      rintro h_10 ⟨hS, hk⟩
      replace hK := hK.trans hk
      replace hN_l := hN_l.kp hk
      replace hL_l := hL_l.kp hk
      replace hN_2 := hN_2.kp hk
      replace hN_3 := hN_3.kp hk
      replace hN_4 := hN_4.kp hk
      replace hN_5 := hN_5.kp hk
      refine HA.nil ⟨hL_l.is, (Go.Wk.at_nil _ _)⟩ (by kernel_rfl) (thenQ_normal (?_))
      replace hS : St F_6 (Ow.own 77 19 e_api_Want vout_1 out_1 :: Ow.box b_5 77 (c_api_Want ((gi l i_1).1) (.bool r_0_1) vr_1_1).toArray :: Ow.own 28 17 e_api_Addr vr_1_1 r_1_1 :: fr) h_10 := hS.perm2 [3, 2, 1] 4 rfl rfl
      exact ⟨F_6, r_0_1, r_1_1, b_5, vr_1_1, rfl, rfl, rfl, rfl, rfl, hK, hS, hN_l, hL_l, hN_2, hN_3, hN_4, hN_5, hM⟩
    ·
     rintro f_3 h_11 ⟨F_7, x_17_1, x_18_1, b_4, vx_18_1, e0, e2, e3, e4, e7, hK, hS, hN_l, hL_l, hN_2, hN_3, hN_4, hN_5, hM⟩
     unfold ref24_Gather_j1 at hM
     refine HW.fr [(0, vl), (2, .slice none 0 0), (3, vout_1), (4, .int .i64 i_1), (7, .pointer (some ⟨b_4, 0, none⟩))] ⟨e0, e2, e3, e4, e7, trivial⟩ ?_
     refine HW.seq ?_
     refine HW.region ?_
     refine oA (.int .i64 0) rfl rfl ?_
     refine HO.nil (thenQ_normal (?_))
     refine HW.seq_mid (fun f h => ∃ (F' : Fz) (n_1 : Int), f 0 = vl ∧ f 2 = .slice none 0 0 ∧ f 3 = vout_1 ∧ f 4 = .int .i64 i_1 ∧ f 7 = .pointer (some ⟨b_4, 0, none⟩) ∧ f 8 = .int .i64 n_1 ∧ Kp F h0 F' h ∧ St F' (Ow.own 77 19 e_api_Want vout_1 out_1 :: Ow.box b_4 77 (c_api_Want ((gi l i_1).1) (.bool x_17_1) vx_18_1).toArray :: Ow.own 28 17 e_api_Addr vx_18_1 x_18_1 :: fr) h ∧ (NfL nf_api_Want F' h l) ∧ (SliceF F' h 19 e_api_Want vl l) ∧ (NfL nf_api_Want F' h ([] : List T_api_Want)) ∧ (NfL nf_api_Want F' h out_1) ∧ (NfL nf_api_Filter F' h ([] : List T_api_Filter)) ∧ (NfL nf_api_Filter F' h l_2) ∧ ref24_Gather_j2 l out_1 i_1 K_1 x_17_1 x_18_1 n_1) ?_ ?_
     ·
      refine HW.block ?_
      obtain ⟨I_3, m_3, hI_3, hR_3⟩ := hM
      refine HW.loop (S := Int) (fun n_2 f h => ∃ (F' : Fz), f 0 = vl ∧ f 2 = .slice none 0 0 ∧ f 3 = vout_1 ∧ f 4 = .int .i64 i_1 ∧ f 7 = .pointer (some ⟨b_4, 0, none⟩) ∧ f 8 = .int .i64 n_2 ∧ Kp F h0 F' h ∧ St F' (Ow.own 77 19 e_api_Want vout_1 out_1 :: Ow.box b_4 77 (c_api_Want ((gi l i_1).1) (.bool x_17_1) vx_18_1).toArray :: Ow.own 28 17 e_api_Addr vx_18_1 x_18_1 :: fr) h ∧ (NfL nf_api_Want F' h l) ∧ (SliceF F' h 19 e_api_Want vl l) ∧ (NfL nf_api_Want F' h ([] : List T_api_Want)) ∧ (NfL nf_api_Want F' h out_1) ∧ (NfL nf_api_Filter F' h ([] : List T_api_Filter)) ∧ (NfL nf_api_Filter F' h l_2) ∧ I_3 n_2) m_3 0 ⟨F_7, rfl, rfl, rfl, rfl, rfl, rfl, hK, hS, hN_l, hL_l, hN_2, hN_3, hN_4, hN_5, hI_3⟩ ?_
      rintro n_2 f_4 h_12 ⟨F_8, e0, e2, e3, e4, e7, e8, hK, hS, hN_l, hL_l, hN_2, hN_3, hN_4, hN_5, hI0⟩
      obtain ⟨K_3, hKe_3⟩ : ∃ K : Int → Prop, K = fun n_2' => I_3 n_2' ∧ m_3 n_2' < m_3 n_2 := ⟨_, rfl⟩
      have hM : ref24_Gather_l4 l out_1 i_1 K_1 x_17_1 x_18_1 K_3 n_2 := by rw [hKe_3]; exact hR_3 n_2 hI0
      unfold ref24_Gather_l4 at hM
      refine HW.fr [(0, vl), (2, .slice none 0 0), (3, vout_1), (4, .int .i64 i_1), (7, .pointer (some ⟨b_4, 0, none⟩)), (8, .int .i64 n_2)] ⟨e0, e2, e3, e4, e7, e8, trivial⟩ ?_
      refine HW.seq ?_
      refine HW.seq ?_
      refine HW.regionA 15 mixed (fun h => (OwnIs h 0 77 19 e_api_Want vout_1 out_1) ∧ (Blk h b_4 (.cells (c_api_Want ((gi l i_1).1) (.bool x_17_1) vx_18_1).toArray 77 (0, 0)))) [] (by kernel_rfl) ?_
      refine HA.val (k := 0) (v := .int .i64 n_2) rfl rfl (by kernel_rfl) (by kernel_rfl) (want_none) rfl (fun _ ⟨c513, c514⟩ => q_move rfl) ?_
      refine HA.val (k := 1) (v := vout_1) rfl rfl (by kernel_rfl) (by kernel_rfl) (want_none) rfl (fun _ ⟨c513, c514⟩ => q_move rfl) ?_
      refine HA.val (k := 2) (v := .int .i64 (out_1.length : Int)) rfl rfl (by kernel_rfl) (by kernel_rfl) (want_none) rfl (fun _ ⟨c513, c514⟩ => q_len ts_71 (shp c513.slice) rfl rfl) ?_
      refine HA.val (k := 3) (v := .bool (decide (n_2 < (out_1.length : Int)))) rfl rfl (by kernel_rfl) (by kernel_rfl) (want_none) rfl (fun _ ⟨c513, c514⟩ => q_lss rfl rfl) ?_
      refine HA.val (k := 4) (v := .bool (decide (n_2 < (out_1.length : Int)))) rfl rfl (by kernel_rfl) (by kernel_rfl) (want_none) rfl (fun _ ⟨c513, c514⟩ => q_move rfl) ?_
      rcases Bool.eq_false_or_eq_true (decide (n_2 < (out_1.length : Int))) with c_5 | c_5
      ·
       replace hM := hM.1 (of_decide_eq_true c_5)
       refine HA.val (k := 5) (v := vout_1) rfl rfl (by kernel_rfl) (by kernel_rfl) (want_by rfl rfl c_5) rfl (fun _ ⟨c513, c514⟩ => q_move rfl) ?_
       refine HA.val (k := 6) (v := .int .i64 n_2) rfl rfl (by kernel_rfl) (by kernel_rfl) (want_by rfl rfl c_5) rfl (fun _ ⟨c513, c514⟩ => q_move rfl) ?_
       obtain ⟨ho_9, hM⟩ := hM
       refine HA.val (k := 7) (v := elemPtr 19 vout_1 (n_2).toNat) rfl rfl (by kernel_rfl) (by kernel_rfl) (want_by rfl rfl c_5) rfl (fun _ ⟨c513, c514⟩ => q_idx ts_71 c513.slice rfl rfl ho_9) ?_
       refine HA.val (k := 8) (v := fieldPtr 19 vout_1 (n_2).toNat 0) rfl rfl (by kernel_rfl) (by kernel_rfl) (want_by rfl rfl c_5) rfl (fun _ ⟨c513, c514⟩ => q_fldElem fa_77_0 c513.slice rfl ho_9) ?_
       refine HA.val (k := 9) (v := .agg (e_api_Addr ((gi out_1 n_2).1)).toArray) rfl rfl (by kernel_rfl) (by kernel_rfl) (want_by rfl rfl c_5) rfl (fun _ ⟨c513, c514⟩ => q_ldFieldAgg (n := 17) (cs := (e_api_Addr ((gi out_1 n_2).1))) ta_28 c513.slice rfl ho_9 (by decide) rfl) ?_
       refine HA.val (k := 10) (v := .pointer (some ⟨b_4, 0, none⟩)) rfl rfl (by kernel_rfl) (by kernel_rfl) (want_by rfl rfl c_5) rfl (fun _ ⟨c513, c514⟩ => q_fieldAddr fa_77_0 rfl rfl) ?_
       refine HA.val (k := 11) (v := .agg (e_api_Addr ((gi l i_1).1)).toArray) rfl rfl (by kernel_rfl) (by kernel_rfl) (want_by rfl rfl c_5) rfl (fun _ ⟨c513, c514⟩ => q_loadAgg (cs := (e_api_Addr ((gi l i_1).1))) ta_28 rfl rfl (Blk.cells (k := 17) c514 rfl)) ?_
       refine HA.one (k := 12) ⟨⟨(hS.own 0 rfl), (hS.box 1 rfl)⟩, (Go.Wk.at_nil _ _)⟩ (by kernel_rfl) ?_
       refine HS.call rfl (want_by rfl rfl c_5) rfl (ec en_80 rfl rfl) (ref03_Cmp_walk (fr := (Ow.own 77 19 e_api_Want vout_1 out_1 :: Ow.box b_4 77 (c_api_Want ((gi l i_1).1) (.bool x_17_1) vx_18_1).toArray :: Ow.own 28 17 e_api_Addr vx_18_1 x_18_1 :: fr)) ((gi out_1 n_2).1) ((gi l i_1).1) hS hM) ?_
       rintro _ h_13 ⟨F_9, r_3, rfl, hk, hS, hM⟩
       replace hK := hK.trans hk
       replace hN_l := hN_l.kp hk
       replace hL_l := hL_l.kp hk
       replace hN_2 := hN_2.kp hk
       replace hN_3 := hN_3.kp hk
       replace hN_4 := hN_4.kp hk
       replace hN_5 := hN_5.kp hk
       refine HA.val (k := 13) (v := .bool (decide (r_3 < 0))) rfl rfl (by kernel_rfl) (by kernel_rfl) (want_by rfl rfl c_5) rfl (fun _ ⟨c513, c514⟩ => q_lss rfl rfl) ?_
       refine HA.val (k := 14) (v := .bool (decide (r_3 < 0))) rfl rfl (by kernel_rfl) (by kernel_rfl) (want_none) rfl (fun _ ⟨c513, c514⟩ => q_pickK true rfl c_5 rfl) ?_
       refine HA.nil ⟨⟨(hS.own 0 rfl), (hS.box 1 rfl)⟩, (Go.Wk.at_nil _ _)⟩ (by kernel_rfl) (thenQ_normal (?_))
       refine HW.cond (decide (r_3 < 0)) rfl (fun c_6 => ?_) (fun c_6 => ?_)
       ·
        replace hM := hM.1 (of_decide_eq_true c_6)
        refine HW.skip (thenQ_normal (?_))
        refine HW.block ?_
        refine HW.region ?_
        refine oM (.int .i64 n_2) rfl rfl ?_
        obtain ⟨ho_10, hM⟩ := hM
        refine oV (.int .i64 (n_2 + 1)) (q_addN _ rfl rfl rfl ho_10.1 ho_10.2) rfl ?_
        refine oA (.int .i64 (n_2 + 1)) rfl rfl ?_
        refine HO.nil (blockQ_normal (thenQ_normal (?_)))
        rw [hKe_3] at hM
        exact ⟨n_2 + 1, ⟨F_9, rfl, rfl, rfl, rfl, rfl, rfl, hK, hS, hN_l, hL_l, hN_2, hN_3, hN_4, hN_5, hM.1⟩, hM.2⟩
       ·
        replace hM := hM.2 (of_decide_eq_false c_6)
        refine HW.exit (thenQ_exit (thenQ_exit (blockQ_exit (thenQ_normal (?_)))))
        exact ⟨F_9, n_2, rfl, rfl, rfl, rfl, rfl, rfl, hK, hS, hN_l, hL_l, hN_2, hN_3, hN_4, hN_5, hM⟩
      ·
       replace hM := hM.2 (of_decide_eq_false c_5)
       refine HA.past (k := 5) rfl rfl (by kernel_rfl) (by kernel_rfl) (past_by rfl rfl c_5) rfl ?_
       refine HA.past (k := 6) rfl rfl (by kernel_rfl) (by kernel_rfl) (past_by rfl rfl c_5) rfl ?_
       refine HA.past (k := 7) rfl rfl (by kernel_rfl) (by kernel_rfl) (past_by rfl rfl c_5) rfl ?_
       refine HA.past (k := 8) rfl rfl (by kernel_rfl) (by kernel_rfl) (past_by rfl rfl c_5) rfl ?_
       refine HA.past (k := 9) rfl rfl (by kernel_rfl) (by kernel_rfl) (past_by rfl rfl c_5) rfl ?_
       refine HA.past (k := 10) rfl rfl (by kernel_rfl) (by kernel_rfl) (past_by rfl rfl c_5) rfl ?_
       refine HA.past (k := 11) rfl rfl (by kernel_rfl) (by kernel_rfl) (past_by rfl rfl c_5) rfl ?_
       refine HA.one (k := 12) ⟨⟨(hS.own 0 rfl), (hS.box 1 rfl)⟩, (Go.Wk.at_nil _ _)⟩ (by kernel_rfl) ?_
       refine HS.past rfl (past_by rfl rfl c_5) rfl ?_
       refine HA.past (k := 13) rfl rfl (by kernel_rfl) (by kernel_rfl) (past_by rfl rfl c_5) rfl ?_
       refine HA.val (k := 14) (v := .bool false) rfl rfl (by kernel_rfl) (by kernel_rfl) (want_none) rfl (fun _ ⟨c513, c514⟩ => q_pickK false rfl c_5 rfl) ?_
       refine HA.nil ⟨⟨(hS.own 0 rfl), (hS.box 1 rfl)⟩, (Go.Wk.at_nil _ _)⟩ (by kernel_rfl) (thenQ_normal (?_))
       refine HW.condF rfl ?_
       refine HW.exit (thenQ_exit (thenQ_exit (blockQ_exit (thenQ_normal (?_)))))
       exact ⟨F_8, n_2, rfl, rfl, rfl, rfl, rfl, rfl, hK, hS, hN_l, hL_l, hN_2, hN_3, hN_4, hN_5, hM⟩
     ·
      rintro f_5 h_14 ⟨F_10, n_1, e0, e2, e3, e4, e7, e8, hK, hS, hN_l, hL_l, hN_2, hN_3, hN_4, hN_5, hM⟩
      unfold ref24_Gather_j2 at hM
      refine HW.fr [(0, vl), (2, .slice none 0 0), (3, vout_1), (4, .int .i64 i_1), (7, .pointer (some ⟨b_4, 0, none⟩)), (8, .int .i64 n_1)] ⟨e0, e2, e3, e4, e7, e8, trivial⟩ ?_
      replace hM := hM vx_18_1
      obtain ⟨ho_11, hM⟩ := hM
      obtain ⟨ho_12, hM⟩ := hM
      obtain ⟨ho_13, hM⟩ := hM
      obtain ⟨ho_14, hM⟩ := hM
      obtain ⟨ho_15, hM⟩ := hM
      obtain ⟨ho_16, hM⟩ := hM
      refine HW.regionA 13 mixed (fun h => (OwnIs h 0 77 19 e_api_Want vout_1 out_1) ∧ (Blk h b_4 (.cells (c_api_Want ((gi l i_1).1) (.bool x_17_1) vx_18_1).toArray 77 (0, 0)))) [] (by kernel_rfl) ?_
      refine HA.val (k := 1) (v := vout_1) rfl rfl (by kernel_rfl) (by kernel_rfl) (want_none) rfl (fun _ ⟨c410, c411⟩ => q_move rfl) ?_
      refine HA.val (k := 2) (v := .int .i64 n_1) rfl rfl (by kernel_rfl) (by kernel_rfl) (want_none) rfl (fun _ ⟨c410, c411⟩ => q_move rfl) ?_
      refine HA.val (k := 3) (v := cutV 19 vout_1 (0 : Int).toNat (n_1).toNat) rfl rfl (by kernel_rfl) (by kernel_rfl) (want_none) rfl (fun _ ⟨c410, c411⟩ => q_slH ts_71 c410.slice rfl rfl ho_11) ?_
      refine HA.val (k := 5) (v := .agg (c_api_Want ((gi l i_1).1) (.bool x_17_1) vx_18_1).toArray) rfl rfl (by kernel_rfl) (by kernel_rfl) (want_none) rfl (fun _ ⟨c410, c411⟩ => q_loadAgg (cs := (c_api_Want ((gi l i_1).1) (.bool x_17_1) vx_18_1)) ta_77 rfl rfl (Blk.cells (k := 19) c411 rfl)) ?_
      refine HA.val (k := 8) (v := vout_1) rfl rfl (by kernel_rfl) (by kernel_rfl) (want_none) rfl (fun _ ⟨c410, c411⟩ => q_move rfl) ?_
      refine HA.val (k := 9) (v := .int .i64 n_1) rfl rfl (by kernel_rfl) (by kernel_rfl) (want_none) rfl (fun _ ⟨c410, c411⟩ => q_move rfl) ?_
      refine HA.val (k := 10) (v := cutV 19 vout_1 (n_1).toNat ((out_1.length : Int)).toNat) rfl rfl (by kernel_rfl) (by kernel_rfl) (want_none) rfl (fun _ ⟨c410, c411⟩ => q_slL ts_71 c410.slice rfl rfl ho_11) ?_
      refine HA.two (k := 0) (k' := 6) ⟨⟨(hS.own 0 rfl), (hS.box 1 rfl)⟩, (Go.Wk.at_nil _ _)⟩ (by kernel_rfl) ?_ ?_
      ·
       refine HS.eff rfl (want_none) rfl (st_litEmpty (α := T_api_Want) e_api_Want hS tl_71) ?_
       rintro _ h_15 ⟨b_6, rfl, hS, hk⟩
       replace hK := hK.trans hk
       replace hN_l := hN_l.kp hk
       replace hL_l := hL_l.kp hk
       replace hN_2 := hN_2.kp hk
       replace hN_3 := hN_3.kp hk
       refine HA.two (k := 4) (k' := 6) ⟨⟨(hS.own 1 rfl), (hS.box 2 rfl)⟩, (Go.Wk.at_nil _ _)⟩ (by kernel_rfl) ?_ ?_
       ·
        refine HS.eff rfl (want_none) rfl (st_append te_71 hS (i := 0) rfl (cutIs (hS.own 1 rfl).slice 0 n_1 ho_12.1 ho_12.2.1 ho_12.2.2) rfl rfl rfl (fun a_ ha_ => nfo_api_Want ((NfI.cut hN_3.is _ _).all a_ ha_)) ho_13 (by omega)) ?_
        rintro v_3 h_16 ⟨hS, hk⟩
        replace hK := hK.trans hk
        replace hN_l := hN_l.kp hk
        replace hL_l := hL_l.kp hk
        replace hN_2 := hN_2.kp hk
        replace hN_3 := hN_3.kp hk
        have hN_8 : NfL nf_api_Want F_10 h_16 (([] : List T_api_Want) ++ (cut out_1 0 n_1)) := NfL.app hN_2 (NfL.cut hN_3 _ _)
        refine HA.one (k := 6) ⟨⟨(hS.own 1 rfl), (hS.box 2 rfl)⟩, (Go.Wk.at_nil _ _)⟩ (by kernel_rfl) ?_
        replace hS : St F_10 (Ow.own 28 17 e_api_Addr vx_18_1 x_18_1 :: Ow.own 77 19 e_api_Want v_3 (([] : List T_api_Want) ++ (cut out_1 0 n_1)) :: Ow.own 77 19 e_api_Want vout_1 out_1 :: Ow.box b_4 77 (c_api_Want ((gi l i_1).1) (.bool x_17_1) vx_18_1).toArray :: fr) h_16 := hS.perm2 [3, 0, 1, 2] 4 rfl rfl
        obtain ⟨F_11, hS, hk, hL_3⟩ := hS.freezeOwn
        replace hK := hK.trans hk
        replace hN_l := hN_l.kp hk
        replace hL_l := hL_l.kp hk
        replace hN_2 := hN_2.kp hk
        replace hN_3 := hN_3.kp hk
        replace hN_8 := hN_8.kp hk
        refine HS.eff rfl (want_none) rfl (st_lit (enc := e_api_Want) (cells := #[.bool (((gi l i_1).1).1), .int .u8 (b8 (((gi l i_1).1).2) 0), .int .u8 (b8 (((gi l i_1).1).2) 1), .int .u8 (b8 (((gi l i_1).1).2) 2), .int .u8 (b8 (((gi l i_1).1).2) 3), .int .u8 (b8 (((gi l i_1).1).2) 4), .int .u8 (b8 (((gi l i_1).1).2) 5), .int .u8 (b8 (((gi l i_1).1).2) 6), .int .u8 (b8 (((gi l i_1).1).2) 7), .int .u8 (b8 (((gi l i_1).1).2) 8), .int .u8 (b8 (((gi l i_1).1).2) 9), .int .u8 (b8 (((gi l i_1).1).2) 10), .int .u8 (b8 (((gi l i_1).1).2) 11), .int .u8 (b8 (((gi l i_1).1).2) 12), .int .u8 (b8 (((gi l i_1).1).2) 13), .int .u8 (b8 (((gi l i_1).1).2) 14), .int .u8 (b8 (((gi l i_1).1).2) 15), .bool x_17_1, vx_18_1]) #[.bool false, .int .u8 0, .int .u8 0, .int .u8 0, .int .u8 0, .int .u8 0, .int .u8 0, .int .u8 0, .int .u8 0, .int .u8 0, .int .u8 0, .int .u8 0, .int .u8 0, .int .u8 0, .int .u8 0, .int .u8 0, .int .u8 0, .bool false, .slice none 0 0] ([(((gi l i_1).1), (x_17_1, (vx_18_1, x_18_1)))] : List T_api_Want) hS tl_71 (by decide) (by decide) (by kernel_rfl) (by kernel_rfl) rfl (by intro x hx; rfl) rfl) ?_
        rintro _ h_17 ⟨b_7, rfl, hS, hk⟩
        replace hK := hK.trans hk
        replace hN_l := hN_l.kp hk
        replace hL_l := hL_l.kp hk
        replace hN_2 := hN_2.kp hk
        replace hN_3 := hN_3.kp hk
        replace hN_8 := hN_8.kp hk
        replace hL_3 := hL_3.kp hk
        have hN_9 : NfL nf_api_Want F_11 h_17 ([(((gi l i_1).1), (x_17_1, (vx_18_1, x_18_1)))] : List T_api_Want) := (NfL.cons (nfm_api_Want (((gi l i_1).1), (x_17_1, (vx_18_1, x_18_1))) hL_3) (NfL.nil _ _ _))
        refine HA.one (k := 7) ⟨⟨(hS.own 2 rfl), (hS.box 3 rfl)⟩, (Go.Wk.at_nil _ _)⟩ (by kernel_rfl) ?_
        refine HS.eff rfl (want_none) rfl (st_append te_71 hS (i := 1) rfl (hS.own 0 rfl).slice rfl rfl rfl (fun a_ ha_ => nfo_api_Want (hN_9.is.all a_ ha_)) ho_14 (by omega)) ?_
        rintro v_4 h_18 ⟨hS, hk⟩
        replace hK := hK.trans hk
        replace hN_l := hN_l.kp hk
        replace hL_l := hL_l.kp hk
        replace hN_2 := hN_2.kp hk
        replace hN_3 := hN_3.kp hk
        replace hN_8 := hN_8.kp hk
        replace hN_9 := hN_9.kp hk
        have hN_10 : NfL nf_api_Want F_11 h_18 ((([] : List T_api_Want) ++ (cut out_1 0 n_1)) ++ ([(((gi l i_1).1), (x_17_1, (vx_18_1, x_18_1)))] : List T_api_Want)) := NfL.app hN_8 hN_9
        refine HA.one (k := 11) ⟨⟨(hS.own 2 rfl), (hS.box 3 rfl)⟩, (Go.Wk.at_nil _ _)⟩ (by kernel_rfl) ?_
        refine HS.eff rfl (want_none) rfl (st_append te_71 hS (i := 1) rfl (cutIs (hS.own 2 rfl).slice n_1 (out_1.length : Int) ho_15.1 ho_15.2.1 ho_15.2.2) rfl rfl rfl (fun a_ ha_ => nfo_api_Want ((NfI.cut hN_3.is _ _).all a_ ha_)) ho_16 (by omega)) ?_
        rintro v_5 h_19 ⟨hS, hk⟩
        replace hK := hK.trans hk
        replace hN_l := hN_l.kp hk
        replace hL_l := hL_l.kp hk
        replace hN_2 := hN_2.kp hk
        replace hN_3 := hN_3.kp hk
        replace hN_10 := hN_10.kp hk
        have hN_11 : NfL nf_api_Want F_11 h_19 (((([] : List T_api_Want) ++ (cut out_1 0 n_1)) ++ ([(((gi l i_1).1), (x_17_1, (vx_18_1, x_18_1)))] : List T_api_Want)) ++ (cut out_1 n_1 (out_1.length : Int))) := NfL.app hN_10 (NfL.cut hN_3 _ _)
        refine HA.val (k := 12) (v := v_5) rfl rfl (by kernel_rfl) (by kernel_rfl) (want_none) rfl (fun _ ⟨c410, c411⟩ => q_assign rfl) ?_
        refine HA.nil ⟨⟨(hS.own 2 rfl), (hS.box 3 rfl)⟩, (Go.Wk.at_nil _ _)⟩ (by kernel_rfl) (blockQ_normal (thenQ_normal (?_)))
        refine HW.region ?_
        refine oM (.int .i64 i_1) rfl rfl ?_
        obtain ⟨ho_17, hM⟩ := hM
        refine oV (.int .i64 (i_1 + 1)) (q_addN _ rfl rfl rfl ho_17.1 ho_17.2) rfl ?_
        refine oA (.int .i64 (i_1 + 1)) rfl rfl ?_
        refine HO.nil (thenQ_normal (?_))
        replace hS : St F_11 (Ow.own 77 19 e_api_Want v_5 (((([] : List T_api_Want) ++ (cut out_1 0 n_1)) ++ ([(((gi l i_1).1), (x_17_1, (vx_18_1, x_18_1)))] : List T_api_Want)) ++ (cut out_1 n_1 (out_1.length : Int))) :: fr) h_19 := hS.perm2 [1] 4 rfl rfl
        rw [hKe_1] at hM
        exact ⟨(((([] : List T_api_Want) ++ (cut out_1 0 n_1)) ++ ([(((gi l i_1).1), (x_17_1, (vx_18_1, x_18_1)))] : List T_api_Want)) ++ (cut out_1 n_1 (out_1.length : Int)), i_1 + 1), ⟨F_11, v_5, rfl, rfl, rfl, rfl, hK, hS, hN_l, hL_l, hN_2, hN_11, hM.1⟩, hM.2⟩
       ·
        replace hS : St F_10 (Ow.own 28 17 e_api_Addr vx_18_1 x_18_1 :: Ow.own 77 19 e_api_Want (.slice (some ⟨b_6, 0, none⟩) 0 0) ([] : List T_api_Want) :: Ow.own 77 19 e_api_Want vout_1 out_1 :: Ow.box b_4 77 (c_api_Want ((gi l i_1).1) (.bool x_17_1) vx_18_1).toArray :: fr) h_15 := hS.perm2 [3, 0, 1, 2] 4 rfl rfl
        obtain ⟨F_11, hS, hk, hL_3⟩ := hS.freezeOwn
        replace hK := hK.trans hk
        replace hN_l := hN_l.kp hk
        replace hL_l := hL_l.kp hk
        replace hN_2 := hN_2.kp hk
        replace hN_3 := hN_3.kp hk
        refine HS.eff rfl (want_none) rfl (st_lit (enc := e_api_Want) (cells := #[.bool (((gi l i_1).1).1), .int .u8 (b8 (((gi l i_1).1).2) 0), .int .u8 (b8 (((gi l i_1).1).2) 1), .int .u8 (b8 (((gi l i_1).1).2) 2), .int .u8 (b8 (((gi l i_1).1).2) 3), .int .u8 (b8 (((gi l i_1).1).2) 4), .int .u8 (b8 (((gi l i_1).1).2) 5), .int .u8 (b8 (((gi l i_1).1).2) 6), .int .u8 (b8 (((gi l i_1).1).2) 7), .int .u8 (b8 (((gi l i_1).1).2) 8), .int .u8 (b8 (((gi l i_1).1).2) 9), .int .u8 (b8 (((gi l i_1).1).2) 10), .int .u8 (b8 (((gi l i_1).1).2) 11), .int .u8 (b8 (((gi l i_1).1).2) 12), .int .u8 (b8 (((gi l i_1).1).2) 13), .int .u8 (b8 (((gi l i_1).1).2) 14), .int .u8 (b8 (((gi l i_1).1).2) 15), .bool x_17_1, vx_18_1]) #[.bool false, .int .u8 0, .int .u8 0, .int .u8 0, .int .u8 0, .int .u8 0, .int .u8 0, .int .u8 0, .int .u8 0, .int .u8 0, .int .u8 0, .int .u8 0, .int .u8 0, .int .u8 0, .int .u8 0, .int .u8 0, .int .u8 0, .bool false, .slice none 0 0] ([(((gi l i_1).1), (x_17_1, (vx_18_1, x_18_1)))] : List T_api_Want) hS tl_71 (by decide) (by decide) (by kernel_rfl) (by kernel_rfl) rfl (by intro x hx; rfl) rfl) ?_
        rintro _ h_16 ⟨b_7, rfl, hS, hk⟩
        replace hK := hK.trans hk
        replace hN_l := hN_l.kp hk
        replace hL_l := hL_l.kp hk
        replace hN_2 := hN_2.kp hk
        replace hN_3 := hN_3.kp hk
        replace hL_3 := hL_3.kp hk
        have hN_8 : NfL nf_api_Want F_11 h_16 ([(((gi l i_1).1), (x_17_1, (vx_18_1, x_18_1)))] : List T_api_Want) := (NfL.cons (nfm_api_Want (((gi l i_1).1), (x_17_1, (vx_18_1, x_18_1))) hL_3) (NfL.nil _ _ _))
        refine HA.one (k := 4) ⟨⟨(hS.own 2 rfl), (hS.box 3 rfl)⟩, (Go.Wk.at_nil _ _)⟩ (by kernel_rfl) ?_
        refine HS.eff rfl (want_none) rfl (st_append te_71 hS (i := 1) rfl (cutIs (hS.own 2 rfl).slice 0 n_1 ho_12.1 ho_12.2.1 ho_12.2.2) rfl rfl rfl (fun a_ ha_ => nfo_api_Want ((NfI.cut hN_3.is _ _).all a_ ha_)) ho_13 (by omega)) ?_
        rintro v_3 h_17 ⟨hS, hk⟩
        replace hK := hK.trans hk
        replace hN_l := hN_l.kp hk
        replace hL_l := hL_l.kp hk
        replace hN_2 := hN_2.kp hk
        replace hN_3 := hN_3.kp hk
        replace hN_8 := hN_8.kp hk
        have hN_9 : NfL nf_api_Want F_11 h_17 (([] : List T_api_Want) ++ (cut out_1 0 n_1)) := NfL.app hN_2 (NfL.cut hN_3 _ _)
        refine HA.one (k := 7) ⟨⟨(hS.own 2 rfl), (hS.box 3 rfl)⟩, (Go.Wk.at_nil _ _)⟩ (by kernel_rfl) ?_
        refine HS.eff rfl (want_none) rfl (st_append te_71 hS (i := 1) rfl (hS.own 0 rfl).slice rfl rfl rfl (fun a_ ha_ => nfo_api_Want (hN_8.is.all a_ ha_)) ho_14 (by omega)) ?_
        rintro v_4 h_18 ⟨hS, hk⟩
        replace hK := hK.trans hk
        replace hN_l := hN_l.kp hk
        replace hL_l := hL_l.kp hk
        replace hN_2 := hN_2.kp hk
        replace hN_3 := hN_3.kp hk
        replace hN_8 := hN_8.kp hk
        replace hN_9 := hN_9.kp hk
        have hN_10 : NfL nf_api_Want F_11 h_18 ((([] : List T_api_Want) ++ (cut out_1 0 n_1)) ++ ([(((gi l i_1).1), (x_17_1, (vx_18_1, x_18_1)))] : List T_api_Want)) := NfL.app hN_9 hN_8
        refine HA.one (k := 11) ⟨⟨(hS.own 2 rfl), (hS.box 3 rfl)⟩, (Go.Wk.at_nil _ _)⟩ (by kernel_rfl) ?_
        refine HS.eff rfl (want_none) rfl (st_append te_71 hS (i := 1) rfl (cutIs (hS.own 2 rfl).slice n_1 (out_1.length : Int) ho_15.1 ho_15.2.1 ho_15.2.2) rfl rfl rfl (fun a_ ha_ => nfo_api_Want ((NfI.cut hN_3.is _ _).all a_ ha_)) ho_16 (by omega)) ?_
        rintro v_5 h_19 ⟨hS, hk⟩
        replace hK := hK.trans hk
        replace hN_l := hN_l.kp hk
        replace hL_l := hL_l.kp hk
        replace hN_2 := hN_2.kp hk
        replace hN_3 := hN_3.kp hk
        replace hN_10 := hN_10.kp hk
        have hN_11 : NfL nf_api_Want F_11 h_19 (((([] : List T_api_Want) ++ (cut out_1 0 n_1)) ++ ([(((gi l i_1).1), (x_17_1, (vx_18_1, x_18_1)))] : List T_api_Want)) ++ (cut out_1 n_1 (out_1.length : Int))) := NfL.app hN_10 (NfL.cut hN_3 _ _)
        refine HA.val (k := 12) (v := v_5) rfl rfl (by kernel_rfl) (by kernel_rfl) (want_none) rfl (fun _ ⟨c410, c411⟩ => q_assign rfl) ?_
        refine HA.nil ⟨⟨(hS.own 2 rfl), (hS.box 3 rfl)⟩, (Go.Wk.at_nil _ _)⟩ (by kernel_rfl) (blockQ_normal (thenQ_normal (?_)))
        refine HW.region ?_
        refine oM (.int .i64 i_1) rfl rfl ?_
        obtain ⟨ho_17, hM⟩ := hM
        refine oV (.int .i64 (i_1 + 1)) (q_addN _ rfl rfl rfl ho_17.1 ho_17.2) rfl ?_
        refine oA (.int .i64 (i_1 + 1)) rfl rfl ?_
        refine HO.nil (thenQ_normal (?_))
        replace hS : St F_11 (Ow.own 77 19 e_api_Want v_5 (((([] : List T_api_Want) ++ (cut out_1 0 n_1)) ++ ([(((gi l i_1).1), (x_17_1, (vx_18_1, x_18_1)))] : List T_api_Want)) ++ (cut out_1 n_1 (out_1.length : Int))) :: fr) h_19 := hS.perm2 [1] 4 rfl rfl
        rw [hKe_1] at hM
        exact ⟨(((([] : List T_api_Want) ++ (cut out_1 0 n_1)) ++ ([(((gi l i_1).1), (x_17_1, (vx_18_1, x_18_1)))] : List T_api_Want)) ++ (cut out_1 n_1 (out_1.length : Int)), i_1 + 1), ⟨F_11, v_5, rfl, rfl, rfl, rfl, hK, hS, hN_l, hL_l, hN_2, hN_11, hM.1⟩, hM.2⟩
      ·
       replace hS : St F_10 (Ow.own 28 17 e_api_Addr vx_18_1 x_18_1 :: Ow.own 77 19 e_api_Want vout_1 out_1 :: Ow.box b_4 77 (c_api_Want ((gi l i_1).1) (.bool x_17_1) vx_18_1).toArray :: fr) h_14 := hS.perm2 [2, 0, 1] 3 rfl rfl
       obtain ⟨F_11, hS, hk, hL_3⟩ := hS.freezeOwn
       replace hK := hK.trans hk
       replace hN_l := hN_l.kp hk
       replace hL_l := hL_l.kp hk
       replace hN_2 := hN_2.kp hk
       replace hN_3 := hN_3.kp hk
       refine HS.eff rfl (want_none) rfl (st_lit (enc := e_api_Want) (cells := #[.bool (((gi l i_1).1).1), .int .u8 (b8 (((gi l i_1).1).2) 0), .int .u8 (b8 (((gi l i_1).1).2) 1), .int .u8 (b8 (((gi l i_1).1).2) 2), .int .u8 (b8 (((gi l i_1).1).2) 3), .int .u8 (b8 (((gi l i_1).1).2) 4), .int .u8 (b8 (((gi l i_1).1).2) 5), .int .u8 (b8 (((gi l i_1).1).2) 6), .int .u8 (b8 (((gi l i_1).1).2) 7), .int .u8 (b8 (((gi l i_1).1).2) 8), .int .u8 (b8 (((gi l i_1).1).2) 9), .int .u8 (b8 (((gi l i_1).1).2) 10), .int .u8 (b8 (((gi l i_1).1).2) 11), .int .u8 (b8 (((gi l i_1).1).2) 12), .int .u8 (b8 (((gi l i_1).1).2) 13), .int .u8 (b8 (((gi l i_1).1).2) 14), .int .u8 (b8 (((gi l i_1).1).2) 15), .bool x_17_1, vx_18_1]) #[.bool false, .int .u8 0, .int .u8 0, .int .u8 0, .int .u8 0, .int .u8 0, .int .u8 0, .int .u8 0, .int .u8 0, .int .u8 0, .int .u8 0, .int .u8 0, .int .u8 0, .int .u8 0, .int .u8 0, .int .u8 0, .int .u8 0, .bool false, .slice none 0 0] ([(((gi l i_1).1), (x_17_1, (vx_18_1, x_18_1)))] : List T_api_Want) hS tl_71 (by decide) (by decide) (by kernel_rfl) (by kernel_rfl) rfl (by intro x hx; rfl) rfl) ?_
       rintro _ h_15 ⟨b_6, rfl, hS, hk⟩
       replace hK := hK.trans hk
       replace hN_l := hN_l.kp hk
       replace hL_l := hL_l.kp hk
       replace hN_2 := hN_2.kp hk
       replace hN_3 := hN_3.kp hk
       replace hL_3 := hL_3.kp hk
       have hN_8 : NfL nf_api_Want F_11 h_15 ([(((gi l i_1).1), (x_17_1, (vx_18_1, x_18_1)))] : List T_api_Want) := (NfL.cons (nfm_api_Want (((gi l i_1).1), (x_17_1, (vx_18_1, x_18_1))) hL_3) (NfL.nil _ _ _))
       refine HA.one (k := 0) ⟨⟨(hS.own 1 rfl), (hS.box 2 rfl)⟩, (Go.Wk.at_nil _ _)⟩ (by kernel_rfl) ?_
       refine HS.eff rfl (want_none) rfl (st_litEmpty (α := T_api_Want) e_api_Want hS tl_71) ?_
       rintro _ h_16 ⟨b_7, rfl, hS, hk⟩
       replace hK := hK.trans hk
       replace hN_l := hN_l.kp hk
       replace hL_l := hL_l.kp hk
       replace hN_2 := hN_2.kp hk
       replace hN_3 := hN_3.kp hk
       replace hN_8 := hN_8.kp hk
       refine HA.one (k := 4) ⟨⟨(hS.own 2 rfl), (hS.box 3 rfl)⟩, (Go.Wk.at_nil _ _)⟩ (by kernel_rfl) ?_
       refine HS.eff rfl (want_none) rfl (st_append te_71 hS (i := 0) rfl (cutIs (hS.own 2 rfl).slice 0 n_1 ho_12.1 ho_12.2.1 ho_12.2.2) rfl rfl rfl (fun a_ ha_ => nfo_api_Want ((NfI.cut hN_3.is _ _).all a_ ha_)) ho_13 (by omega)) ?_
       rintro v_3 h_17 ⟨hS, hk⟩
       replace hK := hK.trans hk
       replace hN_l := hN_l.kp hk
       replace hL_l := hL_l.kp hk
       replace hN_2 := hN_2.kp hk
       replace hN_3 := hN_3.kp hk
       replace hN_8 := hN_8.kp hk
       have hN_9 : NfL nf_api_Want F_11 h_17 (([] : List T_api_Want) ++ (cut out_1 0 n_1)) := NfL.app hN_2 (NfL.cut hN_3 _ _)
       refine HA.one (k := 7) ⟨⟨(hS.own 2 rfl), (hS.box 3 rfl)⟩, (Go.Wk.at_nil _ _)⟩ (by kernel_rfl) ?_
       refine HS.eff rfl (want_none) rfl (st_append te_71 hS (i := 0) rfl (hS.own 1 rfl).slice rfl rfl rfl (fun a_ ha_ => nfo_api_Want (hN_8.is.all a_ ha_)) ho_14 (by omega)) ?_
       rintro v_4 h_18 ⟨hS, hk⟩
       replace hK := hK.trans hk
       replace hN_l := hN_l.kp hk
       replace hL_l := hL_l.kp hk
       replace hN_2 := hN_2.kp hk
       replace hN_3 := hN_3.kp hk
       replace hN_8 := hN_8.kp hk
       replace hN_9 := hN_9.kp hk
       have hN_10 : NfL nf_api_Want F_11 h_18 ((([] : List T_api_Want) ++ (cut out_1 0 n_1)) ++ ([(((gi l i_1).1), (x_17_1, (vx_18_1, x_18_1)))] : List T_api_Want)) := NfL.app hN_9 hN_8
       refine HA.one (k := 11) ⟨⟨(hS.own 2 rfl), (hS.box 3 rfl)⟩, (Go.Wk.at_nil _ _)⟩ (by kernel_rfl) ?_
       refine HS.eff rfl (want_none) rfl (st_append te_71 hS (i := 0) rfl (cutIs (hS.own 2 rfl).slice n_1 (out_1.length : Int) ho_15.1 ho_15.2.1 ho_15.2.2) rfl rfl rfl (fun a_ ha_ => nfo_api_Want ((NfI.cut hN_3.is _ _).all a_ ha_)) ho_16 (by omega)) ?_
       rintro v_5 h_19 ⟨hS, hk⟩
       replace hK := hK.trans hk
       replace hN_l := hN_l.kp hk
       replace hL_l := hL_l.kp hk
       replace hN_2 := hN_2.kp hk
       replace hN_3 := hN_3.kp hk
       replace hN_10 := hN_10.kp hk
       have hN_11 : NfL nf_api_Want F_11 h_19 (((([] : List T_api_Want) ++ (cut out_1 0 n_1)) ++ ([(((gi l i_1).1), (x_17_1, (vx_18_1, x_18_1)))] : List T_api_Want)) ++ (cut out_1 n_1 (out_1.length : Int))) := NfL.app hN_10 (NfL.cut hN_3 _ _)
       refine HA.val (k := 12) (v := v_5) rfl rfl (by kernel_rfl) (by kernel_rfl) (want_none) rfl (fun _ ⟨c410, c411⟩ => q_assign rfl) ?_
       refine HA.nil ⟨⟨(hS.own 2 rfl), (hS.box 3 rfl)⟩, (Go.Wk.at_nil _ _)⟩ (by kernel_rfl) (blockQ_normal (thenQ_normal (?_)))
       refine HW.region ?_
       refine oM (.int .i64 i_1) rfl rfl ?_
       obtain ⟨ho_17, hM⟩ := hM
       refine oV (.int .i64 (i_1 + 1)) (q_addN _ rfl rfl rfl ho_17.1 ho_17.2) rfl ?_
       refine oA (.int .i64 (i_1 + 1)) rfl rfl ?_
       refine HO.nil (thenQ_normal (?_))
       replace hS : St F_11 (Ow.own 77 19 e_api_Want v_5 (((([] : List T_api_Want) ++ (cut out_1 0 n_1)) ++ ([(((gi l i_1).1), (x_17_1, (vx_18_1, x_18_1)))] : List T_api_Want)) ++ (cut out_1 n_1 (out_1.length : Int))) :: fr) h_19 := hS.perm2 [0] 4 rfl rfl
       rw [hKe_1] at hM
       exact ⟨(((([] : List T_api_Want) ++ (cut out_1 0 n_1)) ++ ([(((gi l i_1).1), (x_17_1, (vx_18_1, x_18_1)))] : List T_api_Want)) ++ (cut out_1 n_1 (out_1.length : Int)), i_1 + 1), ⟨F_11, v_5, rfl, rfl, rfl, rfl, hK, hS, hN_l, hL_l, hN_2, hN_11, hM.1⟩, hM.2⟩
 ·
  replace hM := hM.2 (of_decide_eq_false c_1)
  refine HW.exit (thenQ_exit (thenQ_exit (blockQ_exit (thenQ_normal (?_)))))
  refine HW.seq ?_
  refine HW.region ?_
  refine HO.eff (want_none) rfl (st_litEmpty (α := T_api_Want) e_api_Want hS tl_71) ?_
  rintro _ h_20 ⟨b_8, rfl, hS, hk⟩
  replace hK := hK.trans hk
  replace hN_l := hN_l.kp hk
  replace hL_l := hL_l.kp hk
  replace hN_2 := hN_2.kp hk
  replace hN_3 := hN_3.kp hk
  refine oA (.slice (some ⟨b_8, 0, none⟩) 0 0) rfl rfl ?_
  refine HO.nil (thenQ_normal (?_))
  refine HW.seq ?_
  refine HW.seq ?_
  refine HW.region ?_
  refine oA (.int .i64 0) rfl rfl ?_
  refine HO.nil (thenQ_normal (?_))
  refine HW.block ?_
  obtain ⟨I_4, m_4, hI_4, hR_4⟩ := hM
  replace hS : St F_1 (Ow.own 77 19 e_api_Want vout_1 out_1 :: Ow.own 77 19 e_api_Want (.slice (some ⟨b_8, 0, none⟩) 0 0) ([] : List T_api_Want) :: fr) h_20 := hS.perm2 [1, 0] 2 rfl rfl
  refine HW.loop (S := List T_api_Want × Int) (fun s f h => match s with | (some_1, i_2) => ∃ (F' : Fz) (vsome_1 : Value), f 2 = .slice none 0 0 ∧ f 3 = vout_1 ∧ f 9 = vsome_1 ∧ f 10 = .int .i64 i_2 ∧ Kp F h0 F' h ∧ St F' (Ow.own 77 19 e_api_Want vout_1 out_1 :: Ow.own 77 19 e_api_Want vsome_1 some_1 :: fr) h ∧ (NfL nf_api_Want F' h l) ∧ (SliceF F' h 19 e_api_Want vl l) ∧ (NfL nf_api_Want F' h ([] : List T_api_Want)) ∧ (NfL nf_api_Want F' h out_1) ∧ (NfL nf_api_Want F' h some_1) ∧ I_4 (some_1, i_2)) m_4 ([], 0) ⟨F_1, .slice (some ⟨b_8, 0, none⟩) 0 0, rfl, rfl, rfl, rfl, hK, hS, hN_l, hL_l, hN_2, hN_3, hN_2, hI_4⟩ ?_
  rintro ⟨some_1, i_2⟩ f_6 h_21 ⟨F_12, vsome_1, e2, e3, e9, e10, hK, hS, hN_l, hL_l, hN_2, hN_3, hN_12, hI0⟩
  obtain ⟨K_4, hKe_4⟩ : ∃ K : (List T_api_Want) → Int → Prop, K = fun some_1' i_2' => I_4 (some_1', i_2') ∧ m_4 (some_1', i_2') < m_4 (some_1, i_2) := ⟨_, rfl⟩
  have hM : ref24_Gather_l5 Q out_1 K_4 some_1 i_2 := by rw [hKe_4]; exact hR_4 (some_1, i_2) hI0
  unfold ref24_Gather_l5 at hM
  refine HW.fr [(2, .slice none 0 0), (3, vout_1), (9, vsome_1), (10, .int .i64 i_2)] ⟨e2, e3, e9, e10, trivial⟩ ?_
  refine HW.seq ?_
  refine HW.seq ?_
  refine HW.region ?_
  refine oM (.int .i64 i_2) rfl rfl ?_
  refine oM (vout_1) rfl rfl ?_
  refine oV (.int .i64 (out_1.length : Int)) (q_len ts_71 (shp (hS.own 0 rfl).slice) rfl rfl) rfl ?_
  refine oV (.bool (decide (i_2 < (out_1.length : Int)))) (q_lss rfl rfl) rfl ?_
  refine HO.nil (thenQ_normal (?_))
  refine HW.cond (decide (i_2 < (out_1.length : Int))) rfl (fun c_7 => ?_) (fun c_7 => ?_)
  ·
   replace hM := hM.1 (of_decide_eq_true c_7)
   refine HW.skip (thenQ_normal (?_))
   refine HW.seq ?_
   refine HW.block ?_
   refine HW.seq ?_
   refine HW.region ?_
   refine oM (vout_1) rfl rfl ?_
   refine oM (.int .i64 i_2) rfl rfl ?_
   obtain ⟨ho_18, hM⟩ := hM
   refine oV (elemPtr 19 vout_1 (i_2).toNat) (q_idx ts_71 (hS.own 0 rfl).slice rfl rfl ho_18) rfl ?_
   refine oV (fieldPtr 19 vout_1 (i_2).toNat 17) (q_fldElem fa_77_1 (hS.own 0 rfl).slice rfl ho_18) rfl ?_
   refine oV (.agg #[.bool (((gi out_1 i_2).2).1), (((gi out_1 i_2).2).2).1]) (q_ldFieldAgg (n := 2) (cs := [.bool (((gi out_1 i_2).2).1), (((gi out_1 i_2).2).2).1]) ta_50 (hS.own 0 rfl).slice rfl ho_18 (by decide) rfl) rfl ?_
   refine HO.call (want_none) rfl (ec en_81 rfl rfl) (ref19_None_walk (fr := (Ow.own 77 19 e_api_Want vout_1 out_1 :: Ow.own 77 19 e_api_Want vsome_1 some_1 :: fr)) (((gi out_1 i_2).2).1) ((((gi out_1 i_2).2).2).2) ((((gi out_1 i_2).2).2).1) hS (nff_api_Want_18 (NfL.at hN_3 ho_18)) hM) ?_
   rintro _ h_22 ⟨F_13, r_4, rfl, hk, hS, _, hM⟩
   replace hK := hK.trans hk
   replace hN_l := hN_l.kp hk
   replace hL_l := hL_l.kp hk
   replace hN_2 := hN_2.kp hk
   replace hN_3 := hN_3.kp hk
   replace hN_12 := hN_12.kp hk
   refine oV (.bool (!r_4)) (q_not rfl) rfl ?_
   refine HO.nil (thenQ_normal (?_))
   refine HW.cond (!r_4) rfl (fun c_8 => ?_) (fun c_8 => ?_)
   ·
    replace hM := hM.1 c_8
    refine HW.region ?_
    refine oM (vsome_1) rfl rfl ?_
    refine oM (vout_1) rfl rfl ?_
    refine oM (.int .i64 i_2) rfl rfl ?_
    refine oV (elemPtr 19 vout_1 (i_2).toNat) (q_idx ts_71 (hS.own 0 rfl).slice rfl rfl ho_18) rfl ?_
    refine oV (.agg (c_api_Want ((gi out_1 i_2).1) (.bool (((gi out_1 i_2).2).1)) ((((gi out_1 i_2).2).2).1)).toArray) (q_ldElemAgg (cs := (c_api_Want ((gi out_1 i_2).1) (.bool (((gi out_1 i_2).2).1)) ((((gi out_1 i_2).2).2).1))) ta_77 (hS.own 0 rfl).slice rfl ho_18 rfl) rfl ?_
    refine HO.eff (want_none) rfl (st_lit (enc := e_api_Want) (cells := #[.bool (((gi out_1 i_2).1).1), .int .u8 (b8 (((gi out_1 i_2).1).2) 0), .int .u8 (b8 (((gi out_1 i_2).1).2) 1), .int .u8 (b8 (((gi out_1 i_2).1).2) 2), .int .u8 (b8 (((gi out_1 i_2).1).2) 3), .int .u8 (b8 (((gi out_1 i_2).1).2) 4), .int .u8 (b8 (((gi out_1 i_2).1).2) 5), .int .u8 (b8 (((gi out_1 i_2).1).2) 6), .int .u8 (b8 (((gi out_1 i_2).1).2) 7), .int .u8 (b8 (((gi out_1 i_2).1).2) 8), .int .u8 (b8 (((gi out_1 i_2).1).2) 9), .int .u8 (b8 (((gi out_1 i_2).1).2) 10), .int .u8 (b8 (((gi out_1 i_2).1).2) 11), .int .u8 (b8 (((gi out_1 i_2).1).2) 12), .int .u8 (b8 (((gi out_1 i_2).1).2) 13), .int .u8 (b8 (((gi out_1 i_2).1).2) 14), .int .u8 (b8 (((gi out_1 i_2).1).2) 15), .bool (((gi out_1 i_2).2).1), (((gi out_1 i_2).2).2).1]) #[.bool false, .int .u8 0, .int .u8 0, .int .u8 0, .int .u8 0, .int .u8 0, .int .u8 0, .int .u8 0, .int .u8 0, .int .u8 0, .int .u8 0, .int .u8 0, .int .u8 0, .int .u8 0, .int .u8 0, .int .u8 0, .int .u8 0, .bool false, .slice none 0 0] ([(((gi out_1 i_2).1), (((gi out_1 i_2).2).1, (((gi out_1 i_2).2).2)))] : List T_api_Want) hS tl_71 (by decide) (by decide) (by kernel_rfl) (by kernel_rfl) rfl (by intro x hx; rfl) rfl) ?_
    rintro _ h_23 ⟨b_9, rfl, hS, hk⟩
    replace hK := hK.trans hk
    replace hN_l := hN_l.kp hk
    replace hL_l := hL_l.kp hk
    replace hN_2 := hN_2.kp hk
    replace hN_3 := hN_3.kp hk
    replace hN_12 := hN_12.kp hk
    have hN_13 : NfL nf_api_Want F_13 h_23 ([(((gi out_1 i_2).1), (((gi out_1 i_2).2).1, (((gi out_1 i_2).2).2)))] : List T_api_Want) := (NfL.cons (nfm_api_Want (((gi out_1 i_2).1), (((gi out_1 i_2).2).1, (((gi out_1 i_2).2).2))) (nff_api_Want_18 (NfL.at hN_3 ho_18))) (NfL.nil _ _ _))
    obtain ⟨ho_19, hM⟩ := hM
    refine HO.eff (want_none) rfl (st_append te_71 hS (i := 2) rfl (hS.own 0 rfl).slice rfl rfl rfl (fun a_ ha_ => nfo_api_Want (hN_13.is.all a_ ha_)) ho_19 (by omega)) ?_
    rintro v_6 h_24 ⟨hS, hk⟩
    replace hK := hK.trans hk
    replace hN_l := hN_l.kp hk
    replace hL_l := hL_l.kp hk
    replace hN_2 := hN_2.kp hk
    replace hN_3 := hN_3.kp hk
    replace hN_12 := hN_12.kp hk
    replace hN_13 := hN_13.kp hk
    have hN_14 : NfL nf_api_Want F_13 h_24 (some_1 ++ ([(((gi out_1 i_2).1), (((gi out_1 i_2).2).1, (((gi out_1 i_2).2).2)))] : List T_api_Want)) := NfL.app hN_12 hN_13
    refine oA (v_6) rfl rfl ?_
    refine HO.nil (blockQ_normal (thenQ_normal (?_)))
    refine HW.region ?_
    refine oM (.int .i64 i_2) rfl rfl ?_
    obtain ⟨ho_20, hM⟩ := hM
    refine oV (.int .i64 (i_2 + 1)) (q_addN _ rfl rfl rfl ho_20.1 ho_20.2) rfl ?_
    refine oA (.int .i64 (i_2 + 1)) rfl rfl ?_
    refine HO.nil (thenQ_normal (?_))
    replace hS : St F_13 (Ow.own 77 19 e_api_Want vout_1 out_1 :: Ow.own 77 19 e_api_Want v_6 (some_1 ++ ([(((gi out_1 i_2).1), (((gi out_1 i_2).2).1, (((gi out_1 i_2).2).2)))] : List T_api_Want)) :: fr) h_24 := hS.perm2 [1, 2] 3 rfl rfl
    rw [hKe_4] at hM
    exact ⟨(some_1 ++ ([(((gi out_1 i_2).1), (((gi out_1 i_2).2).1, (((gi out_1 i_2).2).2)))] : List T_api_Want), i_2 + 1), ⟨F_13, v_6, rfl, rfl, rfl, rfl, hK, hS, hN_l, hL_l, hN_2, hN_3, hN_14, hM.1⟩, hM.2⟩
   ·
    replace hM := hM.2 c_8
    refine HW.skip (blockQ_normal (thenQ_normal (?_)))
    refine HW.region ?_
    refine oM (.int .i64 i_2) rfl rfl ?_
    obtain ⟨ho_21, hM⟩ := hM
    refine oV (.int .i64 (i_2 + 1)) (q_addN _ rfl rfl rfl ho_21.1 ho_21.2) rfl ?_
    refine oA (.int .i64 (i_2 + 1)) rfl rfl ?_
    refine HO.nil (thenQ_normal (?_))
    rw [hKe_4] at hM
    exact ⟨(some_1, i_2 + 1), ⟨F_13, vsome_1, rfl, rfl, rfl, rfl, hK, hS, hN_l, hL_l, hN_2, hN_3, hN_12, hM.1⟩, hM.2⟩
  ·
   replace hM := hM.2 (of_decide_eq_false c_7)
   refine HW.exit (thenQ_exit (thenQ_exit (blockQ_exit (thenQ_normal (?_)))))
   refine HW.seq ?_
   refine HW.region ?_
   refine oM (vsome_1) rfl rfl ?_
   refine oA (vsome_1) rfl rfl ?_
   refine HO.nil (thenQ_normal (?_))
   refine HW.ret (?_)
   refine ⟨.inr rfl, vsome_1, res1 rfl (rt rfl), ?_⟩
   replace hS : St F_12 (Ow.own 77 19 e_api_Want vsome_1 some_1 :: fr) h_21 := hS.perm2 [1] 2 rfl rfl
   exact ⟨F_12, some_1, vsome_1, rfl, hK, hS, hN_l, hL_l, hN_12, hM⟩
def ref11_Same_l1 (a : List T_api_Addr) (b : List T_api_Addr) (Q : Bool → Prop) (K_1 : Int → Prop) (i_1 : Int) : Prop :=
 (i_1 < (a.length : Int) → ((0 : Int) ≤ i_1 ∧ i_1 < (a.length : Int)) ∧ (((0 : Int) ≤ i_1 ∧ i_1 < (b.length : Int)) ∧ ((¬ (((gi a i_1) : T_api_Addr) = (gi b i_1)) → Q false) ∧ (((gi a i_1) : T_api_Addr) = (gi b i_1) → (I64 (i_1 + 1)) ∧ (K_1 (i_1 + 1)))))) ∧ (¬ (i_1 < (a.length : Int)) → Q true)
def ref11_Same_W (a : List T_api_Addr) (b : List T_api_Addr) (Q : Bool → Prop) : Prop :=
 (¬ ((a.length : Int) = (b.length : Int)) → Q false) ∧ ((a.length : Int) = (b.length : Int) → loopW (fun (K_1 : Int → Prop) (s : Int) => ref11_Same_l1 a b Q K_1 s) 0)
theorem ref11_Same_walk {F : Fz} {fr : List Ow} {h0 : Heap} (a : List T_api_Addr) (b : List T_api_Addr) (va : Value) (vb : Value) (hS : St F (fr) h0) (hL_a : SliceF F h0 17 e_api_Addr va a) (hL_b : SliceF F h0 17 e_api_Addr vb b) {Q : Bool → Prop} (hM : ref11_Same_W a b Q) :
  HC Tryz.prog 132 #[va, vb] h0 fun u h' => ∃ (F' : Fz) (r_1 : Bool), u = .bool r_1 ∧ Kp F h0 F' h' ∧ St F' (fr) h' ∧ (SliceF F' h' 17 e_api_Addr va a) ∧ (SliceF F' h' 17 e_api_Addr vb b) ∧ Q r_1 := by
 unfold ref11_Same_W at hM
 have hK := Kp.refl F h0
 refine HC.of_HW (n := 26) Tryz.func132 rfl rfl (Nat.le_of_ble_eq_true rfl) ?_
 refine HW.seq ?_
 refine HW.region ?_
 refine oA (.bool false) rfl rfl ?_
 refine HO.nil (thenQ_normal (?_))
 refine HW.seq ?_
 refine HW.seq ?_
 refine HW.region ?_
 refine oM (va) rfl rfl ?_
 refine oV (.int .i64 (a.length : Int)) (q_len ts_29 (shp hL_a.is) rfl rfl) rfl ?_
 refine oM (vb) rfl rfl ?_
 refine oV (.int .i64 (b.length : Int)) (q_len ts_29 (shp hL_b.is) rfl rfl) rfl ?_
 refine oV (.bool (!decide ((a.length : Int) = (b.length : Int)))) (q_neq rfl rfl) rfl ?_
 refine HO.nil (thenQ_normal (?_))
 refine HW.cond (!decide ((a.length : Int) = (b.length : Int))) rfl (fun c_1 => ?_) (fun c_1 => ?_)
 ·
  replace hM := hM.1 (nd_true c_1)
  refine HW.seq ?_
  refine HW.region ?_
  refine oA (.bool false) rfl rfl ?_
  refine HO.nil (thenQ_normal (?_))
  refine HW.ret (thenQ_ret (?_))
  refine ⟨.inr rfl, .bool false, res1 rfl (rt rfl), ?_⟩
  exact ⟨F, false, rfl, hK, hS, hL_a, hL_b, hM⟩
 ·
  replace hM := hM.2 (nd_false c_1)
  refine HW.skip (thenQ_normal (?_))
  refine HW.seq ?_
  refine HW.seq ?_
  refine HW.region ?_
  refine oA (.int .i64 0) rfl rfl ?_
  refine HO.nil (thenQ_normal (?_))
  refine HW.block ?_
  obtain ⟨I_1, m_1, hI_1, hR_1⟩ := hM
  refine HW.loop (S := Int) (fun i_1 f h => ∃ (F' : Fz), f 0 = va ∧ f 1 = vb ∧ f 4 = .bool false ∧ f 5 = .int .i64 i_1 ∧ Kp F h0 F' h ∧ St F' (fr) h ∧ (SliceF F' h 17 e_api_Addr va a) ∧ (SliceF F' h 17 e_api_Addr vb b) ∧ I_1 i_1) m_1 0 ⟨F, rfl, rfl, rfl, rfl, hK, hS, hL_a, hL_b, hI_1⟩ ?_
  rintro i_1 f_1 h_1 ⟨F_1, e0, e1, e4, e5, hK, hS, hL_a, hL_b, hI0⟩
  obtain ⟨K_1, hKe_1⟩ : ∃ K : Int → Prop, K = fun i_1' => I_1 i_1' ∧ m_1 i_1' < m_1 i_1 := ⟨_, rfl⟩
  have hM : ref11_Same_l1 a b Q K_1 i_1 := by rw [hKe_1]; exact hR_1 i_1 hI0
  unfold ref11_Same_l1 at hM
  refine HW.fr [(0, va), (1, vb), (4, .bool false), (5, .int .i64 i_1)] ⟨e0, e1, e4, e5, trivial⟩ ?_
  refine HW.seq ?_
  refine HW.seq ?_
  refine HW.region ?_
  refine oM (.int .i64 i_1) rfl rfl ?_
  refine oM (va) rfl rfl ?_
  refine oV (.int .i64 (a.length : Int)) (q_len ts_29 (shp hL_a.is) rfl rfl) rfl ?_
  refine oV (.bool (decide (i_1 < (a.length : Int)))) (q_lss rfl rfl) rfl ?_
  refine HO.nil (thenQ_normal (?_))
  refine HW.cond (decide (i_1 < (a.length : Int))) rfl (fun c_2 => ?_) (fun c_2 => ?_)
  ·
   replace hM := hM.1 (of_decide_eq_true c_2)
   refine HW.skip (thenQ_normal (?_))
   refine HW.seq ?_
   refine HW.block ?_
   refine HW.seq ?_
   refine HW.regionA 9 mixed (fun h => (SliceIs h 17 e_api_Addr va a) ∧ (SliceIs h 17 e_api_Addr vb b)) [] (by kernel_rfl) ?_
   refine HA.val (k := 0) (v := va) rfl rfl (by kernel_rfl) (by kernel_rfl) (want_none) rfl (fun _ ⟨hL_a, hL_b⟩ => q_move rfl) ?_
   refine HA.val (k := 1) (v := .int .i64 i_1) rfl rfl (by kernel_rfl) (by kernel_rfl) (want_none) rfl (fun _ ⟨hL_a, hL_b⟩ => q_move rfl) ?_
   obtain ⟨ho_1, hM⟩ := hM
   refine HA.val (k := 2) (v := elemPtr 17 va (i_1).toNat) rfl rfl (by kernel_rfl) (by kernel_rfl) (want_none) rfl (fun _ ⟨hL_a, hL_b⟩ => q_idx ts_29 hL_a rfl rfl ho_1) ?_
   refine HA.val (k := 3) (v := .agg (e_api_Addr (gi a i_1)).toArray) rfl rfl (by kernel_rfl) (by kernel_rfl) (want_none) rfl (fun _ ⟨hL_a, hL_b⟩ => q_ldElemAgg (cs := (e_api_Addr (gi a i_1))) ta_28 hL_a rfl ho_1 rfl) ?_
   refine HA.val (k := 4) (v := vb) rfl rfl (by kernel_rfl) (by kernel_rfl) (want_none) rfl (fun _ ⟨hL_a, hL_b⟩ => q_move rfl) ?_
   refine HA.val (k := 5) (v := .int .i64 i_1) rfl rfl (by kernel_rfl) (by kernel_rfl) (want_none) rfl (fun _ ⟨hL_a, hL_b⟩ => q_move rfl) ?_
   obtain ⟨ho_2, hM⟩ := hM
   refine HA.val (k := 6) (v := elemPtr 17 vb (i_1).toNat) rfl rfl (by kernel_rfl) (by kernel_rfl) (want_none) rfl (fun _ ⟨hL_a, hL_b⟩ => q_idx ts_29 hL_b rfl rfl ho_2) ?_
   refine HA.val (k := 7) (v := .agg (e_api_Addr (gi b i_1)).toArray) rfl rfl (by kernel_rfl) (by kernel_rfl) (want_none) rfl (fun _ ⟨hL_a, hL_b⟩ => q_ldElemAgg (cs := (e_api_Addr (gi b i_1))) ta_28 hL_b rfl ho_2 rfl) ?_
   refine HA.val (k := 8) (v := .bool (!decide (((gi a i_1) : T_api_Addr) = (gi b i_1)))) rfl rfl (by kernel_rfl) (by kernel_rfl) (want_none) rfl (fun _ ⟨hL_a, hL_b⟩ => q_neqAgg (a := (gi a i_1)) (b := (gi b i_1)) (fun a b w => teq_28 9997 a b w) (by kernel_rfl) rfl rfl rfl rfl) ?_
   refine HA.nil ⟨⟨hL_a.is, hL_b.is⟩, (Go.Wk.at_nil _ _)⟩ (by kernel_rfl) (thenQ_normal (?_))
   refine HW.cond (!decide (((gi a i_1) : T_api_Addr) = (gi b i_1))) rfl (fun c_3 => ?_) (fun c_3 => ?_)
   ·
    replace hM := hM.1 (nd_true c_3)
    refine HW.seq ?_
    refine HW.region ?_
    refine oA (.bool false) rfl rfl ?_
    refine HO.nil (thenQ_normal (?_))
    refine HW.ret (blockQ_ret (thenQ_ret (thenQ_ret (blockQ_ret (thenQ_ret (?_))))))
    refine ⟨.inr rfl, .bool false, res1 rfl (rt rfl), ?_⟩
    exact ⟨F_1, false, rfl, hK, hS, hL_a, hL_b, hM⟩
   ·
    replace hM := hM.2 (nd_false c_3)
    refine HW.skip (blockQ_normal (thenQ_normal (?_)))
    refine HW.region ?_
    refine oM (.int .i64 i_1) rfl rfl ?_
    obtain ⟨ho_3, hM⟩ := hM
    refine oV (.int .i64 (i_1 + 1)) (q_addN _ rfl rfl rfl ho_3.1 ho_3.2) rfl ?_
    refine oA (.int .i64 (i_1 + 1)) rfl rfl ?_
    refine HO.nil (thenQ_normal (?_))
    rw [hKe_1] at hM
    exact ⟨i_1 + 1, ⟨F_1, rfl, rfl, rfl, rfl, hK, hS, hL_a, hL_b, hM.1⟩, hM.2⟩
  ·
   replace hM := hM.2 (of_decide_eq_false c_2)
   refine HW.exit (thenQ_exit (thenQ_exit (blockQ_exit (thenQ_normal (?_)))))
   refine HW.seq ?_
   refine HW.region ?_
   refine oA (.bool true) rfl rfl ?_
   refine HO.nil (thenQ_normal (?_))
   refine HW.ret (?_)
   refine ⟨.inr rfl, .bool true, res1 rfl (rt rfl), ?_⟩
   exact ⟨F_1, true, rfl, hK, hS, hL_a, hL_b, hM⟩
def ref19_Same_W (a_Exclude : Bool) (a_Sources : List T_api_Addr) (b_Exclude : Bool) (b_Sources : List T_api_Addr) (Q : Bool → Prop) : Prop :=
 ((a_Exclude == b_Exclude) = true → ref11_Same_W a_Sources b_Sources (fun r_2 => Q r_2)) ∧ ((a_Exclude == b_Exclude) = false → Q false)
theorem ref19_Same_walk {F : Fz} {fr : List Ow} {h0 : Heap} (a_Exclude : Bool) (a_Sources : List T_api_Addr) (b_Exclude : Bool) (b_Sources : List T_api_Addr) (va_Sources : Value) (vb_Sources : Value) (hS : St F (fr) h0) (hL_a_Sources : SliceF F h0 17 e_api_Addr va_Sources a_Sources) (hL_b_Sources : SliceF F h0 17 e_api_Addr vb_Sources b_Sources) {Q : Bool → Prop} (hM : ref19_Same_W a_Exclude a_Sources b_Exclude b_Sources Q) :
  HC Tryz.prog 77 #[.agg #[.bool a_Exclude, va_Sources], .agg #[.bool b_Exclude, vb_Sources]] h0 fun u h' => ∃ (F' : Fz) (r_1 : Bool), u = .bool r_1 ∧ Kp F h0 F' h' ∧ St F' (fr) h' ∧ (SliceF F' h' 17 e_api_Addr va_Sources a_Sources) ∧ (SliceF F' h' 17 e_api_Addr vb_Sources b_Sources) ∧ Q r_1 := by
 unfold ref19_Same_W at hM
 have hK := Kp.refl F h0
 refine HC.of_HW (n := 17) Tryz.func77 rfl rfl (Nat.le_of_ble_eq_true rfl) ?_
 refine HW.seq ?_
 refine HW.region ?_
 refine HO.eff (want_none) rfl (st_box (c := #[.bool a_Exclude, va_Sources]) (k' := 2) hS rfl rfl) ?_
 rintro _ h_1 ⟨b_1, rfl, hS, hk⟩
 replace hK := hK.trans hk
 replace hL_a_Sources := hL_a_Sources.kp hk
 replace hL_b_Sources := hL_b_Sources.kp hk
 refine HO.eff (want_none) rfl (st_box (c := #[.bool b_Exclude, vb_Sources]) (k' := 2) hS rfl rfl) ?_
 rintro _ h_2 ⟨b_2, rfl, hS, hk⟩
 replace hK := hK.trans hk
 replace hL_a_Sources := hL_a_Sources.kp hk
 replace hL_b_Sources := hL_b_Sources.kp hk
 refine oA (.bool false) rfl rfl ?_
 refine HO.nil (thenQ_normal (?_))
 refine HW.seq ?_
 refine HW.region ?_
 refine oV (.pointer (some ⟨b_1, 0, none⟩)) (q_fieldAddr fa_50_0 rfl rfl) rfl ?_
 refine oV (.bool a_Exclude) (q_load to_4 rfl (Blk.cell (hS.box 1 rfl) rfl)) rfl ?_
 refine oV (.pointer (some ⟨b_2, 0, none⟩)) (q_fieldAddr fa_50_0 rfl rfl) rfl ?_
 refine oV (.bool b_Exclude) (q_load to_4 rfl (Blk.cell (hS.box 0 rfl) rfl)) rfl ?_
 refine oV (.bool (a_Exclude == b_Exclude)) (q_eqlB Tryz.underlying4 rfl rfl) rfl ?_
 refine oM (.bool (a_Exclude == b_Exclude)) rfl rfl ?_
 rcases Bool.eq_false_or_eq_true (a_Exclude == b_Exclude) with c_1 | c_1
 ·
  replace hM := hM.1 c_1
  refine HO.val (v := .pointer (some ⟨b_1, 1, none⟩)) (want_by rfl rfl c_1) rfl (q_fieldAddr fa_50_1 rfl rfl) ?_
  refine HO.val (v := va_Sources) (want_by rfl rfl c_1) rfl (q_load to_29 rfl (Blk.cell (hS.box 1 rfl) rfl)) ?_
  refine HO.val (v := .pointer (some ⟨b_2, 1, none⟩)) (want_by rfl rfl c_1) rfl (q_fieldAddr fa_50_1 rfl rfl) ?_
  refine HO.val (v := vb_Sources) (want_by rfl rfl c_1) rfl (q_load to_29 rfl (Blk.cell (hS.box 0 rfl) rfl)) ?_
  refine HO.call (want_by rfl rfl c_1) rfl (ec en_132 rfl rfl) (ref11_Same_walk (fr := (Ow.box b_2 50 #[.bool b_Exclude, vb_Sources] :: Ow.box b_1 50 #[.bool a_Exclude, va_Sources] :: fr)) a_Sources b_Sources va_Sources vb_Sources hS hL_a_Sources hL_b_Sources hM) ?_
  rintro _ h_3 ⟨F_1, r_2, rfl, hk, hS, _, _, hM⟩
  replace hK := hK.trans hk
  replace hL_a_Sources := hL_a_Sources.kp hk
  replace hL_b_Sources := hL_b_Sources.kp hk
  refine oV (.bool r_2) (q_pickK true rfl c_1 rfl) rfl ?_
  refine oA (.bool r_2) rfl rfl ?_
  refine HO.nil (thenQ_normal (?_))
  refine HW.ret (?_)
  refine ⟨.inr rfl, .bool r_2, res1 rfl (rt rfl), ?_⟩
  replace hS : St F_1 (fr) h_3 := hS.perm2 [] 2 rfl rfl
  exact ⟨F_1, r_2, rfl, hK, hS, hL_a_Sources, hL_b_Sources, hM⟩
 ·
  replace hM := hM.2 c_1
  refine HO.past (past_by rfl rfl c_1) rfl ?_
  refine HO.past (past_by rfl rfl c_1) rfl ?_
  refine HO.past (past_by rfl rfl c_1) rfl ?_
  refine HO.past (past_by rfl rfl c_1) rfl ?_
  refine HO.past (past_by rfl rfl c_1) rfl ?_
  refine oV (.bool false) (q_pickK false rfl c_1 rfl) rfl ?_
  refine oA (.bool false) rfl rfl ?_
  refine HO.nil (thenQ_normal (?_))
  refine HW.ret (?_)
  refine ⟨.inr rfl, .bool false, res1 rfl (rt rfl), ?_⟩
  replace hS : St F (fr) h_2 := hS.perm2 [] 2 rfl rfl
  exact ⟨F, false, rfl, hK, hS, hL_a_Sources, hL_b_Sources, hM⟩
def ref24_Same_l1 (a : List T_api_Want) (b : List T_api_Want) (Q : Bool → Prop) (K_1 : Int → Prop) (i_1 : Int) : Prop :=
 (i_1 < (a.length : Int) → ((0 : Int) ≤ i_1 ∧ i_1 < (a.length : Int)) ∧ (((0 : Int) ≤ i_1 ∧ i_1 < (b.length : Int)) ∧ ((¬ ((((gi a i_1).1) : T_api_Addr) = ((gi b i_1).1)) → Q false) ∧ ((((gi a i_1).1) : T_api_Addr) = ((gi b i_1).1) → ref19_Same_W (((gi a i_1).2).1) ((((gi a i_1).2).2).2) (((gi b i_1).2).1) ((((gi b i_1).2).2).2) (fun r_2 => ((!r_2) = true → Q false) ∧ ((!r_2) = false → (I64 (i_1 + 1)) ∧ (K_1 (i_1 + 1)))))))) ∧ (¬ (i_1 < (a.length : Int)) → Q true)
def ref24_Same_W (a : List T_api_Want) (b : List T_api_Want) (Q : Bool → Prop) : Prop :=
 (¬ ((a.length : Int) = (b.length : Int)) → Q false) ∧ ((a.length : Int) = (b.length : Int) → loopW (fun (K_1 : Int → Prop) (s : Int) => ref24_Same_l1 a b Q K_1 s) 0)
theorem ref24_Same_walk {F : Fz} {fr : List Ow} {h0 : Heap} (a : List T_api_Want) (b : List T_api_Want) (va : Value) (vb : Value) (hS : St F (fr) h0) (hN_a : NfL nf_api_Want F h0 a) (hL_a : SliceF F h0 19 e_api_Want va a) (hN_b : NfL nf_api_Want F h0 b) (hL_b : SliceF F h0 19 e_api_Want vb b) {Q : Bool → Prop} (hM : ref24_Same_W a b Q) :
  HC Tryz.prog 30 #[va, vb] h0 fun u h' => ∃ (F' : Fz) (r_1 : Bool), u = .bool r_1 ∧ Kp F h0 F' h' ∧ St F' (fr) h' ∧ (NfL nf_api_Want F' h' a) ∧ (SliceF F' h' 19 e_api_Want va a) ∧ (NfL nf_api_Want F' h' b) ∧ (SliceF F' h' 19 e_api_Want vb b) ∧ Q r_1 := by
 unfold ref24_Same_W at hM
 have hK := Kp.refl F h0
 refine HC.of_HW (n := 42) Tryz.func30 rfl rfl (Nat.le_of_ble_eq_true rfl) ?_
 refine HW.seq ?_
 refine HW.region ?_
 refine oA (.bool false) rfl rfl ?_
 refine HO.nil (thenQ_normal (?_))
 refine HW.seq ?_
 refine HW.seq ?_
 refine HW.region ?_
 refine oM (va) rfl rfl ?_
 refine oV (.int .i64 (a.length : Int)) (q_len ts_71 (shp hL_a.is) rfl rfl) rfl ?_
 refine oM (vb) rfl rfl ?_
 refine oV (.int .i64 (b.length : Int)) (q_len ts_71 (shp hL_b.is) rfl rfl) rfl ?_
 refine oV (.bool (!decide ((a.length : Int) = (b.length : Int)))) (q_neq rfl rfl) rfl ?_
 refine HO.nil (thenQ_normal (?_))
 refine HW.cond (!decide ((a.length : Int) = (b.length : Int))) rfl (fun c_1 => ?_) (fun c_1 => ?_)
 ·
  replace hM := hM.1 (nd_true c_1)
  refine HW.seq ?_
  refine HW.region ?_
  refine oA (.bool false) rfl rfl ?_
  refine HO.nil (thenQ_normal (?_))
  refine HW.ret (thenQ_ret (?_))
  refine ⟨.inr rfl, .bool false, res1 rfl (rt rfl), ?_⟩
  exact ⟨F, false, rfl, hK, hS, hN_a, hL_a, hN_b, hL_b, hM⟩
 ·
  replace hM := hM.2 (nd_false c_1)
  refine HW.skip (thenQ_normal (?_))
  refine HW.seq ?_
  refine HW.seq ?_
  refine HW.region ?_
  refine oA (.int .i64 0) rfl rfl ?_
  refine HO.nil (thenQ_normal (?_))
  refine HW.block ?_
  obtain ⟨I_1, m_1, hI_1, hR_1⟩ := hM
  refine HW.loop (S := Int) (fun i_1 f h => ∃ (F' : Fz), f 0 = va ∧ f 1 = vb ∧ f 4 = .bool false ∧ f 5 = .int .i64 i_1 ∧ Kp F h0 F' h ∧ St F' (fr) h ∧ (NfL nf_api_Want F' h a) ∧ (SliceF F' h 19 e_api_Want va a) ∧ (NfL nf_api_Want F' h b) ∧ (SliceF F' h 19 e_api_Want vb b) ∧ I_1 i_1) m_1 0 ⟨F, rfl, rfl, rfl, rfl, hK, hS, hN_a, hL_a, hN_b, hL_b, hI_1⟩ ?_
  rintro i_1 f_1 h_1 ⟨F_1, e0, e1, e4, e5, hK, hS, hN_a, hL_a, hN_b, hL_b, hI0⟩
  obtain ⟨K_1, hKe_1⟩ : ∃ K : Int → Prop, K = fun i_1' => I_1 i_1' ∧ m_1 i_1' < m_1 i_1 := ⟨_, rfl⟩
  have hM : ref24_Same_l1 a b Q K_1 i_1 := by rw [hKe_1]; exact hR_1 i_1 hI0
  unfold ref24_Same_l1 at hM
  refine HW.fr [(0, va), (1, vb), (4, .bool false), (5, .int .i64 i_1)] ⟨e0, e1, e4, e5, trivial⟩ ?_
  refine HW.seq ?_
  refine HW.seq ?_
  refine HW.region ?_
  refine oM (.int .i64 i_1) rfl rfl ?_
  refine oM (va) rfl rfl ?_
  refine oV (.int .i64 (a.length : Int)) (q_len ts_71 (shp hL_a.is) rfl rfl) rfl ?_
  refine oV (.bool (decide (i_1 < (a.length : Int)))) (q_lss rfl rfl) rfl ?_
  refine HO.nil (thenQ_normal (?_))
  refine HW.cond (decide (i_1 < (a.length : Int))) rfl (fun c_2 => ?_) (fun c_2 => ?_)
  ·
   replace hM := hM.1 (of_decide_eq_true c_2)
   refine HW.skip (thenQ_normal (?_))
   refine HW.seq ?_
   refine HW.block ?_
   refine HW.seq ?_
   refine HW.regionA 25 mixed (fun h => (SliceIs h 19 e_api_Want va a) ∧ (SliceIs h 19 e_api_Want vb b)) [] (by kernel_rfl) ?_
   refine HA.val (k := 0) (v := va) rfl rfl (by kernel_rfl) (by kernel_rfl) (want_none) rfl (fun _ ⟨hL_a, hL_b⟩ => q_move rfl) ?_
   refine HA.val (k := 1) (v := .int .i64 i_1) rfl rfl (by kernel_rfl) (by kernel_rfl) (want_none) rfl (fun _ ⟨hL_a, hL_b⟩ => q_move rfl) ?_
   obtain ⟨ho_1, hM⟩ := hM
   refine HA.val (k := 2) (v := elemPtr 19 va (i_1).toNat) rfl rfl (by kernel_rfl) (by kernel_rfl) (want_none) rfl (fun _ ⟨hL_a, hL_b⟩ => q_idx ts_71 hL_a rfl rfl ho_1) ?_
   refine HA.val (k := 3) (v := fieldPtr 19 va (i_1).toNat 0) rfl rfl (by kernel_rfl) (by kernel_rfl) (want_none) rfl (fun _ ⟨hL_a, hL_b⟩ => q_fldElem fa_77_0 hL_a rfl ho_1) ?_
   refine HA.val (k := 4) (v := .agg (e_api_Addr ((gi a i_1).1)).toArray) rfl rfl (by kernel_rfl) (by kernel_rfl) (want_none) rfl (fun _ ⟨hL_a, hL_b⟩ => q_ldFieldAgg (n := 17) (cs := (e_api_Addr ((gi a i_1).1))) ta_28 hL_a rfl ho_1 (by decide) rfl) ?_
   refine HA.val (k := 5) (v := vb) rfl rfl (by kernel_rfl) (by kernel_rfl) (want_none) rfl (fun _ ⟨hL_a, hL_b⟩ => q_move rfl) ?_
   refine HA.val (k := 6) (v := .int .i64 i_1) rfl rfl (by kernel_rfl) (by kernel_rfl) (want_none) rfl (fun _ ⟨hL_a, hL_b⟩ => q_move rfl) ?_
   obtain ⟨ho_2, hM⟩ := hM
   refine HA.val (k := 7) (v := elemPtr 19 vb (i_1).toNat) rfl rfl (by kernel_rfl) (by kernel_rfl) (want_none) rfl (fun _ ⟨hL_a, hL_b⟩ => q_idx ts_71 hL_b rfl rfl ho_2) ?_
   refine HA.val (k := 8) (v := fieldPtr 19 vb (i_1).toNat 0) rfl rfl (by kernel_rfl) (by kernel_rfl) (want_none) rfl (fun _ ⟨hL_a, hL_b⟩ => q_fldElem fa_77_0 hL_b rfl ho_2) ?_
   refine HA.val (k := 9) (v := .agg (e_api_Addr ((gi b i_1).1)).toArray) rfl rfl (by kernel_rfl) (by kernel_rfl) (want_none) rfl (fun _ ⟨hL_a, hL_b⟩ => q_ldFieldAgg (n := 17) (cs := (e_api_Addr ((gi b i_1).1))) ta_28 hL_b rfl ho_2 (by decide) rfl) ?_
   refine HA.val (k := 10) (v := .bool (!decide ((((gi a i_1).1) : T_api_Addr) = ((gi b i_1).1)))) rfl rfl (by kernel_rfl) (by kernel_rfl) (want_none) rfl (fun _ ⟨hL_a, hL_b⟩ => q_neqAgg (a := ((gi a i_1).1)) (b := ((gi b i_1).1)) (fun a b w => teq_28 9997 a b w) (by kernel_rfl) rfl rfl rfl rfl) ?_
   refine HA.val (k := 11) (v := .bool (!decide ((((gi a i_1).1) : T_api_Addr) = ((gi b i_1).1)))) rfl rfl (by kernel_rfl) (by kernel_rfl) (want_none) rfl (fun _ ⟨hL_a, hL_b⟩ => q_move rfl) ?_
   rcases Bool.eq_false_or_eq_true (!decide ((((gi a i_1).1) : T_api_Addr) = ((gi b i_1).1))) with c_3 | c_3
   ·
    replace hM := hM.1 (nd_true c_3)
    refine HA.past (k := 12) rfl rfl (by kernel_rfl) (by kernel_rfl) (past_by rfl rfl c_3) rfl ?_
    refine HA.past (k := 13) rfl rfl (by kernel_rfl) (by kernel_rfl) (past_by rfl rfl c_3) rfl ?_
    refine HA.past (k := 14) rfl rfl (by kernel_rfl) (by kernel_rfl) (past_by rfl rfl c_3) rfl ?_
    refine HA.past (k := 15) rfl rfl (by kernel_rfl) (by kernel_rfl) (past_by rfl rfl c_3) rfl ?_
    refine HA.past (k := 16) rfl rfl (by kernel_rfl) (by kernel_rfl) (past_by rfl rfl c_3) rfl ?_
    refine HA.past (k := 17) rfl rfl (by kernel_rfl) (by kernel_rfl) (past_by rfl rfl c_3) rfl ?_
    refine HA.past (k := 18) rfl rfl (by kernel_rfl) (by kernel_rfl) (past_by rfl rfl c_3) rfl ?_
    refine HA.past (k := 19) rfl rfl (by kernel_rfl) (by kernel_rfl) (past_by rfl rfl c_3) rfl ?_
    refine HA.past (k := 20) rfl rfl (by kernel_rfl) (by kernel_rfl) (past_by rfl rfl c_3) rfl ?_
    refine HA.past (k := 21) rfl rfl (by kernel_rfl) (by kernel_rfl) (past_by rfl rfl c_3) rfl ?_
    refine HA.one (k := 22) ⟨⟨hL_a.is, hL_b.is⟩, (Go.Wk.at_nil _ _)⟩ (by kernel_rfl) ?_
    refine HS.past rfl (past_by rfl rfl c_3) rfl ?_
    refine HA.past (k := 23) rfl rfl (by kernel_rfl) (by kernel_rfl) (past_by rfl rfl c_3) rfl ?_
    refine HA.val (k := 24) (v := .bool true) rfl rfl (by kernel_rfl) (by kernel_rfl) (want_none) rfl (fun _ ⟨hL_a, hL_b⟩ => q_pickK true rfl c_3 rfl) ?_
    refine HA.nil ⟨⟨hL_a.is, hL_b.is⟩, (Go.Wk.at_nil _ _)⟩ (by kernel_rfl) (thenQ_normal (?_))
    refine HW.condT rfl ?_
    refine HW.seq ?_
    refine HW.region ?_
    refine oA (.bool false) rfl rfl ?_
    refine HO.nil (thenQ_normal (?_))
    refine HW.ret (blockQ_ret (thenQ_ret (thenQ_ret (blockQ_ret (thenQ_ret (?_))))))
    refine ⟨.inr rfl, .bool false, res1 rfl (rt rfl), ?_⟩
    exact ⟨F_1, false, rfl, hK, hS, hN_a, hL_a, hN_b, hL_b, hM⟩
   ·
    replace hM := hM.2 (nd_false c_3)
    refine HA.val (k := 12) (v := va) rfl rfl (by kernel_rfl) (by kernel_rfl) (want_by rfl rfl c_3) rfl (fun _ ⟨hL_a, hL_b⟩ => q_move rfl) ?_
    refine HA.val (k := 13) (v := .int .i64 i_1) rfl rfl (by kernel_rfl) (by kernel_rfl) (want_by rfl rfl c_3) rfl (fun _ ⟨hL_a, hL_b⟩ => q_move rfl) ?_
    refine HA.val (k := 14) (v := elemPtr 19 va (i_1).toNat) rfl rfl (by kernel_rfl) (by kernel_rfl) (want_by rfl rfl c_3) rfl (fun _ ⟨hL_a, hL_b⟩ => q_idx ts_71 hL_a rfl rfl ho_1) ?_
    refine HA.val (k := 15) (v := fieldPtr 19 va (i_1).toNat 17) rfl rfl (by kernel_rfl) (by kernel_rfl) (want_by rfl rfl c_3) rfl (fun _ ⟨hL_a, hL_b⟩ => q_fldElem fa_77_1 hL_a rfl ho_1) ?_
    refine HA.val (k := 16) (v := .agg #[.bool (((gi a i_1).2).1), (((gi a i_1).2).2).1]) rfl rfl (by kernel_rfl) (by kernel_rfl) (want_by rfl rfl c_3) rfl (fun _ ⟨hL_a, hL_b⟩ => q_ldFieldAgg (n := 2) (cs := [.bool (((gi a i_1).2).1), (((gi a i_1).2).2).1]) ta_50 hL_a rfl ho_1 (by decide) rfl) ?_
    refine HA.val (k := 17) (v := vb) rfl rfl (by kernel_rfl) (by kernel_rfl) (want_by rfl rfl c_3) rfl (fun _ ⟨hL_a, hL_b⟩ => q_move rfl) ?_
    refine HA.val (k := 18) (v := .int .i64 i_1) rfl rfl (by kernel_rfl) (by kernel_rfl) (want_by rfl rfl c_3) rfl (fun _ ⟨hL_a, hL_b⟩ => q_move rfl) ?_
    refine HA.val (k := 19) (v := elemPtr 19 vb (i_1).toNat) rfl rfl (by kernel_rfl) (by kernel_rfl) (want_by rfl rfl c_3) rfl (fun _ ⟨hL_a, hL_b⟩ => q_idx ts_71 hL_b rfl rfl ho_2) ?_
    refine HA.val (k := 20) (v := fieldPtr 19 vb (i_1).toNat 17) rfl rfl (by kernel_rfl) (by kernel_rfl) (want_by rfl rfl c_3) rfl (fun _ ⟨hL_a, hL_b⟩ => q_fldElem fa_77_1 hL_b rfl ho_2) ?_
    refine HA.val (k := 21) (v := .agg #[.bool (((gi b i_1).2).1), (((gi b i_1).2).2).1]) rfl rfl (by kernel_rfl) (by kernel_rfl) (want_by rfl rfl c_3) rfl (fun _ ⟨hL_a, hL_b⟩ => q_ldFieldAgg (n := 2) (cs := [.bool (((gi b i_1).2).1), (((gi b i_1).2).2).1]) ta_50 hL_b rfl ho_2 (by decide) rfl) ?_
    refine HA.one (k := 22) ⟨⟨hL_a.is, hL_b.is⟩, (Go.Wk.at_nil _ _)⟩ (by kernel_rfl) ?_
    refine HS.call rfl (want_by rfl rfl c_3) rfl (ec en_77 rfl rfl) (ref19_Same_walk (fr := (fr)) (((gi a i_1).2).1) ((((gi a i_1).2).2).2) (((gi b i_1).2).1) ((((gi b i_1).2).2).2) ((((gi a i_1).2).2).1) ((((gi b i_1).2).2).1) hS (nff_api_Want_18 (NfL.at hN_a ho_1)) (nff_api_Want_18 (NfL.at hN_b ho_2)) hM) ?_
    rintro _ h_2 ⟨F_2, r_2, rfl, hk, hS, _, _, hM⟩
    replace hK := hK.trans hk
    replace hN_a := hN_a.kp hk
    replace hL_a := hL_a.kp hk
    replace hN_b := hN_b.kp hk
    replace hL_b := hL_b.kp hk
    refine HA.val (k := 23) (v := .bool (!r_2)) rfl rfl (by kernel_rfl) (by kernel_rfl) (want_by rfl rfl c_3) rfl (fun _ ⟨hL_a, hL_b⟩ => q_not rfl) ?_
    refine HA.val (k := 24) (v := .bool (!r_2)) rfl rfl (by kernel_rfl) (by kernel_rfl) (want_none) rfl (fun _ ⟨hL_a, hL_b⟩ => q_pickK false rfl c_3 rfl) ?_
    refine HA.nil ⟨⟨hL_a.is, hL_b.is⟩, (Go.Wk.at_nil _ _)⟩ (by kernel_rfl) (thenQ_normal (?_))
    refine HW.cond (!r_2) rfl (fun c_4 => ?_) (fun c_4 => ?_)
    ·
     replace hM := hM.1 c_4
     refine HW.seq ?_
     refine HW.region ?_
     refine oA (.bool false) rfl rfl ?_
     refine HO.nil (thenQ_normal (?_))
     refine HW.ret (blockQ_ret (thenQ_ret (thenQ_ret (blockQ_ret (thenQ_ret (?_))))))
     refine ⟨.inr rfl, .bool false, res1 rfl (rt rfl), ?_⟩
     exact ⟨F_2, false, rfl, hK, hS, hN_a, hL_a, hN_b, hL_b, hM⟩
    ·
     replace hM := hM.2 c_4
     refine HW.skip (blockQ_normal (thenQ_normal (?_)))
     refine HW.region ?_
     refine oM (.int .i64 i_1) rfl rfl ?_
     obtain ⟨ho_3, hM⟩ := hM
     refine oV (.int .i64 (i_1 + 1)) (q_addN _ rfl rfl rfl ho_3.1 ho_3.2) rfl ?_
     refine oA (.int .i64 (i_1 + 1)) rfl rfl ?_
     refine HO.nil (thenQ_normal (?_))
     rw [hKe_1] at hM
     exact ⟨i_1 + 1, ⟨F_2, rfl, rfl, rfl, rfl, hK, hS, hN_a, hL_a, hN_b, hL_b, hM.1⟩, hM.2⟩
  ·
   replace hM := hM.2 (of_decide_eq_false c_2)
   refine HW.exit (thenQ_exit (thenQ_exit (blockQ_exit (thenQ_normal (?_)))))
   refine HW.seq ?_
   refine HW.region ?_
   refine oA (.bool true) rfl rfl ?_
   refine HO.nil (thenQ_normal (?_))
   refine HW.ret (?_)
   refine ⟨.inr rfl, .bool true, res1 rfl (rt rfl), ?_⟩
   exact ⟨F_1, true, rfl, hK, hS, hN_a, hL_a, hN_b, hL_b, hM⟩
def law24_ProxyGathers_l3 (ask : T_acequialaw24_Ask) (Q : Bool → Prop) (both_1 : List T_api_Want) (r_9 : List T_api_Want) (some_1 : Bool) (K_3 : Bool → Int → Prop) (lets_1 : Bool) (i_3 : Int) : Prop :=
 (i_3 < (r_9.length : Int) → (lets_1 = true → (I64 (i_3 + 1)) ∧ (K_3 true (i_3 + 1))) ∧ (lets_1 = false → ((0 : Int) ≤ i_3 ∧ i_3 < (r_9.length : Int)) ∧ (((((gi r_9 i_3).1) : T_api_Addr) = ask.1 → ref19_Lets_W (((gi r_9 i_3).2).1) ((((gi r_9 i_3).2).2).2) ask.2 (fun r_11 => (I64 (i_3 + 1)) ∧ (K_3 r_11 (i_3 + 1)))) ∧ (¬ ((((gi r_9 i_3).1) : T_api_Addr) = ask.1) → (I64 (i_3 + 1)) ∧ (K_3 false (i_3 + 1)))))) ∧ (¬ (i_3 < (r_9.length : Int)) → ref24_Gather_W both_1 (fun r_12 => ref24_Same_W r_9 r_12 (fun r_13 => (r_13 = true → ((some_1 == lets_1) = true → law24_lives_W  (fun r_14 => Q r_14)) ∧ ((some_1 == lets_1) = false → Q false)) ∧ (r_13 = false → Q false))))
def law24_ProxyGathers_l2 (ask : T_acequialaw24_Ask) (Q : Bool → Prop) (both_1 : List T_api_Want) (r_9 : List T_api_Want) (K_2 : Bool → Int → Prop) (some_1 : Bool) (i_2 : Int) : Prop :=
 (i_2 < (both_1.length : Int) → (some_1 = true → (I64 (i_2 + 1)) ∧ (K_2 true (i_2 + 1))) ∧ (some_1 = false → ((0 : Int) ≤ i_2 ∧ i_2 < (both_1.length : Int)) ∧ (((((gi both_1 i_2).1) : T_api_Addr) = ask.1 → ref19_Lets_W (((gi both_1 i_2).2).1) ((((gi both_1 i_2).2).2).2) ask.2 (fun r_10 => (I64 (i_2 + 1)) ∧ (K_2 r_10 (i_2 + 1)))) ∧ (¬ ((((gi both_1 i_2).1) : T_api_Addr) = ask.1) → (I64 (i_2 + 1)) ∧ (K_2 false (i_2 + 1)))))) ∧ (¬ (i_2 < (both_1.length : Int)) → loopW (fun (K_3 : (Bool × Int) → Prop) (s : Bool × Int) => law24_ProxyGathers_l3 ask Q both_1 r_9 some_1 (fun lets_1 i_3 => K_3 (lets_1, i_3)) s.1 s.2) (false, 0))
def law24_ProxyGathers_l1 (ask : T_acequialaw24_Ask) (Q : Bool → Prop) (r_2 : List T_api_Want) (K_1 : (List T_api_Want) → Int → Prop) (both_1 : List T_api_Want) (i_1 : Int) : Prop :=
 (i_1 < (both_1.length : Int) → ((0 : Int) ≤ i_1 ∧ i_1 < (both_1.length : Int)) ∧ (ref03_Own_W ((gi both_1 i_1).1) (fun r_6 => (I64 (i_1 + 1)) ∧ (K_1 (both_1.set (i_1).toNat (r_6, (((gi both_1 i_1).2).1, (((gi both_1 i_1).2).2)))) (i_1 + 1))))) ∧ (¬ (i_1 < (both_1.length : Int)) → law24_Wants_W both_1 12 (fun r_7 => ((0 : Int) ≤ (r_2.length : Int) ∧ (r_2.length : Int) ≤ (r_7.length : Int)) ∧ (law24_Wants_W both_1 12 (fun r_8 => ((0 : Int) ≤ (r_2.length : Int) ∧ (r_2.length : Int) ≤ (r_8.length : Int)) ∧ (((0 : Int) ≤ 0 ∧ 0 ≤ (r_2.length : Int) ∧ (r_2.length : Int) ≤ (r_7.length : Int)) ∧ (((0 : Int) ≤ (r_2.length : Int) ∧ (r_2.length : Int) ≤ (r_8.length : Int) ∧ (r_8.length : Int) ≤ (r_8.length : Int)) ∧ (∀ vr_5 : Value, (∀ vr_6 : Value, (proxy_Gather_W ([(cutV 19 vr_5 (0 : Int).toNat ((r_2.length : Int)).toNat, cut r_7 0 (r_2.length : Int)), (cutV 19 vr_6 ((r_2.length : Int)).toNat ((r_8.length : Int)).toNat, cut r_8 (r_2.length : Int) (r_8.length : Int))] : List T_s_api_Want) (fun r_9 => loopW (fun (K_2 : (Bool × Int) → Prop) (s : Bool × Int) => law24_ProxyGathers_l2 ask Q both_1 r_9 (fun some_1 i_2 => K_2 (some_1, i_2)) s.1 s.2) (false, 0)))))))))))
def law24_ProxyGathers_W (a : List T_api_Want) (b : List T_api_Want) (ask : T_acequialaw24_Ask) (Q : Bool → Prop) : Prop :=
 law24_Wants_W a 6 (fun r_2 => law24_Wants_W b 6 (fun r_3 => law24_Wants_W r_2 6 (fun r_4 => law24_Wants_W r_3 6 (fun r_5 => ((r_4.length + r_5.length) * 56 ≤ 140737488355328) ∧ (loopW (fun (K_1 : (List T_api_Want × Int) → Prop) (s : List T_api_Want × Int) => law24_ProxyGathers_l1 ask Q r_2 (fun both_1 i_1 => K_1 (both_1, i_1)) s.1 s.2) (r_4 ++ r_5, 0))))))
theorem law24_ProxyGathers_walk {F : Fz} {fr : List Ow} {h0 : Heap} (a : List T_api_Want) (b : List T_api_Want) (ask : T_acequialaw24_Ask) (va : Value) (vb : Value) (hS : St F (fr) h0) (hN_a : NfL nf_api_Want F h0 a) (hL_a : SliceF F h0 19 e_api_Want va a) (hN_b : NfL nf_api_Want F h0 b) (hL_b : SliceF F h0 19 e_api_Want vb b) (hD : DM.on = false) {Q : Bool → Prop} (hM : law24_ProxyGathers_W a b ask Q) :
  HC Tryz.prog 5 #[va, vb, .agg (e_acequialaw24_Ask ask).toArray] h0 fun u h' => ∃ (F' : Fz) (r_1 : Bool), u = .bool r_1 ∧ Kp F h0 F' h' ∧ St F' (fr) h' ∧ (NfL nf_api_Want F' h' a) ∧ (SliceF F' h' 19 e_api_Want va a) ∧ (NfL nf_api_Want F' h' b) ∧ (SliceF F' h' 19 e_api_Want vb b) ∧ Q r_1 := by
 unfold law24_ProxyGathers_W at hM
 have hK := Kp.refl F h0
 refine HC.of_HW (n := 117) Tryz.func5 rfl rfl (Nat.le_of_ble_eq_true rfl) ?_
 refine HW.seq ?_
 refine HW.region ?_
 refine HO.eff (want_none) rfl (st_box (c := (e_acequialaw24_Ask ask).toArray) (k' := 34) hS rfl rfl) ?_
 rintro _ h_1 ⟨b_1, rfl, hS, hk⟩
 replace hK := hK.trans hk
 replace hN_a := hN_a.kp hk
 replace hL_a := hL_a.kp hk
 replace hN_b := hN_b.kp hk
 replace hL_b := hL_b.kp hk
 refine oA (.bool false) rfl rfl ?_
 refine HO.nil (thenQ_normal (?_))
 refine HW.seq ?_
 refine HW.region ?_
 refine oM (va) rfl rfl ?_
 refine HO.call (want_none) rfl (ec en_27 rfl rfl) (law24_Wants_walk (fr := (Ow.box b_1 73 (e_acequialaw24_Ask ask).toArray :: fr)) a 6 va hS hN_a hL_a hM) ?_
 rintro vr_1 h_2 ⟨F_1, r_2, _, rfl, hk, hS, _, _, hL_1, hM⟩
 replace hK := hK.trans hk
 replace hN_a := hN_a.kp hk
 replace hL_a := hL_a.kp hk
 replace hN_b := hN_b.kp hk
 replace hL_b := hL_b.kp hk
 refine oM (vb) rfl rfl ?_
 refine HO.call (want_none) rfl (ec en_27 rfl rfl) (law24_Wants_walk (fr := (Ow.own 77 19 e_api_Want vr_1 r_2 :: Ow.box b_1 73 (e_acequialaw24_Ask ask).toArray :: fr)) b 6 vb hS hN_b hL_b hM) ?_
 rintro vr_2 h_3 ⟨F_2, r_3, _, rfl, hk, hS, _, _, hL_2, hM⟩
 replace hK := hK.trans hk
 replace hN_a := hN_a.kp hk
 replace hL_a := hL_a.kp hk
 replace hN_b := hN_b.kp hk
 replace hL_b := hL_b.kp hk
 replace hL_1 := hL_1.kp hk
 refine oA (vr_1) rfl rfl ?_
 refine oA (vr_2) rfl rfl ?_
 refine HO.nil (thenQ_normal (?_))
 refine HW.seq ?_
 refine HW.region ?_
 refine oM (vr_1) rfl rfl ?_
 replace hS : St F_2 (Ow.own 77 19 e_api_Want vr_1 r_2 :: Ow.own 77 19 e_api_Want vr_2 r_3 :: Ow.box b_1 73 (e_acequialaw24_Ask ask).toArray :: fr) h_3 := hS.perm2 [1, 0, 2] 3 rfl rfl
 obtain ⟨F_3, hS, hk, hL_3⟩ := hS.freezeOwn
 replace hK := hK.trans hk
 replace hN_a := hN_a.kp hk
 replace hL_a := hL_a.kp hk
 replace hN_b := hN_b.kp hk
 replace hL_b := hL_b.kp hk
 replace hL_1 := hL_1.kp hk
 replace hL_2 := hL_2.kp hk
 refine HO.call (want_none) rfl (ec en_27 rfl rfl) (law24_Wants_walk (fr := (Ow.own 77 19 e_api_Want vr_2 r_3 :: Ow.box b_1 73 (e_acequialaw24_Ask ask).toArray :: fr)) r_2 6 vr_1 hS hL_1 hL_3 hM) ?_
 rintro vr_3 h_4 ⟨F_4, r_4, _, rfl, hk, hS, _, _, hL_4, hM⟩
 replace hK := hK.trans hk
 replace hN_a := hN_a.kp hk
 replace hL_a := hL_a.kp hk
 replace hN_b := hN_b.kp hk
 replace hL_b := hL_b.kp hk
 replace hL_1 := hL_1.kp hk
 replace hL_2 := hL_2.kp hk
 replace hL_3 := hL_3.kp hk
 refine oM (vr_2) rfl rfl ?_
 replace hS : St F_4 (Ow.own 77 19 e_api_Want vr_2 r_3 :: Ow.own 77 19 e_api_Want vr_3 r_4 :: Ow.box b_1 73 (e_acequialaw24_Ask ask).toArray :: fr) h_4 := hS.perm2 [1, 0, 2] 3 rfl rfl
 obtain ⟨F_5, hS, hk, hL_5⟩ := hS.freezeOwn
 replace hK := hK.trans hk
 replace hN_a := hN_a.kp hk
 replace hL_a := hL_a.kp hk
 replace hN_b := hN_b.kp hk
 replace hL_b := hL_b.kp hk
 replace hL_1 := hL_1.kp hk
 replace hL_2 := hL_2.kp hk
 replace hL_3 := hL_3.kp hk
 replace hL_4 := hL_4.kp hk
 refine HO.call (want_none) rfl (ec en_27 rfl rfl) (law24_Wants_walk (fr := (Ow.own 77 19 e_api_Want vr_3 r_4 :: Ow.box b_1 73 (e_acequialaw24_Ask ask).toArray :: fr)) r_3 6 vr_2 hS hL_2 hL_5 hM) ?_
 rintro vr_4 h_5 ⟨F_6, r_5, _, rfl, hk, hS, _, _, hL_6, hM⟩
 replace hK := hK.trans hk
 replace hN_a := hN_a.kp hk
 replace hL_a := hL_a.kp hk
 replace hN_b := hN_b.kp hk
 replace hL_b := hL_b.kp hk
 replace hL_1 := hL_1.kp hk
 replace hL_2 := hL_2.kp hk
 replace hL_3 := hL_3.kp hk
 replace hL_4 := hL_4.kp hk
 replace hL_5 := hL_5.kp hk
 obtain ⟨ho_1, hM⟩ := hM
 refine HO.eff (want_none) rfl (st_append te_71 hS (i := 1) rfl (hS.own 0 rfl).slice rfl rfl rfl (fun a_ ha_ => nfo_api_Want (hL_6.is.all a_ ha_)) ho_1 (by omega)) ?_
 rintro v_1 h_6 ⟨hS, hk⟩
 replace hK := hK.trans hk
 replace hN_a := hN_a.kp hk
 replace hL_a := hL_a.kp hk
 replace hN_b := hN_b.kp hk
 replace hL_b := hL_b.kp hk
 replace hL_1 := hL_1.kp hk
 replace hL_2 := hL_2.kp hk
 replace hL_3 := hL_3.kp hk
 replace hL_4 := hL_4.kp hk
 replace hL_5 := hL_5.kp hk
 replace hL_6 := hL_6.kp hk
 have hN_1 : NfL nf_api_Want F_6 h_6 (r_4 ++ r_5) := NfL.app hL_4 hL_6
 refine oA (v_1) rfl rfl ?_
 refine HO.nil (thenQ_normal (?_))
 refine HW.seq ?_
 refine HW.seq ?_
 refine HW.region ?_
 refine oA (.int .i64 0) rfl rfl ?_
 refine HO.nil (thenQ_normal (?_))
 refine HW.block ?_
 obtain ⟨I_1, m_1, hI_1, hR_1⟩ := hM
 replace hS : St F_6 (Ow.box b_1 73 (e_acequialaw24_Ask ask).toArray :: Ow.own 77 19 e_api_Want v_1 (r_4 ++ r_5) :: fr) h_6 := hS.perm2 [2, 1] 3 rfl rfl
 refine HW.loop (S := List T_api_Want × Int) (fun s f h => match s with | (both_1, i_1) => ∃ (F' : Fz), f 0 = vr_1 ∧ f 5 = .pointer (some ⟨b_1, 0, none⟩) ∧ f 6 = .bool false ∧ f 7 = v_1 ∧ f 8 = .int .i64 i_1 ∧ Kp F h0 F' h ∧ St F' (Ow.box b_1 73 (e_acequialaw24_Ask ask).toArray :: Ow.own 77 19 e_api_Want v_1 both_1 :: fr) h ∧ (NfL nf_api_Want F' h a) ∧ (SliceF F' h 19 e_api_Want va a) ∧ (NfL nf_api_Want F' h b) ∧ (SliceF F' h 19 e_api_Want vb b) ∧ (NfL nf_api_Want F' h r_2) ∧ (NfL nf_api_Want F' h r_3) ∧ (SliceF F' h 19 e_api_Want vr_1 r_2) ∧ (NfL nf_api_Want F' h r_4) ∧ (SliceF F' h 19 e_api_Want vr_2 r_3) ∧ (NfL nf_api_Want F' h r_5) ∧ (NfL nf_api_Want F' h (r_4 ++ r_5)) ∧ (NfL nf_api_Want F' h both_1) ∧ I_1 (both_1, i_1)) m_1 (r_4 ++ r_5, 0) ⟨F_6, rfl, rfl, rfl, rfl, rfl, hK, hS, hN_a, hL_a, hN_b, hL_b, hL_1, hL_2, hL_3, hL_4, hL_5, hL_6, hN_1, hN_1, hI_1⟩ ?_
 rintro ⟨both_1, i_1⟩ f_1 h_7 ⟨F_7, e0, e5, e6, e7, e8, hK, hS, hN_a, hL_a, hN_b, hL_b, hL_1, hL_2, hL_3, hL_4, hL_5, hL_6, hN_1, hN_2, hI0⟩
 obtain ⟨K_1, hKe_1⟩ : ∃ K : (List T_api_Want) → Int → Prop, K = fun both_1' i_1' => I_1 (both_1', i_1') ∧ m_1 (both_1', i_1') < m_1 (both_1, i_1) := ⟨_, rfl⟩
 have hM : law24_ProxyGathers_l1 ask Q r_2 K_1 both_1 i_1 := by rw [hKe_1]; exact hR_1 (both_1, i_1) hI0
 unfold law24_ProxyGathers_l1 at hM
 refine HW.fr [(0, vr_1), (5, .pointer (some ⟨b_1, 0, none⟩)), (6, .bool false), (7, v_1), (8, .int .i64 i_1)] ⟨e0, e5, e6, e7, e8, trivial⟩ ?_
 refine HW.seq ?_
 refine HW.seq ?_
 refine HW.region ?_
 refine oM (.int .i64 i_1) rfl rfl ?_
 refine oM (v_1) rfl rfl ?_
 refine oV (.int .i64 (both_1.length : Int)) (q_len ts_71 (shp (hS.own 1 rfl).slice) rfl rfl) rfl ?_
 refine oV (.bool (decide (i_1 < (both_1.length : Int)))) (q_lss rfl rfl) rfl ?_
 refine HO.nil (thenQ_normal (?_))
 refine HW.cond (decide (i_1 < (both_1.length : Int))) rfl (fun c_1 => ?_) (fun c_1 => ?_)
 ·
  replace hM := hM.1 (of_decide_eq_true c_1)
  refine HW.skip (thenQ_normal (?_))
  refine HW.seq ?_
  refine HW.block ?_
  refine HW.region ?_
  refine oM (v_1) rfl rfl ?_
  refine oM (.int .i64 i_1) rfl rfl ?_
  refine oM (v_1) rfl rfl ?_
  refine oM (.int .i64 i_1) rfl rfl ?_
  obtain ⟨ho_2, hM⟩ := hM
  refine oV (elemPtr 19 v_1 (i_1).toNat) (q_idx ts_71 (hS.own 1 rfl).slice rfl rfl ho_2) rfl ?_
  refine oV (fieldPtr 19 v_1 (i_1).toNat 0) (q_fldElem fa_77_0 (hS.own 1 rfl).slice rfl ho_2) rfl ?_
  refine oV (.agg (e_api_Addr ((gi both_1 i_1).1)).toArray) (q_ldFieldAgg (n := 17) (cs := (e_api_Addr ((gi both_1 i_1).1))) ta_28 (hS.own 1 rfl).slice rfl ho_2 (by decide) rfl) rfl ?_
  refine HO.call (want_none) rfl (ec en_28 rfl rfl) (ref03_Own_walk (fr := (Ow.box b_1 73 (e_acequialaw24_Ask ask).toArray :: Ow.own 77 19 e_api_Want v_1 both_1 :: fr)) ((gi both_1 i_1).1) hS hM) ?_
  rintro _ h_8 ⟨F_8, r_6, rfl, hk, hS, hM⟩
  replace hK := hK.trans hk
  replace hN_a := hN_a.kp hk
  replace hL_a := hL_a.kp hk
  replace hN_b := hN_b.kp hk
  replace hL_b := hL_b.kp hk
  replace hL_1 := hL_1.kp hk
  replace hL_2 := hL_2.kp hk
  replace hL_3 := hL_3.kp hk
  replace hL_4 := hL_4.kp hk
  replace hL_5 := hL_5.kp hk
  replace hL_6 := hL_6.kp hk
  replace hN_1 := hN_1.kp hk
  replace hN_2 := hN_2.kp hk
  refine oV (elemPtr 19 v_1 (i_1).toNat) (q_idx ts_71 (hS.own 1 rfl).slice rfl rfl ho_2) rfl ?_
  refine oV (fieldPtr 19 v_1 (i_1).toNat 0) (q_fldElem fa_77_0 (hS.own 1 rfl).slice rfl ho_2) rfl ?_
  refine HO.sto (want_none) rfl (st_storeFieldAgg (a := (r_6, (((gi both_1 i_1).2).1, (((gi both_1 i_1).2).2)))) (t := i_1) (j := 0) hS (i := 1) rfl ta_28 rfl ho_2 (by decide) rfl rfl rfl (one_e_api_Addr _)) ?_
  rintro h_9 ⟨hS, hk⟩
  have hN_3 : NfL nf_api_Want F_8 h_8 (both_1.set (i_1).toNat (r_6, (((gi both_1 i_1).2).1, (((gi both_1 i_1).2).2)))) := NfL.set hN_2 _ (nfm_api_Want (r_6, (((gi both_1 i_1).2).1, (((gi both_1 i_1).2).2))) (nff_api_Want_18 (NfL.at hN_2 ho_2)))
  replace hK := hK.trans hk
  replace hN_a := hN_a.kp hk
  replace hL_a := hL_a.kp hk
  replace hN_b := hN_b.kp hk
  replace hL_b := hL_b.kp hk
  replace hL_1 := hL_1.kp hk
  replace hL_2 := hL_2.kp hk
  replace hL_3 := hL_3.kp hk
  replace hL_4 := hL_4.kp hk
  replace hL_5 := hL_5.kp hk
  replace hL_6 := hL_6.kp hk
  replace hN_1 := hN_1.kp hk
  replace hN_3 := hN_3.kp hk
  refine HO.nil (blockQ_normal (thenQ_normal (?_)))
  refine HW.region ?_
  refine oM (.int .i64 i_1) rfl rfl ?_
  obtain ⟨ho_3, hM⟩ := hM
  refine oV (.int .i64 (i_1 + 1)) (q_addN _ rfl rfl rfl ho_3.1 ho_3.2) rfl ?_
  refine oA (.int .i64 (i_1 + 1)) rfl rfl ?_
  refine HO.nil (thenQ_normal (?_))
  rw [hKe_1] at hM
  exact ⟨(both_1.set (i_1).toNat (r_6, (((gi both_1 i_1).2).1, (((gi both_1 i_1).2).2))), i_1 + 1), ⟨F_8, rfl, rfl, rfl, rfl, rfl, hK, hS, hN_a, hL_a, hN_b, hL_b, hL_1, hL_2, hL_3, hL_4, hL_5, hL_6, hN_1, hN_3, hM.1⟩, hM.2⟩
 ·
  replace hM := hM.2 (of_decide_eq_false c_1)
  refine HW.exit (thenQ_exit (thenQ_exit (blockQ_exit (thenQ_normal (?_)))))
  refine HW.seq ?_
  refine HW.regionA 13 mixed (fun h => (SliceIs h 19 e_api_Want vr_1 r_2)) [] (by kernel_rfl) ?_
  refine HA.val (k := 0) (v := v_1) rfl rfl (by kernel_rfl) (by kernel_rfl) (want_none) rfl (fun _ hL_3 => q_move rfl) ?_
  refine HA.val (k := 2) (v := vr_1) rfl rfl (by kernel_rfl) (by kernel_rfl) (want_none) rfl (fun _ hL_3 => q_move rfl) ?_
  refine HA.val (k := 3) (v := .int .i64 (r_2.length : Int)) rfl rfl (by kernel_rfl) (by kernel_rfl) (want_none) rfl (fun _ hL_3 => q_len ts_71 (shp hL_3) rfl rfl) ?_
  refine HA.val (k := 5) (v := v_1) rfl rfl (by kernel_rfl) (by kernel_rfl) (want_none) rfl (fun _ hL_3 => q_move rfl) ?_
  refine HA.val (k := 7) (v := vr_1) rfl rfl (by kernel_rfl) (by kernel_rfl) (want_none) rfl (fun _ hL_3 => q_move rfl) ?_
  refine HA.val (k := 8) (v := .int .i64 (r_2.length : Int)) rfl rfl (by kernel_rfl) (by kernel_rfl) (want_none) rfl (fun _ hL_3 => q_len ts_71 (shp hL_3) rfl rfl) ?_
  refine HA.one (k := 1) ⟨hL_3.is, (Go.Wk.at_nil _ _)⟩ (by kernel_rfl) ?_
  replace hS : St F_7 (Ow.own 77 19 e_api_Want v_1 both_1 :: Ow.box b_1 73 (e_acequialaw24_Ask ask).toArray :: fr) h_7 := hS.perm2 [1, 0] 2 rfl rfl
  obtain ⟨F_9, hS, hk, hL_7⟩ := hS.freezeOwn
  replace hK := hK.trans hk
  replace hN_a := hN_a.kp hk
  replace hL_a := hL_a.kp hk
  replace hN_b := hN_b.kp hk
  replace hL_b := hL_b.kp hk
  replace hL_1 := hL_1.kp hk
  replace hL_2 := hL_2.kp hk
  replace hL_3 := hL_3.kp hk
  replace hL_4 := hL_4.kp hk
  replace hL_5 := hL_5.kp hk
  replace hL_6 := hL_6.kp hk
  replace hN_1 := hN_1.kp hk
  replace hN_2 := hN_2.kp hk
  refine HS.call rfl (want_none) rfl (ec en_27 rfl rfl) (law24_Wants_walk (fr := (Ow.box b_1 73 (e_acequialaw24_Ask ask).toArray :: fr)) both_1 12 v_1 hS hN_2 hL_7 hM) ?_
  rintro vr_5 h_10 ⟨F_10, r_7, _, rfl, hk, hS, _, _, hL_8, hM⟩
  replace hK := hK.trans hk
  replace hN_a := hN_a.kp hk
  replace hL_a := hL_a.kp hk
  replace hN_b := hN_b.kp hk
  replace hL_b := hL_b.kp hk
  replace hL_1 := hL_1.kp hk
  replace hL_2 := hL_2.kp hk
  replace hL_3 := hL_3.kp hk
  replace hL_4 := hL_4.kp hk
  replace hL_5 := hL_5.kp hk
  replace hL_6 := hL_6.kp hk
  replace hN_1 := hN_1.kp hk
  replace hN_2 := hN_2.kp hk
  replace hL_7 := hL_7.kp hk
  refine Go.Wk.HA.re (fun h => (SliceIs h 19 e_api_Want vr_1 r_2)) [(10, fun h => (OwnIs h 0 77 19 e_api_Want vr_5 r_7))] (fun L_ h_ hL_ hL_3 hs_ => ⟨hL_3, (Go.Wk.at_nil _ _)⟩) ?_
  obtain ⟨ho_4, hM⟩ := hM
  refine Go.Wk.HA.valN (k := 4) (v := cutV 19 vr_5 (0 : Int).toNat ((r_2.length : Int)).toNat) 0 10 (fun h => (OwnIs h 0 77 19 e_api_Want vr_5 r_7)) rfl rfl (by kernel_rfl) (by kernel_rfl) (want_none) rfl rfl (by kernel_rfl) (fun _ hL_3 c364 => q_slH ts_71 c364.slice rfl rfl ho_4) ?_
  refine HA.one (k := 6) ⟨hL_3.is, (at_now (hS.own 0 rfl) (Go.Wk.at_nil _ _))⟩ (by kernel_rfl) ?_
  refine HS.call rfl (want_none) rfl (ec en_27 rfl rfl) (law24_Wants_walk (fr := (Ow.own 77 19 e_api_Want vr_5 r_7 :: Ow.box b_1 73 (e_acequialaw24_Ask ask).toArray :: fr)) both_1 12 v_1 hS hN_2 hL_7 hM) ?_
  rintro vr_6 h_11 ⟨F_11, r_8, _, rfl, hk, hS, _, _, hL_9, hM⟩
  replace hK := hK.trans hk
  replace hN_a := hN_a.kp hk
  replace hL_a := hL_a.kp hk
  replace hN_b := hN_b.kp hk
  replace hL_b := hL_b.kp hk
  replace hL_1 := hL_1.kp hk
  replace hL_2 := hL_2.kp hk
  replace hL_3 := hL_3.kp hk
  replace hL_4 := hL_4.kp hk
  replace hL_5 := hL_5.kp hk
  replace hL_6 := hL_6.kp hk
  replace hN_1 := hN_1.kp hk
  replace hN_2 := hN_2.kp hk
  replace hL_7 := hL_7.kp hk
  replace hL_8 := hL_8.kp hk
  refine Go.Wk.HA.re (fun h => (SliceIs h 19 e_api_Want vr_1 r_2)) [(10, fun h => (OwnIs h 0 77 19 e_api_Want vr_6 r_8) ∧ (OwnIs h 0 77 19 e_api_Want vr_5 r_7))] (fun L_ h_ hL_ hL_3 hs_ => ⟨hL_3, (at_keep 0 rfl hs_ (fun ⟨c394, c364⟩ => c364) (Go.Wk.at_nil _ _))⟩) ?_
  obtain ⟨ho_5, hM⟩ := hM
  refine Go.Wk.HA.valN (k := 9) (v := cutV 19 vr_6 ((r_2.length : Int)).toNat ((r_8.length : Int)).toNat) 0 10 (fun h => (OwnIs h 0 77 19 e_api_Want vr_6 r_8) ∧ (OwnIs h 0 77 19 e_api_Want vr_5 r_7)) rfl rfl (by kernel_rfl) (by kernel_rfl) (want_none) rfl rfl (by kernel_rfl) (fun _ hL_3 ⟨c394, c364⟩ => q_slL ts_71 c394.slice rfl rfl ho_5) ?_
  refine HA.one (k := 10) ⟨hL_3.is, (at_now ⟨(hS.own 0 rfl), (hS.own 1 rfl)⟩ (Go.Wk.at_nil _ _))⟩ (by kernel_rfl) ?_
  replace hS : St F_11 (Ow.own 77 19 e_api_Want vr_5 r_7 :: Ow.own 77 19 e_api_Want vr_6 r_8 :: Ow.box b_1 73 (e_acequialaw24_Ask ask).toArray :: fr) h_11 := hS.perm2 [1, 0, 2] 3 rfl rfl
  obtain ⟨F_12, hS, hk, hL_10⟩ := hS.freezeOwn
  replace hK := hK.trans hk
  replace hN_a := hN_a.kp hk
  replace hL_a := hL_a.kp hk
  replace hN_b := hN_b.kp hk
  replace hL_b := hL_b.kp hk
  replace hL_1 := hL_1.kp hk
  replace hL_2 := hL_2.kp hk
  replace hL_3 := hL_3.kp hk
  replace hL_4 := hL_4.kp hk
  replace hL_5 := hL_5.kp hk
  replace hL_6 := hL_6.kp hk
  replace hN_1 := hN_1.kp hk
  replace hN_2 := hN_2.kp hk
  replace hL_7 := hL_7.kp hk
  replace hL_8 := hL_8.kp hk
  replace hL_9 := hL_9.kp hk
  obtain ⟨ho_6, hM⟩ := hM
  obtain ⟨F_13, hS, hk, hL_11⟩ := hS.freezeOwn
  replace hK := hK.trans hk
  replace hN_a := hN_a.kp hk
  replace hL_a := hL_a.kp hk
  replace hN_b := hN_b.kp hk
  replace hL_b := hL_b.kp hk
  replace hL_1 := hL_1.kp hk
  replace hL_2 := hL_2.kp hk
  replace hL_3 := hL_3.kp hk
  replace hL_4 := hL_4.kp hk
  replace hL_5 := hL_5.kp hk
  replace hL_6 := hL_6.kp hk
  replace hN_1 := hN_1.kp hk
  replace hN_2 := hN_2.kp hk
  replace hL_7 := hL_7.kp hk
  replace hL_8 := hL_8.kp hk
  replace hL_9 := hL_9.kp hk
  replace hL_10 := hL_10.kp hk
  obtain ⟨ho_7, hM⟩ := hM
  replace hM := hM vr_5
  replace hM := hM vr_6
  refine HS.eff rfl (want_none) rfl (st_lit (enc := e_s_api_Want) (cells := #[cutV 19 vr_5 (0 : Int).toNat ((r_2.length : Int)).toNat, cutV 19 vr_6 ((r_2.length : Int)).toNat ((r_8.length : Int)).toNat]) #[.slice none 0 0, .slice none 0 0] ([(cutV 19 vr_5 (0 : Int).toNat ((r_2.length : Int)).toNat, cut r_7 0 (r_2.length : Int)), (cutV 19 vr_6 ((r_2.length : Int)).toNat ((r_8.length : Int)).toNat, cut r_8 (r_2.length : Int) (r_8.length : Int))] : List T_s_api_Want) hS tl_129 (by decide) (by decide) (by kernel_rfl) (fill_cons (cs' := #[cutV 19 vr_5 (0 : Int).toNat ((r_2.length : Int)).toNat, .slice none 0 0]) (vc := #[cutV 19 vr_5 (0 : Int).toNat ((r_2.length : Int)).toNat]) rfl (shp (cutIs hL_10.is 0 (r_2.length : Int) ho_6.1 ho_6.2.1 ho_6.2.2)).cells rfl (Nat.le_of_ble_eq_true rfl) rfl (fill_cons (cs' := #[cutV 19 vr_5 (0 : Int).toNat ((r_2.length : Int)).toNat, cutV 19 vr_6 ((r_2.length : Int)).toNat ((r_8.length : Int)).toNat]) (vc := #[cutV 19 vr_6 ((r_2.length : Int)).toNat ((r_8.length : Int)).toNat]) rfl (shp (cutIs hL_11.is (r_2.length : Int) (r_8.length : Int) ho_7.1 ho_7.2.1 ho_7.2.2)).cells rfl (Nat.le_of_ble_eq_true rfl) rfl rfl)) rfl (by intro x hx; rfl) rfl) ?_
  rintro _ h_12 ⟨b_2, rfl, hS, hk⟩
  replace hK := hK.trans hk
  replace hN_a := hN_a.kp hk
  replace hL_a := hL_a.kp hk
  replace hN_b := hN_b.kp hk
  replace hL_b := hL_b.kp hk
  replace hL_1 := hL_1.kp hk
  replace hL_2 := hL_2.kp hk
  replace hL_3 := hL_3.kp hk
  replace hL_4 := hL_4.kp hk
  replace hL_5 := hL_5.kp hk
  replace hL_6 := hL_6.kp hk
  replace hN_1 := hN_1.kp hk
  replace hN_2 := hN_2.kp hk
  replace hL_7 := hL_7.kp hk
  replace hL_8 := hL_8.kp hk
  replace hL_9 := hL_9.kp hk
  replace hL_10 := hL_10.kp hk
  replace hL_11 := hL_11.kp hk
  have hN_4 : NfL nf_s_api_Want F_13 h_12 ([(cutV 19 vr_5 (0 : Int).toNat ((r_2.length : Int)).toNat, cut r_7 0 (r_2.length : Int)), (cutV 19 vr_6 ((r_2.length : Int)).toNat ((r_8.length : Int)).toNat, cut r_8 (r_2.length : Int) (r_8.length : Int))] : List T_s_api_Want) := (NfL.cons (nfm_s_api_Want (cutV 19 vr_5 (0 : Int).toNat ((r_2.length : Int)).toNat, cut r_7 0 (r_2.length : Int)) (cutF hL_10 0 (r_2.length : Int) ho_6.1 ho_6.2.1 ho_6.2.2) (NfL.cut hL_8 _ _)) (NfL.cons (nfm_s_api_Want (cutV 19 vr_6 ((r_2.length : Int)).toNat ((r_8.length : Int)).toNat, cut r_8 (r_2.length : Int) (r_8.length : Int)) (cutF hL_11 (r_2.length : Int) (r_8.length : Int) ho_7.1 ho_7.2.1 ho_7.2.2) (NfL.cut hL_9 _ _)) (NfL.nil _ _ _)))
  refine HA.one (k := 11) ⟨hL_3.is, (at_done (by kernel_rfl) (Go.Wk.at_nil _ _))⟩ (by kernel_rfl) ?_
  refine HS.call rfl (want_none) rfl (ec en_29 rfl rfl) (proxy_Gather_walk (fr := (Ow.box b_1 73 (e_acequialaw24_Ask ask).toArray :: fr)) ([(cutV 19 vr_5 (0 : Int).toNat ((r_2.length : Int)).toNat, cut r_7 0 (r_2.length : Int)), (cutV 19 vr_6 ((r_2.length : Int)).toNat ((r_8.length : Int)).toNat, cut r_8 (r_2.length : Int) (r_8.length : Int))] : List T_s_api_Want) (.slice (some ⟨b_2, 0, none⟩) 2 2) hS hN_4 hD hM) ?_
  rintro vr_7 h_13 ⟨F_14, r_9, _, rfl, hk, hS, _, hL_12, hM⟩
  replace hK := hK.trans hk
  replace hN_a := hN_a.kp hk
  replace hL_a := hL_a.kp hk
  replace hN_b := hN_b.kp hk
  replace hL_b := hL_b.kp hk
  replace hL_1 := hL_1.kp hk
  replace hL_2 := hL_2.kp hk
  replace hL_3 := hL_3.kp hk
  replace hL_4 := hL_4.kp hk
  replace hL_5 := hL_5.kp hk
  replace hL_6 := hL_6.kp hk
  replace hN_1 := hN_1.kp hk
  replace hN_2 := hN_2.kp hk
  replace hL_7 := hL_7.kp hk
  replace hL_8 := hL_8.kp hk
  replace hL_9 := hL_9.kp hk
  replace hL_10 := hL_10.kp hk
  replace hL_11 := hL_11.kp hk
  replace hN_4 := hN_4.kp hk
  refine HA.val (k := 12) (v := vr_7) rfl rfl (by kernel_rfl) (by kernel_rfl) (want_none) rfl (fun _ hL_3 => q_assign rfl) ?_
  refine HA.nil ⟨hL_3.is, (at_done (by kernel_rfl) (Go.Wk.at_nil _ _))⟩ (by kernel_rfl) (thenQ_normal (?_))
  refine HW.seq ?_
  refine HW.region ?_
  refine oA (.bool false) rfl rfl ?_
  refine oA (.bool false) rfl rfl ?_
  refine HO.nil (thenQ_normal (?_))
  refine HW.seq ?_
  refine HW.seq ?_
  refine HW.region ?_
  refine oA (.int .i64 0) rfl rfl ?_
  refine HO.nil (thenQ_normal (?_))
  refine HW.block ?_
  obtain ⟨I_2, m_2, hI_2, hR_2⟩ := hM
  replace hS : St F_14 (Ow.box b_1 73 (e_acequialaw24_Ask ask).toArray :: Ow.own 77 19 e_api_Want vr_7 r_9 :: fr) h_13 := hS.perm2 [1, 0] 2 rfl rfl
  refine HW.loop (S := Bool × Int) (fun s f h => match s with | (some_1, i_2) => ∃ (F' : Fz), f 5 = .pointer (some ⟨b_1, 0, none⟩) ∧ f 6 = .bool false ∧ f 7 = v_1 ∧ f 9 = vr_7 ∧ f 10 = .bool some_1 ∧ f 11 = .bool false ∧ f 12 = .int .i64 i_2 ∧ Kp F h0 F' h ∧ St F' (Ow.box b_1 73 (e_acequialaw24_Ask ask).toArray :: Ow.own 77 19 e_api_Want vr_7 r_9 :: fr) h ∧ (NfL nf_api_Want F' h a) ∧ (SliceF F' h 19 e_api_Want va a) ∧ (NfL nf_api_Want F' h b) ∧ (SliceF F' h 19 e_api_Want vb b) ∧ (NfL nf_api_Want F' h r_2) ∧ (NfL nf_api_Want F' h r_3) ∧ (SliceF F' h 19 e_api_Want vr_1 r_2) ∧ (NfL nf_api_Want F' h r_4) ∧ (SliceF F' h 19 e_api_Want vr_2 r_3) ∧ (NfL nf_api_Want F' h r_5) ∧ (NfL nf_api_Want F' h (r_4 ++ r_5)) ∧ (NfL nf_api_Want F' h both_1) ∧ (SliceF F' h 19 e_api_Want v_1 both_1) ∧ (NfL nf_api_Want F' h r_7) ∧ (NfL nf_api_Want F' h r_8) ∧ (SliceF F' h 19 e_api_Want vr_5 r_7) ∧ (SliceF F' h 19 e_api_Want vr_6 r_8) ∧ (NfL nf_s_api_Want F' h ([(cutV 19 vr_5 (0 : Int).toNat ((r_2.length : Int)).toNat, cut r_7 0 (r_2.length : Int)), (cutV 19 vr_6 ((r_2.length : Int)).toNat ((r_8.length : Int)).toNat, cut r_8 (r_2.length : Int) (r_8.length : Int))] : List T_s_api_Want)) ∧ (NfL nf_api_Want F' h r_9) ∧ I_2 (some_1, i_2)) m_2 (false, 0) ⟨F_14, rfl, rfl, rfl, rfl, rfl, rfl, rfl, hK, hS, hN_a, hL_a, hN_b, hL_b, hL_1, hL_2, hL_3, hL_4, hL_5, hL_6, hN_1, hN_2, hL_7, hL_8, hL_9, hL_10, hL_11, hN_4, hL_12, hI_2⟩ ?_
  rintro ⟨some_1, i_2⟩ f_2 h_14 ⟨F_15, e5, e6, e7, e9, e10, e11, e12, hK, hS, hN_a, hL_a, hN_b, hL_b, hL_1, hL_2, hL_3, hL_4, hL_5, hL_6, hN_1, hN_2, hL_7, hL_8, hL_9, hL_10, hL_11, hN_4, hL_12, hI0⟩
  obtain ⟨K_2, hKe_2⟩ : ∃ K : Bool → Int → Prop, K = fun some_1' i_2' => I_2 (some_1', i_2') ∧ m_2 (some_1', i_2') < m_2 (some_1, i_2) := ⟨_, rfl⟩
  have hM : law24_ProxyGathers_l2 ask Q both_1 r_9 K_2 some_1 i_2 := by rw [hKe_2]; exact hR_2 (some_1, i_2) hI0
  unfold law24_ProxyGathers_l2 at hM
  refine HW.fr [(5, .pointer (some ⟨b_1, 0, none⟩)), (6, .bool false), (7, v_1), (9, vr_7), (10, .bool some_1), (11, .bool false), (12, .int .i64 i_2)] ⟨e5, e6, e7, e9, e10, e11, e12, trivial⟩ ?_
  refine HW.seq ?_
  refine HW.seq ?_
  refine HW.region ?_
  refine oM (.int .i64 i_2) rfl rfl ?_
  refine oM (v_1) rfl rfl ?_
  refine oV (.int .i64 (both_1.length : Int)) (q_len ts_71 (shp hL_7.is) rfl rfl) rfl ?_
  refine oV (.bool (decide (i_2 < (both_1.length : Int)))) (q_lss rfl rfl) rfl ?_
  refine HO.nil (thenQ_normal (?_))
  refine HW.cond (decide (i_2 < (both_1.length : Int))) rfl (fun c_2 => ?_) (fun c_2 => ?_)
  ·
   replace hM := hM.1 (of_decide_eq_true c_2)
   refine HW.skip (thenQ_normal (?_))
   refine HW.seq ?_
   refine HW.block ?_
   refine HW.regionA 22 mixed (fun h => (SliceIs h 19 e_api_Want v_1 both_1) ∧ (Blk h b_1 (.cells (e_acequialaw24_Ask ask).toArray 73 (0, 0)))) [] (by kernel_rfl) ?_
   refine HA.val (k := 0) (v := .bool some_1) rfl rfl (by kernel_rfl) (by kernel_rfl) (want_none) rfl (fun _ ⟨hL_7, c542⟩ => q_move rfl) ?_
   refine HA.val (k := 1) (v := .bool some_1) rfl rfl (by kernel_rfl) (by kernel_rfl) (want_none) rfl (fun _ ⟨hL_7, c542⟩ => q_move rfl) ?_
   rcases Bool.eq_false_or_eq_true some_1 with c_3 | c_3
   ·
    replace hM := hM.1 c_3
    refine HA.past (k := 2) rfl rfl (by kernel_rfl) (by kernel_rfl) (past_by rfl rfl c_3) rfl ?_
    refine HA.past (k := 3) rfl rfl (by kernel_rfl) (by kernel_rfl) (past_by rfl rfl c_3) rfl ?_
    refine HA.past (k := 4) rfl rfl (by kernel_rfl) (by kernel_rfl) (past_by rfl rfl c_3) rfl ?_
    refine HA.past (k := 5) rfl rfl (by kernel_rfl) (by kernel_rfl) (past_by rfl rfl c_3) rfl ?_
    refine HA.past (k := 6) rfl rfl (by kernel_rfl) (by kernel_rfl) (past_by rfl rfl c_3) rfl ?_
    refine HA.past (k := 7) rfl rfl (by kernel_rfl) (by kernel_rfl) (past_by rfl rfl c_3) rfl ?_
    refine HA.past (k := 8) rfl rfl (by kernel_rfl) (by kernel_rfl) (past_by rfl rfl c_3) rfl ?_
    refine HA.past (k := 9) rfl rfl (by kernel_rfl) (by kernel_rfl) (past_by rfl rfl c_3) rfl ?_
    refine HA.past (k := 10) rfl rfl (by kernel_rfl) (by kernel_rfl) (past_by rfl rfl c_3) rfl ?_
    refine HA.past (k := 11) rfl rfl (by kernel_rfl) (by kernel_rfl) (past_undef rfl rfl) rfl ?_
    refine HA.past (k := 12) rfl rfl (by kernel_rfl) (by kernel_rfl) (past_undef rfl rfl) rfl ?_
    refine HA.past (k := 13) rfl rfl (by kernel_rfl) (by kernel_rfl) (past_undef rfl rfl) rfl ?_
    refine HA.past (k := 14) rfl rfl (by kernel_rfl) (by kernel_rfl) (past_undef rfl rfl) rfl ?_
    refine HA.past (k := 15) rfl rfl (by kernel_rfl) (by kernel_rfl) (past_undef rfl rfl) rfl ?_
    refine HA.past (k := 16) rfl rfl (by kernel_rfl) (by kernel_rfl) (past_undef rfl rfl) rfl ?_
    refine HA.past (k := 17) rfl rfl (by kernel_rfl) (by kernel_rfl) (past_undef rfl rfl) rfl ?_
    refine HA.one (k := 18) ⟨⟨hL_7.is, (hS.box 0 rfl)⟩, (Go.Wk.at_nil _ _)⟩ (by kernel_rfl) ?_
    refine HS.past rfl (past_undef rfl rfl) rfl ?_
    refine HA.past (k := 19) rfl rfl (by kernel_rfl) (by kernel_rfl) (past_by rfl rfl c_3) rfl ?_
    refine HA.val (k := 20) (v := .bool true) rfl rfl (by kernel_rfl) (by kernel_rfl) (want_none) rfl (fun _ ⟨hL_7, c542⟩ => q_pickK true rfl c_3 rfl) ?_
    refine HA.val (k := 21) (v := .bool true) rfl rfl (by kernel_rfl) (by kernel_rfl) (want_none) rfl (fun _ ⟨hL_7, c542⟩ => q_assign rfl) ?_
    refine HA.nil ⟨⟨hL_7.is, (hS.box 0 rfl)⟩, (Go.Wk.at_nil _ _)⟩ (by kernel_rfl) (blockQ_normal (thenQ_normal (?_)))
    refine HW.region ?_
    refine oM (.int .i64 i_2) rfl rfl ?_
    obtain ⟨ho_8, hM⟩ := hM
    refine oV (.int .i64 (i_2 + 1)) (q_addN _ rfl rfl rfl ho_8.1 ho_8.2) rfl ?_
    refine oA (.int .i64 (i_2 + 1)) rfl rfl ?_
    refine HO.nil (thenQ_normal (?_))
    rw [hKe_2] at hM
    exact ⟨(true, i_2 + 1), ⟨F_15, rfl, rfl, rfl, rfl, rfl, rfl, rfl, hK, hS, hN_a, hL_a, hN_b, hL_b, hL_1, hL_2, hL_3, hL_4, hL_5, hL_6, hN_1, hN_2, hL_7, hL_8, hL_9, hL_10, hL_11, hN_4, hL_12, hM.1⟩, hM.2⟩
   ·
    replace hM := hM.2 c_3
    refine HA.val (k := 2) (v := v_1) rfl rfl (by kernel_rfl) (by kernel_rfl) (want_by rfl rfl c_3) rfl (fun _ ⟨hL_7, c542⟩ => q_move rfl) ?_
    refine HA.val (k := 3) (v := .int .i64 i_2) rfl rfl (by kernel_rfl) (by kernel_rfl) (want_by rfl rfl c_3) rfl (fun _ ⟨hL_7, c542⟩ => q_move rfl) ?_
    obtain ⟨ho_9, hM⟩ := hM
    refine HA.val (k := 4) (v := elemPtr 19 v_1 (i_2).toNat) rfl rfl (by kernel_rfl) (by kernel_rfl) (want_by rfl rfl c_3) rfl (fun _ ⟨hL_7, c542⟩ => q_idx ts_71 hL_7 rfl rfl ho_9) ?_
    refine HA.val (k := 5) (v := fieldPtr 19 v_1 (i_2).toNat 0) rfl rfl (by kernel_rfl) (by kernel_rfl) (want_by rfl rfl c_3) rfl (fun _ ⟨hL_7, c542⟩ => q_fldElem fa_77_0 hL_7 rfl ho_9) ?_
    refine HA.val (k := 6) (v := .agg (e_api_Addr ((gi both_1 i_2).1)).toArray) rfl rfl (by kernel_rfl) (by kernel_rfl) (want_by rfl rfl c_3) rfl (fun _ ⟨hL_7, c542⟩ => q_ldFieldAgg (n := 17) (cs := (e_api_Addr ((gi both_1 i_2).1))) ta_28 hL_7 rfl ho_9 (by decide) rfl) ?_
    refine HA.val (k := 7) (v := .pointer (some ⟨b_1, 0, none⟩)) rfl rfl (by kernel_rfl) (by kernel_rfl) (want_by rfl rfl c_3) rfl (fun _ ⟨hL_7, c542⟩ => q_fieldAddr fa_73_0 rfl rfl) ?_
    refine HA.val (k := 8) (v := .agg (e_api_Addr ask.1).toArray) rfl rfl (by kernel_rfl) (by kernel_rfl) (want_by rfl rfl c_3) rfl (fun _ ⟨hL_7, c542⟩ => q_loadAgg (cs := (e_api_Addr ask.1)) ta_28 rfl rfl (Blk.cells (k := 17) c542 rfl)) ?_
    refine HA.val (k := 9) (v := .bool (decide ((((gi both_1 i_2).1) : T_api_Addr) = ask.1))) rfl rfl (by kernel_rfl) (by kernel_rfl) (want_by rfl rfl c_3) rfl (fun _ ⟨hL_7, c542⟩ => q_eqlAgg (a := ((gi both_1 i_2).1)) (b := ask.1) (fun a b w => teq_28 9997 a b w) (by kernel_rfl) rfl rfl rfl rfl) ?_
    refine HA.val (k := 10) (v := .bool (decide ((((gi both_1 i_2).1) : T_api_Addr) = ask.1))) rfl rfl (by kernel_rfl) (by kernel_rfl) (want_by rfl rfl c_3) rfl (fun _ ⟨hL_7, c542⟩ => q_move rfl) ?_
    rcases Bool.eq_false_or_eq_true (decide ((((gi both_1 i_2).1) : T_api_Addr) = ask.1)) with c_4 | c_4
    ·
     replace hM := hM.1 (of_decide_eq_true c_4)
     refine HA.val (k := 11) (v := v_1) rfl rfl (by kernel_rfl) (by kernel_rfl) (want_by rfl rfl c_4) rfl (fun _ ⟨hL_7, c542⟩ => q_move rfl) ?_
     refine HA.val (k := 12) (v := .int .i64 i_2) rfl rfl (by kernel_rfl) (by kernel_rfl) (want_by rfl rfl c_4) rfl (fun _ ⟨hL_7, c542⟩ => q_move rfl) ?_
     refine HA.val (k := 13) (v := elemPtr 19 v_1 (i_2).toNat) rfl rfl (by kernel_rfl) (by kernel_rfl) (want_by rfl rfl c_4) rfl (fun _ ⟨hL_7, c542⟩ => q_idx ts_71 hL_7 rfl rfl ho_9) ?_
     refine HA.val (k := 14) (v := fieldPtr 19 v_1 (i_2).toNat 17) rfl rfl (by kernel_rfl) (by kernel_rfl) (want_by rfl rfl c_4) rfl (fun _ ⟨hL_7, c542⟩ => q_fldElem fa_77_1 hL_7 rfl ho_9) ?_
     refine HA.val (k := 15) (v := .agg #[.bool (((gi both_1 i_2).2).1), (((gi both_1 i_2).2).2).1]) rfl rfl (by kernel_rfl) (by kernel_rfl) (want_by rfl rfl c_4) rfl (fun _ ⟨hL_7, c542⟩ => q_ldFieldAgg (n := 2) (cs := [.bool (((gi both_1 i_2).2).1), (((gi both_1 i_2).2).2).1]) ta_50 hL_7 rfl ho_9 (by decide) rfl) ?_
     refine HA.val (k := 16) (v := .pointer (some ⟨b_1, 17, none⟩)) rfl rfl (by kernel_rfl) (by kernel_rfl) (want_by rfl rfl c_4) rfl (fun _ ⟨hL_7, c542⟩ => q_fieldAddr fa_73_1 rfl rfl) ?_
     refine HA.val (k := 17) (v := .agg (e_api_Addr ask.2).toArray) rfl rfl (by kernel_rfl) (by kernel_rfl) (want_by rfl rfl c_4) rfl (fun _ ⟨hL_7, c542⟩ => q_loadAgg (cs := (e_api_Addr ask.2)) ta_28 rfl rfl (Blk.cells (k := 17) c542 rfl)) ?_
     refine HA.one (k := 18) ⟨⟨hL_7.is, (hS.box 0 rfl)⟩, (Go.Wk.at_nil _ _)⟩ (by kernel_rfl) ?_
     refine HS.call rfl (want_by rfl rfl c_4) rfl (ec en_24 rfl rfl) (ref19_Lets_walk (fr := (Ow.box b_1 73 (e_acequialaw24_Ask ask).toArray :: Ow.own 77 19 e_api_Want vr_7 r_9 :: fr)) (((gi both_1 i_2).2).1) ((((gi both_1 i_2).2).2).2) ask.2 ((((gi both_1 i_2).2).2).1) hS (nff_api_Want_18 (NfL.at hN_2 ho_9)) hM) ?_
     rintro _ h_15 ⟨F_16, r_10, rfl, hk, hS, _, hM⟩
     replace hK := hK.trans hk
     replace hN_a := hN_a.kp hk
     replace hL_a := hL_a.kp hk
     replace hN_b := hN_b.kp hk
     replace hL_b := hL_b.kp hk
     replace hL_1 := hL_1.kp hk
     replace hL_2 := hL_2.kp hk
     replace hL_3 := hL_3.kp hk
     replace hL_4 := hL_4.kp hk
     replace hL_5 := hL_5.kp hk
     replace hL_6 := hL_6.kp hk
     replace hN_1 := hN_1.kp hk
     replace hN_2 := hN_2.kp hk
     replace hL_7 := hL_7.kp hk
     replace hL_8 := hL_8.kp hk
     replace hL_9 := hL_9.kp hk
     replace hL_10 := hL_10.kp hk
     replace hL_11 := hL_11.kp hk
     replace hN_4 := hN_4.kp hk
     replace hL_12 := hL_12.kp hk
     refine HA.val (k := 19) (v := .bool r_10) rfl rfl (by kernel_rfl) (by kernel_rfl) (want_by rfl rfl c_3) rfl (fun _ ⟨hL_7, c542⟩ => q_pickK true rfl c_4 rfl) ?_
     refine HA.val (k := 20) (v := .bool r_10) rfl rfl (by kernel_rfl) (by kernel_rfl) (want_none) rfl (fun _ ⟨hL_7, c542⟩ => q_pickK false rfl c_3 rfl) ?_
     refine HA.val (k := 21) (v := .bool r_10) rfl rfl (by kernel_rfl) (by kernel_rfl) (want_none) rfl (fun _ ⟨hL_7, c542⟩ => q_assign rfl) ?_
     refine HA.nil ⟨⟨hL_7.is, (hS.box 0 rfl)⟩, (Go.Wk.at_nil _ _)⟩ (by kernel_rfl) (blockQ_normal (thenQ_normal (?_)))
     refine HW.region ?_
     refine oM (.int .i64 i_2) rfl rfl ?_
     obtain ⟨ho_10, hM⟩ := hM
     refine oV (.int .i64 (i_2 + 1)) (q_addN _ rfl rfl rfl ho_10.1 ho_10.2) rfl ?_
     refine oA (.int .i64 (i_2 + 1)) rfl rfl ?_
     refine HO.nil (thenQ_normal (?_))
     rw [hKe_2] at hM
     exact ⟨(r_10, i_2 + 1), ⟨F_16, rfl, rfl, rfl, rfl, rfl, rfl, rfl, hK, hS, hN_a, hL_a, hN_b, hL_b, hL_1, hL_2, hL_3, hL_4, hL_5, hL_6, hN_1, hN_2, hL_7, hL_8, hL_9, hL_10, hL_11, hN_4, hL_12, hM.1⟩, hM.2⟩
    ·
     replace hM := hM.2 (of_decide_eq_false c_4)
     refine HA.past (k := 11) rfl rfl (by kernel_rfl) (by kernel_rfl) (past_by rfl rfl c_4) rfl ?_
     refine HA.past (k := 12) rfl rfl (by kernel_rfl) (by kernel_rfl) (past_by rfl rfl c_4) rfl ?_
     refine HA.past (k := 13) rfl rfl (by kernel_rfl) (by kernel_rfl) (past_by rfl rfl c_4) rfl ?_
     refine HA.past (k := 14) rfl rfl (by kernel_rfl) (by kernel_rfl) (past_by rfl rfl c_4) rfl ?_
     refine HA.past (k := 15) rfl rfl (by kernel_rfl) (by kernel_rfl) (past_by rfl rfl c_4) rfl ?_
     refine HA.past (k := 16) rfl rfl (by kernel_rfl) (by kernel_rfl) (past_by rfl rfl c_4) rfl ?_
     refine HA.past (k := 17) rfl rfl (by kernel_rfl) (by kernel_rfl) (past_by rfl rfl c_4) rfl ?_
     refine HA.one (k := 18) ⟨⟨hL_7.is, (hS.box 0 rfl)⟩, (Go.Wk.at_nil _ _)⟩ (by kernel_rfl) ?_
     refine HS.past rfl (past_by rfl rfl c_4) rfl ?_
     refine HA.val (k := 19) (v := .bool false) rfl rfl (by kernel_rfl) (by kernel_rfl) (want_by rfl rfl c_3) rfl (fun _ ⟨hL_7, c542⟩ => q_pickK false rfl c_4 rfl) ?_
     refine HA.val (k := 20) (v := .bool false) rfl rfl (by kernel_rfl) (by kernel_rfl) (want_none) rfl (fun _ ⟨hL_7, c542⟩ => q_pickK false rfl c_3 rfl) ?_
     refine HA.val (k := 21) (v := .bool false) rfl rfl (by kernel_rfl) (by kernel_rfl) (want_none) rfl (fun _ ⟨hL_7, c542⟩ => q_assign rfl) ?_
     refine HA.nil ⟨⟨hL_7.is, (hS.box 0 rfl)⟩, (Go.Wk.at_nil _ _)⟩ (by kernel_rfl) (blockQ_normal (thenQ_normal (?_)))
     refine HW.region ?_
     refine oM (.int .i64 i_2) rfl rfl ?_
     obtain ⟨ho_11, hM⟩ := hM
     refine oV (.int .i64 (i_2 + 1)) (q_addN _ rfl rfl rfl ho_11.1 ho_11.2) rfl ?_
     refine oA (.int .i64 (i_2 + 1)) rfl rfl ?_
     refine HO.nil (thenQ_normal (?_))
     rw [hKe_2] at hM
     exact ⟨(false, i_2 + 1), ⟨F_15, rfl, rfl, rfl, rfl, rfl, rfl, rfl, hK, hS, hN_a, hL_a, hN_b, hL_b, hL_1, hL_2, hL_3, hL_4, hL_5, hL_6, hN_1, hN_2, hL_7, hL_8, hL_9, hL_10, hL_11, hN_4, hL_12, hM.1⟩, hM.2⟩
  ·
   replace hM := hM.2 (of_decide_eq_false c_2)
   refine HW.exit (thenQ_exit (thenQ_exit (blockQ_exit (thenQ_normal (?_)))))
   refine HW.seq ?_
   refine HW.seq ?_
   refine HW.region ?_
   refine oA (.int .i64 0) rfl rfl ?_
   refine HO.nil (thenQ_normal (?_))
   refine HW.block ?_
   obtain ⟨I_3, m_3, hI_3, hR_3⟩ := hM
   refine HW.loop (S := Bool × Int) (fun s f h => match s with | (lets_1, i_3) => ∃ (F' : Fz), f 5 = .pointer (some ⟨b_1, 0, none⟩) ∧ f 6 = .bool false ∧ f 7 = v_1 ∧ f 9 = vr_7 ∧ f 10 = .bool some_1 ∧ f 11 = .bool lets_1 ∧ f 13 = .int .i64 i_3 ∧ Kp F h0 F' h ∧ St F' (Ow.box b_1 73 (e_acequialaw24_Ask ask).toArray :: Ow.own 77 19 e_api_Want vr_7 r_9 :: fr) h ∧ (NfL nf_api_Want F' h a) ∧ (SliceF F' h 19 e_api_Want va a) ∧ (NfL nf_api_Want F' h b) ∧ (SliceF F' h 19 e_api_Want vb b) ∧ (NfL nf_api_Want F' h r_2) ∧ (NfL nf_api_Want F' h r_3) ∧ (SliceF F' h 19 e_api_Want vr_1 r_2) ∧ (NfL nf_api_Want F' h r_4) ∧ (SliceF F' h 19 e_api_Want vr_2 r_3) ∧ (NfL nf_api_Want F' h r_5) ∧ (NfL nf_api_Want F' h (r_4 ++ r_5)) ∧ (NfL nf_api_Want F' h both_1) ∧ (SliceF F' h 19 e_api_Want v_1 both_1) ∧ (NfL nf_api_Want F' h r_7) ∧ (NfL nf_api_Want F' h r_8) ∧ (SliceF F' h 19 e_api_Want vr_5 r_7) ∧ (SliceF F' h 19 e_api_Want vr_6 r_8) ∧ (NfL nf_s_api_Want F' h ([(cutV 19 vr_5 (0 : Int).toNat ((r_2.length : Int)).toNat, cut r_7 0 (r_2.length : Int)), (cutV 19 vr_6 ((r_2.length : Int)).toNat ((r_8.length : Int)).toNat, cut r_8 (r_2.length : Int) (r_8.length : Int))] : List T_s_api_Want)) ∧ (NfL nf_api_Want F' h r_9) ∧ I_3 (lets_1, i_3)) m_3 (false, 0) ⟨F_15, rfl, rfl, rfl, rfl, rfl, rfl, rfl, hK, hS, hN_a, hL_a, hN_b, hL_b, hL_1, hL_2, hL_3, hL_4, hL_5, hL_6, hN_1, hN_2, hL_7, hL_8, hL_9, hL_10, hL_11, hN_4, hL_12, hI_3⟩ ?_
   rintro ⟨lets_1, i_3⟩ f_3 h_16 ⟨F_17, e5, e6, e7, e9, e10, e11, e13, hK, hS, hN_a, hL_a, hN_b, hL_b, hL_1, hL_2, hL_3, hL_4, hL_5, hL_6, hN_1, hN_2, hL_7, hL_8, hL_9, hL_10, hL_11, hN_4, hL_12, hI0⟩
   obtain ⟨K_3, hKe_3⟩ : ∃ K : Bool → Int → Prop, K = fun lets_1' i_3' => I_3 (lets_1', i_3') ∧ m_3 (lets_1', i_3') < m_3 (lets_1, i_3) := ⟨_, rfl⟩
   have hM : law24_ProxyGathers_l3 ask Q both_1 r_9 some_1 K_3 lets_1 i_3 := by rw [hKe_3]; exact hR_3 (lets_1, i_3) hI0
   unfold law24_ProxyGathers_l3 at hM
   refine HW.fr [(5, .pointer (some ⟨b_1, 0, none⟩)), (6, .bool false), (7, v_1), (9, vr_7), (10, .bool some_1), (11, .bool lets_1), (13, .int .i64 i_3)] ⟨e5, e6, e7, e9, e10, e11, e13, trivial⟩ ?_
   refine HW.seq ?_
   refine HW.seq ?_
   refine HW.region ?_
   refine oM (.int .i64 i_3) rfl rfl ?_
   refine oM (vr_7) rfl rfl ?_
   refine oV (.int .i64 (r_9.length : Int)) (q_len ts_71 (shp (hS.own 1 rfl).slice) rfl rfl) rfl ?_
   refine oV (.bool (decide (i_3 < (r_9.length : Int)))) (q_lss rfl rfl) rfl ?_
   refine HO.nil (thenQ_normal (?_))
   refine HW.cond (decide (i_3 < (r_9.length : Int))) rfl (fun c_5 => ?_) (fun c_5 => ?_)
   ·
    replace hM := hM.1 (of_decide_eq_true c_5)
    refine HW.skip (thenQ_normal (?_))
    refine HW.seq ?_
    refine HW.block ?_
    refine HW.regionA 22 mixed (fun h => (Blk h b_1 (.cells (e_acequialaw24_Ask ask).toArray 73 (0, 0))) ∧ (OwnIs h 0 77 19 e_api_Want vr_7 r_9)) [] (by kernel_rfl) ?_
    refine HA.val (k := 0) (v := .bool lets_1) rfl rfl (by kernel_rfl) (by kernel_rfl) (want_none) rfl (fun _ ⟨c644, c645⟩ => q_move rfl) ?_
    refine HA.val (k := 1) (v := .bool lets_1) rfl rfl (by kernel_rfl) (by kernel_rfl) (want_none) rfl (fun _ ⟨c644, c645⟩ => q_move rfl) ?_
    rcases Bool.eq_false_or_eq_true lets_1 with c_6 | c_6
    ·
     replace hM := hM.1 c_6
     refine HA.past (k := 2) rfl rfl (by kernel_rfl) (by kernel_rfl) (past_by rfl rfl c_6) rfl ?_
     refine HA.past (k := 3) rfl rfl (by kernel_rfl) (by kernel_rfl) (past_by rfl rfl c_6) rfl ?_
     refine HA.past (k := 4) rfl rfl (by kernel_rfl) (by kernel_rfl) (past_by rfl rfl c_6) rfl ?_
     refine HA.past (k := 5) rfl rfl (by kernel_rfl) (by kernel_rfl) (past_by rfl rfl c_6) rfl ?_
     refine HA.past (k := 6) rfl rfl (by kernel_rfl) (by kernel_rfl) (past_by rfl rfl c_6) rfl ?_
     refine HA.past (k := 7) rfl rfl (by kernel_rfl) (by kernel_rfl) (past_by rfl rfl c_6) rfl ?_
     refine HA.past (k := 8) rfl rfl (by kernel_rfl) (by kernel_rfl) (past_by rfl rfl c_6) rfl ?_
     refine HA.past (k := 9) rfl rfl (by kernel_rfl) (by kernel_rfl) (past_by rfl rfl c_6) rfl ?_
     refine HA.past (k := 10) rfl rfl (by kernel_rfl) (by kernel_rfl) (past_by rfl rfl c_6) rfl ?_
     refine HA.past (k := 11) rfl rfl (by kernel_rfl) (by kernel_rfl) (past_undef rfl rfl) rfl ?_
     refine HA.past (k := 12) rfl rfl (by kernel_rfl) (by kernel_rfl) (past_undef rfl rfl) rfl ?_
     refine HA.past (k := 13) rfl rfl (by kernel_rfl) (by kernel_rfl) (past_undef rfl rfl) rfl ?_
     refine HA.past (k := 14) rfl rfl (by kernel_rfl) (by kernel_rfl) (past_undef rfl rfl) rfl ?_
     refine HA.past (k := 15) rfl rfl (by kernel_rfl) (by kernel_rfl) (past_undef rfl rfl) rfl ?_
     refine HA.past (k := 16) rfl rfl (by kernel_rfl) (by kernel_rfl) (past_undef rfl rfl) rfl ?_
     refine HA.past (k := 17) rfl rfl (by kernel_rfl) (by kernel_rfl) (past_undef rfl rfl) rfl ?_
     refine HA.one (k := 18) ⟨⟨(hS.box 0 rfl), (hS.own 1 rfl)⟩, (Go.Wk.at_nil _ _)⟩ (by kernel_rfl) ?_
     refine HS.past rfl (past_undef rfl rfl) rfl ?_
     refine HA.past (k := 19) rfl rfl (by kernel_rfl) (by kernel_rfl) (past_by rfl rfl c_6) rfl ?_
     refine HA.val (k := 20) (v := .bool true) rfl rfl (by kernel_rfl) (by kernel_rfl) (want_none) rfl (fun _ ⟨c644, c645⟩ => q_pickK true rfl c_6 rfl) ?_
     refine HA.val (k := 21) (v := .bool true) rfl rfl (by kernel_rfl) (by kernel_rfl) (want_none) rfl (fun _ ⟨c644, c645⟩ => q_assign rfl) ?_
     refine HA.nil ⟨⟨(hS.box 0 rfl), (hS.own 1 rfl)⟩, (Go.Wk.at_nil _ _)⟩ (by kernel_rfl) (blockQ_normal (thenQ_normal (?_)))
     refine HW.region ?_
     refine oM (.int .i64 i_3) rfl rfl ?_
     obtain ⟨ho_12, hM⟩ := hM
     refine oV (.int .i64 (i_3 + 1)) (q_addN _ rfl rfl rfl ho_12.1 ho_12.2) rfl ?_
     refine oA (.int .i64 (i_3 + 1)) rfl rfl ?_
     refine HO.nil (thenQ_normal (?_))
     rw [hKe_3] at hM
     exact ⟨(true, i_3 + 1), ⟨F_17, rfl, rfl, rfl, rfl, rfl, rfl, rfl, hK, hS, hN_a, hL_a, hN_b, hL_b, hL_1, hL_2, hL_3, hL_4, hL_5, hL_6, hN_1, hN_2, hL_7, hL_8, hL_9, hL_10, hL_11, hN_4, hL_12, hM.1⟩, hM.2⟩
    ·
     replace hM := hM.2 c_6
     refine HA.val (k := 2) (v := vr_7) rfl rfl (by kernel_rfl) (by kernel_rfl) (want_by rfl rfl c_6) rfl (fun _ ⟨c644, c645⟩ => q_move rfl) ?_
     refine HA.val (k := 3) (v := .int .i64 i_3) rfl rfl (by kernel_rfl) (by kernel_rfl) (want_by rfl rfl c_6) rfl (fun _ ⟨c644, c645⟩ => q_move rfl) ?_
     obtain ⟨ho_13, hM⟩ := hM
     refine HA.val (k := 4) (v := elemPtr 19 vr_7 (i_3).toNat) rfl rfl (by kernel_rfl) (by kernel_rfl) (want_by rfl rfl c_6) rfl (fun _ ⟨c644, c645⟩ => q_idx ts_71 c645.slice rfl rfl ho_13) ?_
     refine HA.val (k := 5) (v := fieldPtr 19 vr_7 (i_3).toNat 0) rfl rfl (by kernel_rfl) (by kernel_rfl) (want_by rfl rfl c_6) rfl (fun _ ⟨c644, c645⟩ => q_fldElem fa_77_0 c645.slice rfl ho_13) ?_
     refine HA.val (k := 6) (v := .agg (e_api_Addr ((gi r_9 i_3).1)).toArray) rfl rfl (by kernel_rfl) (by kernel_rfl) (want_by rfl rfl c_6) rfl (fun _ ⟨c644, c645⟩ => q_ldFieldAgg (n := 17) (cs := (e_api_Addr ((gi r_9 i_3).1))) ta_28 c645.slice rfl ho_13 (by decide) rfl) ?_
     refine HA.val (k := 7) (v := .pointer (some ⟨b_1, 0, none⟩)) rfl rfl (by kernel_rfl) (by kernel_rfl) (want_by rfl rfl c_6) rfl (fun _ ⟨c644, c645⟩ => q_fieldAddr fa_73_0 rfl rfl) ?_
     refine HA.val (k := 8) (v := .agg (e_api_Addr ask.1).toArray) rfl rfl (by kernel_rfl) (by kernel_rfl) (want_by rfl rfl c_6) rfl (fun _ ⟨c644, c645⟩ => q_loadAgg (cs := (e_api_Addr ask.1)) ta_28 rfl rfl (Blk.cells (k := 17) c644 rfl)) ?_
     refine HA.val (k := 9) (v := .bool (decide ((((gi r_9 i_3).1) : T_api_Addr) = ask.1))) rfl rfl (by kernel_rfl) (by kernel_rfl) (want_by rfl rfl c_6) rfl (fun _ ⟨c644, c645⟩ => q_eqlAgg (a := ((gi r_9 i_3).1)) (b := ask.1) (fun a b w => teq_28 9997 a b w) (by kernel_rfl) rfl rfl rfl rfl) ?_
     refine HA.val (k := 10) (v := .bool (decide ((((gi r_9 i_3).1) : T_api_Addr) = ask.1))) rfl rfl (by kernel_rfl) (by kernel_rfl) (want_by rfl rfl c_6) rfl (fun _ ⟨c644, c645⟩ => q_move rfl) ?_
     rcases Bool.eq_false_or_eq_true (decide ((((gi r_9 i_3).1) : T_api_Addr) = ask.1)) with c_7 | c_7
     ·
      replace hM := hM.1 (of_decide_eq_true c_7)
      refine HA.val (k := 11) (v := vr_7) rfl rfl (by kernel_rfl) (by kernel_rfl) (want_by rfl rfl c_7) rfl (fun _ ⟨c644, c645⟩ => q_move rfl) ?_
      refine HA.val (k := 12) (v := .int .i64 i_3) rfl rfl (by kernel_rfl) (by kernel_rfl) (want_by rfl rfl c_7) rfl (fun _ ⟨c644, c645⟩ => q_move rfl) ?_
      refine HA.val (k := 13) (v := elemPtr 19 vr_7 (i_3).toNat) rfl rfl (by kernel_rfl) (by kernel_rfl) (want_by rfl rfl c_7) rfl (fun _ ⟨c644, c645⟩ => q_idx ts_71 c645.slice rfl rfl ho_13) ?_
      refine HA.val (k := 14) (v := fieldPtr 19 vr_7 (i_3).toNat 17) rfl rfl (by kernel_rfl) (by kernel_rfl) (want_by rfl rfl c_7) rfl (fun _ ⟨c644, c645⟩ => q_fldElem fa_77_1 c645.slice rfl ho_13) ?_
      refine HA.val (k := 15) (v := .agg #[.bool (((gi r_9 i_3).2).1), (((gi r_9 i_3).2).2).1]) rfl rfl (by kernel_rfl) (by kernel_rfl) (want_by rfl rfl c_7) rfl (fun _ ⟨c644, c645⟩ => q_ldFieldAgg (n := 2) (cs := [.bool (((gi r_9 i_3).2).1), (((gi r_9 i_3).2).2).1]) ta_50 c645.slice rfl ho_13 (by decide) rfl) ?_
      refine HA.val (k := 16) (v := .pointer (some ⟨b_1, 17, none⟩)) rfl rfl (by kernel_rfl) (by kernel_rfl) (want_by rfl rfl c_7) rfl (fun _ ⟨c644, c645⟩ => q_fieldAddr fa_73_1 rfl rfl) ?_
      refine HA.val (k := 17) (v := .agg (e_api_Addr ask.2).toArray) rfl rfl (by kernel_rfl) (by kernel_rfl) (want_by rfl rfl c_7) rfl (fun _ ⟨c644, c645⟩ => q_loadAgg (cs := (e_api_Addr ask.2)) ta_28 rfl rfl (Blk.cells (k := 17) c644 rfl)) ?_
      refine HA.one (k := 18) ⟨⟨(hS.box 0 rfl), (hS.own 1 rfl)⟩, (Go.Wk.at_nil _ _)⟩ (by kernel_rfl) ?_
      refine HS.call rfl (want_by rfl rfl c_7) rfl (ec en_24 rfl rfl) (ref19_Lets_walk (fr := (Ow.box b_1 73 (e_acequialaw24_Ask ask).toArray :: Ow.own 77 19 e_api_Want vr_7 r_9 :: fr)) (((gi r_9 i_3).2).1) ((((gi r_9 i_3).2).2).2) ask.2 ((((gi r_9 i_3).2).2).1) hS (nff_api_Want_18 (NfL.at hL_12 ho_13)) hM) ?_
      rintro _ h_17 ⟨F_18, r_11, rfl, hk, hS, _, hM⟩
      replace hK := hK.trans hk
      replace hN_a := hN_a.kp hk
      replace hL_a := hL_a.kp hk
      replace hN_b := hN_b.kp hk
      replace hL_b := hL_b.kp hk
      replace hL_1 := hL_1.kp hk
      replace hL_2 := hL_2.kp hk
      replace hL_3 := hL_3.kp hk
      replace hL_4 := hL_4.kp hk
      replace hL_5 := hL_5.kp hk
      replace hL_6 := hL_6.kp hk
      replace hN_1 := hN_1.kp hk
      replace hN_2 := hN_2.kp hk
      replace hL_7 := hL_7.kp hk
      replace hL_8 := hL_8.kp hk
      replace hL_9 := hL_9.kp hk
      replace hL_10 := hL_10.kp hk
      replace hL_11 := hL_11.kp hk
      replace hN_4 := hN_4.kp hk
      replace hL_12 := hL_12.kp hk
      refine HA.val (k := 19) (v := .bool r_11) rfl rfl (by kernel_rfl) (by kernel_rfl) (want_by rfl rfl c_6) rfl (fun _ ⟨c644, c645⟩ => q_pickK true rfl c_7 rfl) ?_
      refine HA.val (k := 20) (v := .bool r_11) rfl rfl (by kernel_rfl) (by kernel_rfl) (want_none) rfl (fun _ ⟨c644, c645⟩ => q_pickK false rfl c_6 rfl) ?_
      refine HA.val (k := 21) (v := .bool r_11) rfl rfl (by kernel_rfl) (by kernel_rfl) (want_none) rfl (fun _ ⟨c644, c645⟩ => q_assign rfl) ?_
      refine HA.nil ⟨⟨(hS.box 0 rfl), (hS.own 1 rfl)⟩, (Go.Wk.at_nil _ _)⟩ (by kernel_rfl) (blockQ_normal (thenQ_normal (?_)))
      refine HW.region ?_
      refine oM (.int .i64 i_3) rfl rfl ?_
      obtain ⟨ho_14, hM⟩ := hM
      refine oV (.int .i64 (i_3 + 1)) (q_addN _ rfl rfl rfl ho_14.1 ho_14.2) rfl ?_
      refine oA (.int .i64 (i_3 + 1)) rfl rfl ?_
      refine HO.nil (thenQ_normal (?_))
      rw [hKe_3] at hM
      exact ⟨(r_11, i_3 + 1), ⟨F_18, rfl, rfl, rfl, rfl, rfl, rfl, rfl, hK, hS, hN_a, hL_a, hN_b, hL_b, hL_1, hL_2, hL_3, hL_4, hL_5, hL_6, hN_1, hN_2, hL_7, hL_8, hL_9, hL_10, hL_11, hN_4, hL_12, hM.1⟩, hM.2⟩
     ·
      replace hM := hM.2 (of_decide_eq_false c_7)
      refine HA.past (k := 11) rfl rfl (by kernel_rfl) (by kernel_rfl) (past_by rfl rfl c_7) rfl ?_
      refine HA.past (k := 12) rfl rfl (by kernel_rfl) (by kernel_rfl) (past_by rfl rfl c_7) rfl ?_
      refine HA.past (k := 13) rfl rfl (by kernel_rfl) (by kernel_rfl) (past_by rfl rfl c_7) rfl ?_
      refine HA.past (k := 14) rfl rfl (by kernel_rfl) (by kernel_rfl) (past_by rfl rfl c_7) rfl ?_
      refine HA.past (k := 15) rfl rfl (by kernel_rfl) (by kernel_rfl) (past_by rfl rfl c_7) rfl ?_
      refine HA.past (k := 16) rfl rfl (by kernel_rfl) (by kernel_rfl) (past_by rfl rfl c_7) rfl ?_
      refine HA.past (k := 17) rfl rfl (by kernel_rfl) (by kernel_rfl) (past_by rfl rfl c_7) rfl ?_
      refine HA.one (k := 18) ⟨⟨(hS.box 0 rfl), (hS.own 1 rfl)⟩, (Go.Wk.at_nil _ _)⟩ (by kernel_rfl) ?_
      refine HS.past rfl (past_by rfl rfl c_7) rfl ?_
      refine HA.val (k := 19) (v := .bool false) rfl rfl (by kernel_rfl) (by kernel_rfl) (want_by rfl rfl c_6) rfl (fun _ ⟨c644, c645⟩ => q_pickK false rfl c_7 rfl) ?_
      refine HA.val (k := 20) (v := .bool false) rfl rfl (by kernel_rfl) (by kernel_rfl) (want_none) rfl (fun _ ⟨c644, c645⟩ => q_pickK false rfl c_6 rfl) ?_
      refine HA.val (k := 21) (v := .bool false) rfl rfl (by kernel_rfl) (by kernel_rfl) (want_none) rfl (fun _ ⟨c644, c645⟩ => q_assign rfl) ?_
      refine HA.nil ⟨⟨(hS.box 0 rfl), (hS.own 1 rfl)⟩, (Go.Wk.at_nil _ _)⟩ (by kernel_rfl) (blockQ_normal (thenQ_normal (?_)))
      refine HW.region ?_
      refine oM (.int .i64 i_3) rfl rfl ?_
      obtain ⟨ho_15, hM⟩ := hM
      refine oV (.int .i64 (i_3 + 1)) (q_addN _ rfl rfl rfl ho_15.1 ho_15.2) rfl ?_
      refine oA (.int .i64 (i_3 + 1)) rfl rfl ?_
      refine HO.nil (thenQ_normal (?_))
      rw [hKe_3] at hM
      exact ⟨(false, i_3 + 1), ⟨F_17, rfl, rfl, rfl, rfl, rfl, rfl, rfl, hK, hS, hN_a, hL_a, hN_b, hL_b, hL_1, hL_2, hL_3, hL_4, hL_5, hL_6, hN_1, hN_2, hL_7, hL_8, hL_9, hL_10, hL_11, hN_4, hL_12, hM.1⟩, hM.2⟩
   ·
    replace hM := hM.2 (of_decide_eq_false c_5)
    refine HW.exit (thenQ_exit (thenQ_exit (blockQ_exit (thenQ_normal (?_)))))
    refine HW.seq ?_
    refine HW.region ?_
    refine oM (vr_7) rfl rfl ?_
    refine oM (v_1) rfl rfl ?_
    refine HO.call (want_none) rfl (ec en_31 rfl rfl) (ref24_Gather_walk (fr := (Ow.box b_1 73 (e_acequialaw24_Ask ask).toArray :: Ow.own 77 19 e_api_Want vr_7 r_9 :: fr)) both_1 v_1 hS hN_2 hL_7 hM) ?_
    rintro vr_8 h_18 ⟨F_19, r_12, _, rfl, hk, hS, _, _, hL_13, hM⟩
    replace hK := hK.trans hk
    replace hN_a := hN_a.kp hk
    replace hL_a := hL_a.kp hk
    replace hN_b := hN_b.kp hk
    replace hL_b := hL_b.kp hk
    replace hL_12 := hL_12.kp hk
    replace hS : St F_19 (Ow.own 77 19 e_api_Want vr_7 r_9 :: Ow.own 77 19 e_api_Want vr_8 r_12 :: Ow.box b_1 73 (e_acequialaw24_Ask ask).toArray :: fr) h_18 := hS.perm2 [2, 0, 1] 3 rfl rfl
    have hZ_1 := hS
    have hkz_1 := (hS.freeze).2
    replace hS := hS.freeze.1
    have hL_14 : SliceF (fun bz_ => F_19 bz_ ∨ (Ow.own 77 19 e_api_Want vr_7 r_9).foot bz_) h_18 19 e_api_Want vr_7 r_9 := ⟨(hZ_1.own 0 rfl).slice, fun _ b hb => .inr hb⟩
    replace hS : St (fun bz_ => F_19 bz_ ∨ (Ow.own 77 19 e_api_Want vr_7 r_9).foot bz_) (Ow.own 77 19 e_api_Want vr_8 r_12 :: Ow.box b_1 73 (e_acequialaw24_Ask ask).toArray :: fr) h_18 := hS
    have hZ_2 := hS
    have hkz_2 := (hS.freeze).2
    replace hS := hS.freeze.1
    have hL_15 : SliceF (fun bz_ => (fun bz_ => F_19 bz_ ∨ (Ow.own 77 19 e_api_Want vr_7 r_9).foot bz_) bz_ ∨ (Ow.own 77 19 e_api_Want vr_8 r_12).foot bz_) h_18 19 e_api_Want vr_8 r_12 := ⟨(hZ_2.own 0 rfl).slice, fun _ b hb => .inr hb⟩
    refine HO.call (want_none) rfl (ec en_30 rfl rfl) (ref24_Same_walk (fr := (Ow.box b_1 73 (e_acequialaw24_Ask ask).toArray :: fr)) r_9 r_12 vr_7 vr_8 hS (NfL.kp (NfL.kp hL_12 hkz_1) hkz_2) (hL_14.kp hkz_2) (NfL.kp (NfL.kp hL_13 hkz_1) hkz_2) hL_15 hM) ?_
    rintro _ h_19 ⟨F_20, r_13, rfl, hk, hS, _, _, _, _, hM⟩
    obtain ⟨hS, hk⟩ := hZ_2.back hk hS
    obtain ⟨hS, hk⟩ := hZ_1.back hk hS
    generalize (fun bz_ => (fun bz_ => F_20 bz_ ∧ ¬ (Ow.own 77 19 e_api_Want vr_8 r_12).foot bz_) bz_ ∧ ¬ (Ow.own 77 19 e_api_Want vr_7 r_9).foot bz_) = F_21 at hS hk
    replace hK := hK.trans hk
    replace hN_a := hN_a.kp hk
    replace hL_a := hL_a.kp hk
    replace hN_b := hN_b.kp hk
    replace hL_b := hL_b.kp hk
    refine oM (.bool r_13) rfl rfl ?_
    rcases Bool.eq_false_or_eq_true r_13 with c_8 | c_8
    ·
     replace hM := hM.1 c_8
     refine HO.val (v := .bool some_1) (want_by rfl rfl c_8) rfl (q_move rfl) ?_
     refine HO.val (v := .bool lets_1) (want_by rfl rfl c_8) rfl (q_move rfl) ?_
     refine HO.val (v := .bool (some_1 == lets_1)) (want_by rfl rfl c_8) rfl (q_eqlB Tryz.underlying4 rfl rfl) ?_
     refine oV (.bool (some_1 == lets_1)) (q_pickK true rfl c_8 rfl) rfl ?_
     refine oM (.bool (some_1 == lets_1)) rfl rfl ?_
     rcases Bool.eq_false_or_eq_true (some_1 == lets_1) with c_9 | c_9
     ·
      replace hM := hM.1 c_9
      refine HO.call (want_by rfl rfl c_9) rfl (ec en_32 rfl rfl) (law24_lives_walk (fr := (Ow.own 77 19 e_api_Want vr_7 r_9 :: Ow.own 77 19 e_api_Want vr_8 r_12 :: Ow.box b_1 73 (e_acequialaw24_Ask ask).toArray :: fr))  hS hD hM) ?_
      rintro _ h_20 ⟨F_22, r_14, rfl, hk, hS, hM⟩
      replace hK := hK.trans hk
      replace hN_a := hN_a.kp hk
      replace hL_a := hL_a.kp hk
      replace hN_b := hN_b.kp hk
      replace hL_b := hL_b.kp hk
      refine oV (.bool r_14) (q_pickK true rfl c_9 rfl) rfl ?_
      refine oA (.bool r_14) rfl rfl ?_
      refine HO.nil (thenQ_normal (?_))
      refine HW.ret (?_)
      refine ⟨.inr rfl, .bool r_14, res1 rfl (rt rfl), ?_⟩
      replace hS : St F_22 (fr) h_20 := hS.perm2 [] 3 rfl rfl
      exact ⟨F_22, r_14, rfl, hK, hS, hN_a, hL_a, hN_b, hL_b, hM⟩
     ·
      replace hM := hM.2 c_9
      refine HO.past (past_by rfl rfl c_9) rfl ?_
      refine oV (.bool false) (q_pickK false rfl c_9 rfl) rfl ?_
      refine oA (.bool false) rfl rfl ?_
      refine HO.nil (thenQ_normal (?_))
      refine HW.ret (?_)
      refine ⟨.inr rfl, .bool false, res1 rfl (rt rfl), ?_⟩
      replace hS : St F_21 (fr) h_19 := hS.perm2 [] 3 rfl rfl
      exact ⟨F_21, false, rfl, hK, hS, hN_a, hL_a, hN_b, hL_b, hM⟩
    ·
     replace hM := hM.2 c_8
     refine HO.past (past_by rfl rfl c_8) rfl ?_
     refine HO.past (past_by rfl rfl c_8) rfl ?_
     refine HO.past (past_by rfl rfl c_8) rfl ?_
     refine oV (.bool false) (q_pickK false rfl c_8 rfl) rfl ?_
     refine oM (.bool false) rfl rfl ?_
     refine HO.past (past_some rfl rfl) rfl ?_
     refine oV (.bool false) (q_pick rfl rfl) rfl ?_
     refine oA (.bool false) rfl rfl ?_
     refine HO.nil (thenQ_normal (?_))
     refine HW.ret (?_)
     refine ⟨.inr rfl, .bool false, res1 rfl (rt rfl), ?_⟩
     replace hS : St F_21 (fr) h_19 := hS.perm2 [] 3 rfl rfl
     exact ⟨F_21, false, rfl, hK, hS, hN_a, hL_a, hN_b, hL_b, hM⟩
end Go.Wk
