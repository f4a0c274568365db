/- The walks of TreeMakes. -/
import Derived.Test.YtjliljlmgepmpaaGreatDoorTreB1
set_option linter.unusedSimpArgs false
set_option linter.unusedVariables false
set_option linter.unusedSectionVars false
namespace Go.Wk
open Go.HL
open Go.Proofs hiding encI
variable [DM]
theorem en_8 (args : Array Value) (w : World) : (callFunc 8 args).run Tryz.prog w = .ok (.enter 8 args) w := by kernel_rfl
theorem en_38 (args : Array Value) (w : World) : (callFunc 38 args).run Tryz.prog w = .ok (.enter 38 args) w := by kernel_rfl
theorem en_40 (args : Array Value) (w : World) : (callFunc 40 args).run Tryz.prog w = .ok (.enter 40 args) w := by kernel_rfl
theorem en_41 (args : Array Value) (w : World) : (callFunc 41 args).run Tryz.prog w = .ok (.enter 41 args) w := by kernel_rfl
theorem en_12 (args : Array Value) (w : World) : (callFunc 12 args).run Tryz.prog w = .ok (.enter 12 args) w := by kernel_rfl
theorem en_37 (args : Array Value) (w : World) : (callFunc 37 args).run Tryz.prog w = .ok (.enter 37 args) w := by kernel_rfl
theorem en_14 (args : Array Value) (w : World) : (callFunc 14 args).run Tryz.prog w = .ok (.enter 14 args) w := by kernel_rfl
theorem en_11 (args : Array Value) (w : World) : (callFunc 11 args).run Tryz.prog w = .ok (.enter 11 args) w := by kernel_rfl
theorem en_28 (args : Array Value) (w : World) : (callFunc 28 args).run Tryz.prog w = .ok (.enter 28 args) w := by kernel_rfl
def ref32_Sorted_j1 (l : List T_api_Branch) (out_1 : List T_api_Branch) (i_1 : Int) (K_1 : (List T_api_Branch) → Int → Prop) (n_1 : Int) : Prop :=
 ((0 : Int) ≤ n_1 ∧ n_1 ≤ (out_1.length : Int)) ∧ (((0 : Int) ≤ i_1 ∧ i_1 < (l.length : Int)) ∧ (((0 : Int) ≤ 0 ∧ 0 ≤ n_1 ∧ n_1 ≤ (out_1.length : Int)) ∧ (((([] : List T_api_Branch).length + (cut out_1 0 n_1).length) * 16 ≤ 140737488355328) ∧ ((((([] : List T_api_Branch) ++ (cut out_1 0 n_1)).length + ([(gi l i_1)] : List T_api_Branch).length) * 16 ≤ 140737488355328) ∧ (((0 : Int) ≤ n_1 ∧ n_1 ≤ (out_1.length : Int) ∧ (out_1.length : Int) ≤ (out_1.length : Int)) ∧ (((((([] : List T_api_Branch) ++ (cut out_1 0 n_1)) ++ ([(gi l i_1)] : List T_api_Branch)).length + (cut out_1 n_1 (out_1.length : Int)).length) * 16 ≤ 140737488355328) ∧ ((I64 (i_1 + 1)) ∧ (K_1 (((([] : List T_api_Branch) ++ (cut out_1 0 n_1)) ++ ([(gi l i_1)] : List T_api_Branch)) ++ (cut out_1 n_1 (out_1.length : Int))) (i_1 + 1)))))))))
def ref32_Sorted_l2 (l : List T_api_Branch) (out_1 : List T_api_Branch) (i_1 : Int) (K_1 : (List T_api_Branch) → Int → Prop) (K_2 : Int → Prop) (n_2 : Int) : Prop :=
 (n_2 < (out_1.length : Int) → ((0 : Int) ≤ n_2 ∧ n_2 < (out_1.length : Int)) ∧ (((0 : Int) ≤ i_1 ∧ i_1 < (l.length : Int)) ∧ (ref32_less_W (gi out_1 n_2) (gi l i_1) (fun r_2 => (r_2 = true → (I64 (n_2 + 1)) ∧ (K_2 (n_2 + 1))) ∧ (r_2 = false → ref32_Sorted_j1 l out_1 i_1 K_1 n_2))))) ∧ (¬ (n_2 < (out_1.length : Int)) → ref32_Sorted_j1 l out_1 i_1 K_1 n_2)
def ref32_Sorted_l1 (l : List T_api_Branch) (Q : (List T_api_Branch) → Prop) (K_1 : (List T_api_Branch) → Int → Prop) (out_1 : List T_api_Branch) (i_1 : Int) : Prop :=
 (i_1 < (l.length : Int) → loopW (fun (K_2 : Int → Prop) (s : Int) => ref32_Sorted_l2 l out_1 i_1 K_1 K_2 s) 0) ∧ (¬ (i_1 < (l.length : Int)) → Q out_1)
def ref32_Sorted_W (l : List T_api_Branch) (Q : (List T_api_Branch) → Prop) : Prop :=
 loopW (fun (K_1 : (List T_api_Branch × Int) → Prop) (s : List T_api_Branch × Int) => ref32_Sorted_l1 l Q (fun out_1 i_1 => K_1 (out_1, i_1)) s.1 s.2) ([], 0)
set_option maxHeartbeats 40000000 in
set_option maxRecDepth 100000 in
theorem ref32_Sorted_walk {F : Fz} {fr : List Ow} {h0 : Heap} (l : List T_api_Branch) (vl : Value) (hS : St F (fr) h0) (hL_l : SliceF F h0 2 e_api_Branch vl l) {Q : (List T_api_Branch) → Prop} (hM : ref32_Sorted_W l Q) :
  HC Tryz.prog 40 #[vl] h0 fun u h' => ∃ (F' : Fz) (r_1 : List T_api_Branch) (vr_1 : Value), u = vr_1 ∧ Kp F h0 F' h' ∧ St F' (Ow.own 46 2 e_api_Branch vr_1 r_1 :: fr) h' ∧ (SliceF F' h' 2 e_api_Branch vl l) ∧ Q r_1 := by
 unfold ref32_Sorted_W at hM
 have hK := Kp.refl F h0
 refine HC.of_HW (n := 46) Tryz.func40 rfl rfl (Nat.le_of_ble_eq_true rfl) ?_
 refine HW.seq ?_
 refine HW.region ?_
 refine oA (.slice none 0 0) rfl rfl ?_
 refine HO.nil (thenQ_normal (?_))
 refine HW.seq ?_
 refine HW.region ?_
 refine HO.eff (want_none) rfl (st_litEmpty (α := T_api_Branch) e_api_Branch hS tl_22) ?_
 rintro _ h_1 ⟨b_1, rfl, hS, hk⟩
 replace hK := hK.trans hk
 replace hL_l := hL_l.kp hk
 refine oA (.slice (some ⟨b_1, 0, none⟩) 0 0) rfl rfl ?_
 refine HO.nil (thenQ_normal (?_))
 refine HW.seq ?_
 refine HW.seq ?_
 refine HW.region ?_
 refine oA (.int .i64 0) rfl rfl ?_
 refine HO.nil (thenQ_normal (?_))
 refine HW.block ?_
 obtain ⟨I_1, m_1, hI_1, hR_1⟩ := hM
 refine HW.loop (S := List T_api_Branch × Int) (fun s f h => match s with | (out_1, i_1) => ∃ (F' : Fz) (vout_1 : Value), f 0 = vl ∧ f 2 = .slice none 0 0 ∧ f 3 = vout_1 ∧ f 4 = .int .i64 i_1 ∧ Kp F h0 F' h ∧ St F' (Ow.own 46 2 e_api_Branch vout_1 out_1 :: fr) h ∧ (SliceF F' h 2 e_api_Branch vl l) ∧ I_1 (out_1, i_1)) m_1 ([], 0) ⟨F, .slice (some ⟨b_1, 0, none⟩) 0 0, rfl, rfl, rfl, rfl, hK, hS, hL_l, hI_1⟩ ?_
 rintro ⟨out_1, i_1⟩ f_1 h_2 ⟨F_1, vout_1, e0, e2, e3, e4, hK, hS, hL_l, hI0⟩
 obtain ⟨K_1, hKe_1⟩ : ∃ K : (List T_api_Branch) → Int → Prop, K = fun out_1' i_1' => I_1 (out_1', i_1') ∧ m_1 (out_1', i_1') < m_1 (out_1, i_1) := ⟨_, rfl⟩
 have hM : ref32_Sorted_l1 l Q K_1 out_1 i_1 := by rw [hKe_1]; exact hR_1 (out_1, i_1) hI0
 unfold ref32_Sorted_l1 at hM
 refine HW.fr [(0, vl), (2, .slice none 0 0), (3, vout_1), (4, .int .i64 i_1)] ⟨e0, e2, e3, e4, trivial⟩ ?_
 refine HW.seq ?_
 refine HW.seq ?_
 refine HW.region ?_
 refine oM (.int .i64 i_1) rfl rfl ?_
 refine oM (vl) rfl rfl ?_
 refine oV (.int .i64 (l.length : Int)) (q_len ts_22 (shp hL_l.is) rfl rfl) rfl ?_
 refine oV (.bool (decide (i_1 < (l.length : Int)))) (q_lss rfl rfl) rfl ?_
 refine HO.nil (thenQ_normal (?_))
 refine HW.cond (decide (i_1 < (l.length : Int))) rfl (fun c_1 => ?_) (fun c_1 => ?_)
 ·
  replace hM := hM.1 (of_decide_eq_true c_1)
  refine HW.skip (thenQ_normal (?_))
  refine HW.seq ?_
  refine HW.block ?_
  refine HW.seq ?_
  refine HW.region ?_
  refine oA (.int .i64 0) rfl rfl ?_
  refine HO.nil (thenQ_normal (?_))
  refine HW.seq_mid (fun f h => ∃ (F' : Fz) (n_1 : Int), f 0 = vl ∧ f 2 = .slice none 0 0 ∧ f 3 = vout_1 ∧ f 4 = .int .i64 i_1 ∧ f 5 = .int .i64 n_1 ∧ Kp F h0 F' h ∧ St F' (Ow.own 46 2 e_api_Branch vout_1 out_1 :: fr) h ∧ (SliceF F' h 2 e_api_Branch vl l) ∧ ref32_Sorted_j1 l out_1 i_1 K_1 n_1) ?_ ?_
  ·
   refine HW.block ?_
   obtain ⟨I_2, m_2, hI_2, hR_2⟩ := hM
   refine HW.loop (S := Int) (fun n_2 f h => ∃ (F' : Fz), f 0 = vl ∧ f 2 = .slice none 0 0 ∧ f 3 = vout_1 ∧ f 4 = .int .i64 i_1 ∧ f 5 = .int .i64 n_2 ∧ Kp F h0 F' h ∧ St F' (Ow.own 46 2 e_api_Branch vout_1 out_1 :: fr) h ∧ (SliceF F' h 2 e_api_Branch vl l) ∧ I_2 n_2) m_2 0 ⟨F_1, rfl, rfl, rfl, rfl, rfl, hK, hS, hL_l, hI_2⟩ ?_
   rintro n_2 f_2 h_3 ⟨F_2, e0, e2, e3, e4, e5, hK, hS, hL_l, hI0⟩
   obtain ⟨K_2, hKe_2⟩ : ∃ K : Int → Prop, K = fun n_2' => I_2 n_2' ∧ m_2 n_2' < m_2 n_2 := ⟨_, rfl⟩
   have hM : ref32_Sorted_l2 l out_1 i_1 K_1 K_2 n_2 := by rw [hKe_2]; exact hR_2 n_2 hI0
   unfold ref32_Sorted_l2 at hM
   refine HW.fr [(0, vl), (2, .slice none 0 0), (3, vout_1), (4, .int .i64 i_1), (5, .int .i64 n_2)] ⟨e0, e2, e3, e4, e5, trivial⟩ ?_
   refine HW.seq ?_
   refine HW.seq ?_
   refine HW.regionA 15 mixed (fun h => (SliceIs h 2 e_api_Branch vl l) ∧ (OwnIs h 0 46 2 e_api_Branch vout_1 out_1)) [] (by kernel_rfl) ?_
   refine HA.val (k := 0) (v := .int .i64 n_2) rfl rfl (by kernel_rfl) (by kernel_rfl) (want_none) rfl (fun _ ⟨hL_l, c405⟩ => q_move rfl) ?_
   refine HA.val (k := 1) (v := vout_1) rfl rfl (by kernel_rfl) (by kernel_rfl) (want_none) rfl (fun _ ⟨hL_l, c405⟩ => q_move rfl) ?_
   refine HA.val (k := 2) (v := .int .i64 (out_1.length : Int)) rfl rfl (by kernel_rfl) (by kernel_rfl) (want_none) rfl (fun _ ⟨hL_l, c405⟩ => q_len ts_22 (shp c405.slice) rfl rfl) ?_
   refine HA.val (k := 3) (v := .bool (decide (n_2 < (out_1.length : Int)))) rfl rfl (by kernel_rfl) (by kernel_rfl) (want_none) rfl (fun _ ⟨hL_l, c405⟩ => q_lss rfl rfl) ?_
   refine HA.val (k := 4) (v := .bool (decide (n_2 < (out_1.length : Int)))) rfl rfl (by kernel_rfl) (by kernel_rfl) (want_none) rfl (fun _ ⟨hL_l, c405⟩ => q_move rfl) ?_
   rcases Bool.eq_false_or_eq_true (decide (n_2 < (out_1.length : Int))) with c_2 | c_2
   ·
    replace hM := hM.1 (of_decide_eq_true c_2)
    refine HA.val (k := 5) (v := vout_1) rfl rfl (by kernel_rfl) (by kernel_rfl) (want_by rfl rfl c_2) rfl (fun _ ⟨hL_l, c405⟩ => q_move rfl) ?_
    refine HA.val (k := 6) (v := .int .i64 n_2) rfl rfl (by kernel_rfl) (by kernel_rfl) (want_by rfl rfl c_2) rfl (fun _ ⟨hL_l, c405⟩ => q_move rfl) ?_
    obtain ⟨ho_1, hM⟩ := hM
    refine HA.val (k := 7) (v := elemPtr 2 vout_1 (n_2).toNat) rfl rfl (by kernel_rfl) (by kernel_rfl) (want_by rfl rfl c_2) rfl (fun _ ⟨hL_l, c405⟩ => q_idx ts_22 c405.slice rfl rfl ho_1) ?_
    refine HA.val (k := 8) (v := .agg #[.int .i64 ((gi out_1 n_2).1), .int .i64 ((gi out_1 n_2).2)]) rfl rfl (by kernel_rfl) (by kernel_rfl) (want_by rfl rfl c_2) rfl (fun _ ⟨hL_l, c405⟩ => q_ldElemAgg (cs := [.int .i64 ((gi out_1 n_2).1), .int .i64 ((gi out_1 n_2).2)]) ta_46 c405.slice rfl ho_1 rfl) ?_
    refine HA.val (k := 9) (v := vl) rfl rfl (by kernel_rfl) (by kernel_rfl) (want_by rfl rfl c_2) rfl (fun _ ⟨hL_l, c405⟩ => q_move rfl) ?_
    refine HA.val (k := 10) (v := .int .i64 i_1) rfl rfl (by kernel_rfl) (by kernel_rfl) (want_by rfl rfl c_2) rfl (fun _ ⟨hL_l, c405⟩ => q_move rfl) ?_
    obtain ⟨ho_2, hM⟩ := hM
    refine HA.val (k := 11) (v := elemPtr 2 vl (i_1).toNat) rfl rfl (by kernel_rfl) (by kernel_rfl) (want_by rfl rfl c_2) rfl (fun _ ⟨hL_l, c405⟩ => q_idx ts_22 hL_l rfl rfl ho_2) ?_
    refine HA.val (k := 12) (v := .agg #[.int .i64 ((gi l i_1).1), .int .i64 ((gi l i_1).2)]) rfl rfl (by kernel_rfl) (by kernel_rfl) (want_by rfl rfl c_2) rfl (fun _ ⟨hL_l, c405⟩ => q_ldElemAgg (cs := [.int .i64 ((gi l i_1).1), .int .i64 ((gi l i_1).2)]) ta_46 hL_l rfl ho_2 rfl) ?_
    refine HA.one (k := 13) ⟨⟨hL_l.is, (hS.own 0 rfl)⟩, (Go.Wk.at_nil _ _)⟩ (by kernel_rfl) ?_
    refine HS.call rfl (want_by rfl rfl c_2) rfl (ec en_47 rfl rfl) (ref32_less_walk (fr := (Ow.own 46 2 e_api_Branch vout_1 out_1 :: fr)) (gi out_1 n_2) (gi l i_1) hS hM) ?_
    rintro _ h_4 ⟨F_3, r_2, rfl, hk, hS, hM⟩
    replace hK := hK.trans hk
    replace hL_l := hL_l.kp hk
    refine HA.val (k := 14) (v := .bool r_2) rfl rfl (by kernel_rfl) (by kernel_rfl) (want_none) rfl (fun _ ⟨hL_l, c405⟩ => q_pickK true rfl c_2 rfl) ?_
    refine HA.nil ⟨⟨hL_l.is, (hS.own 0 rfl)⟩, (Go.Wk.at_nil _ _)⟩ (by kernel_rfl) (thenQ_normal (?_))
    refine HW.cond r_2 rfl (fun c_3 => ?_) (fun c_3 => ?_)
    ·
     replace hM := hM.1 c_3
     refine HW.skip (thenQ_normal (?_))
     refine HW.block ?_
     refine HW.region ?_
     refine oM (.int .i64 n_2) rfl rfl ?_
     obtain ⟨ho_3, hM⟩ := hM
     refine oV (.int .i64 (n_2 + 1)) (q_addN _ rfl rfl rfl ho_3.1 ho_3.2) rfl ?_
     refine oA (.int .i64 (n_2 + 1)) rfl rfl ?_
     refine HO.nil (blockQ_normal (thenQ_normal (?_)))
     rw [hKe_2] at hM
     exact ⟨n_2 + 1, ⟨F_3, rfl, rfl, rfl, rfl, rfl, hK, hS, hL_l, hM.1⟩, hM.2⟩
    ·
     replace hM := hM.2 c_3
     refine HW.exit (thenQ_exit (thenQ_exit (blockQ_exit (thenQ_normal (?_)))))
     exact ⟨F_3, n_2, rfl, rfl, rfl, rfl, rfl, hK, hS, hL_l, hM⟩
   ·
    replace hM := hM.2 (of_decide_eq_false c_2)
    refine HA.past (k := 5) rfl rfl (by kernel_rfl) (by kernel_rfl) (past_by rfl rfl c_2) rfl ?_
    refine HA.past (k := 6) rfl rfl (by kernel_rfl) (by kernel_rfl) (past_by rfl rfl c_2) rfl ?_
    refine HA.past (k := 7) rfl rfl (by kernel_rfl) (by kernel_rfl) (past_by rfl rfl c_2) rfl ?_
    refine HA.past (k := 8) rfl rfl (by kernel_rfl) (by kernel_rfl) (past_by rfl rfl c_2) rfl ?_
    refine HA.past (k := 9) rfl rfl (by kernel_rfl) (by kernel_rfl) (past_by rfl rfl c_2) rfl ?_
    refine HA.past (k := 10) rfl rfl (by kernel_rfl) (by kernel_rfl) (past_by rfl rfl c_2) rfl ?_
    refine HA.past (k := 11) rfl rfl (by kernel_rfl) (by kernel_rfl) (past_by rfl rfl c_2) rfl ?_
    refine HA.past (k := 12) rfl rfl (by kernel_rfl) (by kernel_rfl) (past_by rfl rfl c_2) rfl ?_
    refine HA.one (k := 13) ⟨⟨hL_l.is, (hS.own 0 rfl)⟩, (Go.Wk.at_nil _ _)⟩ (by kernel_rfl) ?_
    refine HS.past rfl (past_by rfl rfl c_2) rfl ?_
    refine HA.val (k := 14) (v := .bool false) rfl rfl (by kernel_rfl) (by kernel_rfl) (want_none) rfl (fun _ ⟨hL_l, c405⟩ => q_pickK false rfl c_2 rfl) ?_
    refine HA.nil ⟨⟨hL_l.is, (hS.own 0 rfl)⟩, (Go.Wk.at_nil _ _)⟩ (by kernel_rfl) (thenQ_normal (?_))
    refine HW.condF rfl ?_
    refine HW.exit (thenQ_exit (thenQ_exit (blockQ_exit (thenQ_normal (?_)))))
    exact ⟨F_2, n_2, rfl, rfl, rfl, rfl, rfl, hK, hS, hL_l, hM⟩
  ·
   rintro f_3 h_5 ⟨F_4, n_1, e0, e2, e3, e4, e5, hK, hS, hL_l, hM⟩
   unfold ref32_Sorted_j1 at hM
   refine HW.fr [(0, vl), (2, .slice none 0 0), (3, vout_1), (4, .int .i64 i_1), (5, .int .i64 n_1)] ⟨e0, e2, e3, e4, e5, trivial⟩ ?_
   obtain ⟨ho_4, hM⟩ := hM
   obtain ⟨ho_5, hM⟩ := hM
   obtain ⟨ho_6, hM⟩ := hM
   obtain ⟨ho_7, hM⟩ := hM
   obtain ⟨ho_8, hM⟩ := hM
   obtain ⟨ho_9, hM⟩ := hM
   obtain ⟨ho_10, hM⟩ := hM
   refine HW.regionA 16 mixed (fun h => (SliceIs h 2 e_api_Branch vl l) ∧ (OwnIs h 0 46 2 e_api_Branch vout_1 out_1)) [] (by kernel_rfl) ?_
   refine HA.val (k := 1) (v := vout_1) rfl rfl (by kernel_rfl) (by kernel_rfl) (want_none) rfl (fun _ ⟨hL_l, c304⟩ => q_move rfl) ?_
   refine HA.val (k := 2) (v := .int .i64 n_1) rfl rfl (by kernel_rfl) (by kernel_rfl) (want_none) rfl (fun _ ⟨hL_l, c304⟩ => q_move rfl) ?_
   refine HA.val (k := 3) (v := cutV 2 vout_1 (0 : Int).toNat (n_1).toNat) rfl rfl (by kernel_rfl) (by kernel_rfl) (want_none) rfl (fun _ ⟨hL_l, c304⟩ => q_slH ts_22 c304.slice rfl rfl ho_4) ?_
   refine HA.val (k := 5) (v := vl) rfl rfl (by kernel_rfl) (by kernel_rfl) (want_none) rfl (fun _ ⟨hL_l, c304⟩ => q_move rfl) ?_
   refine HA.val (k := 6) (v := .int .i64 i_1) rfl rfl (by kernel_rfl) (by kernel_rfl) (want_none) rfl (fun _ ⟨hL_l, c304⟩ => q_move rfl) ?_
   refine HA.val (k := 7) (v := elemPtr 2 vl (i_1).toNat) rfl rfl (by kernel_rfl) (by kernel_rfl) (want_none) rfl (fun _ ⟨hL_l, c304⟩ => q_idx ts_22 hL_l rfl rfl ho_5) ?_
   refine HA.val (k := 8) (v := .agg #[.int .i64 ((gi l i_1).1), .int .i64 ((gi l i_1).2)]) rfl rfl (by kernel_rfl) (by kernel_rfl) (want_none) rfl (fun _ ⟨hL_l, c304⟩ => q_ldElemAgg (cs := [.int .i64 ((gi l i_1).1), .int .i64 ((gi l i_1).2)]) ta_46 hL_l rfl ho_5 rfl) ?_
   refine HA.val (k := 11) (v := vout_1) rfl rfl (by kernel_rfl) (by kernel_rfl) (want_none) rfl (fun _ ⟨hL_l, c304⟩ => q_move rfl) ?_
   refine HA.val (k := 12) (v := .int .i64 n_1) rfl rfl (by kernel_rfl) (by kernel_rfl) (want_none) rfl (fun _ ⟨hL_l, c304⟩ => q_move rfl) ?_
   refine HA.val (k := 13) (v := cutV 2 vout_1 (n_1).toNat ((out_1.length : Int)).toNat) rfl rfl (by kernel_rfl) (by kernel_rfl) (want_none) rfl (fun _ ⟨hL_l, c304⟩ => q_slL ts_22 c304.slice rfl rfl ho_4) ?_
   refine HA.two (k := 0) (k' := 9) ⟨⟨hL_l.is, (hS.own 0 rfl)⟩, (Go.Wk.at_nil _ _)⟩ (by kernel_rfl) ?_ ?_
   ·
    refine HS.eff rfl (want_none) rfl (st_litEmpty (α := T_api_Branch) e_api_Branch hS tl_22) ?_
    rintro _ h_6 ⟨b_2, rfl, hS, hk⟩
    replace hK := hK.trans hk
    replace hL_l := hL_l.kp hk
    refine HA.two (k := 4) (k' := 9) ⟨⟨hL_l.is, (hS.own 1 rfl)⟩, (Go.Wk.at_nil _ _)⟩ (by kernel_rfl) ?_ ?_
    ·
     refine HS.eff rfl (want_none) rfl (st_append te_22 hS (i := 0) rfl (cutIs (hS.own 1 rfl).slice 0 n_1 ho_6.1 ho_6.2.1 ho_6.2.2) rfl rfl rfl (by intro a _ u hu; simp [e_api_Branch, encI, encN, encB, encT] at hu; rcases hu with rfl | rfl <;> rfl) ho_7 (by omega)) ?_
     rintro v_1 h_7 ⟨hS, hk⟩
     replace hS : St F_4 (Ow.own 46 2 e_api_Branch v_1 (([] : List T_api_Branch) ++ (cut out_1 0 n_1)) :: Ow.own 46 2 e_api_Branch vout_1 out_1 :: fr) h_7 := hS
     replace hK := hK.trans hk
     replace hL_l := hL_l.kp hk
     refine HA.one (k := 9) ⟨⟨hL_l.is, (hS.own 1 rfl)⟩, (Go.Wk.at_nil _ _)⟩ (by kernel_rfl) ?_
     refine HS.eff rfl (want_none) rfl (st_lit (enc := e_api_Branch) (cells := #[.int .i64 ((gi l i_1).1), .int .i64 ((gi l i_1).2)]) #[.int .i64 0, .int .i64 0] ([(gi l i_1)] : List T_api_Branch) hS tl_22 (by decide) (by decide) (by kernel_rfl) (by kernel_rfl) rfl (by intro x hx; rfl) rfl) ?_
     rintro _ h_8 ⟨b_3, rfl, hS, hk⟩
     replace hK := hK.trans hk
     replace hL_l := hL_l.kp hk
     refine HA.one (k := 10) ⟨⟨hL_l.is, (hS.own 2 rfl)⟩, (Go.Wk.at_nil _ _)⟩ (by kernel_rfl) ?_
     refine HS.eff rfl (want_none) rfl (st_append te_22 hS (i := 1) rfl (hS.own 0 rfl).slice rfl rfl rfl (by intro a _ u hu; simp [e_api_Branch, encI, encN, encB, encT] at hu; rcases hu with rfl | rfl <;> rfl) ho_8 (by omega)) ?_
     rintro v_2 h_9 ⟨hS, hk⟩
     replace hS : St F_4 (Ow.own 46 2 e_api_Branch (.slice (some ⟨b_3, 0, none⟩) 1 1) ([(gi l i_1)] : List T_api_Branch) :: Ow.own 46 2 e_api_Branch v_2 ((([] : List T_api_Branch) ++ (cut out_1 0 n_1)) ++ ([(gi l i_1)] : List T_api_Branch)) :: Ow.own 46 2 e_api_Branch vout_1 out_1 :: fr) h_9 := hS
     replace hK := hK.trans hk
     replace hL_l := hL_l.kp hk
     refine HA.one (k := 14) ⟨⟨hL_l.is, (hS.own 2 rfl)⟩, (Go.Wk.at_nil _ _)⟩ (by kernel_rfl) ?_
     refine HS.eff rfl (want_none) rfl (st_append te_22 hS (i := 1) rfl (cutIs (hS.own 2 rfl).slice n_1 (out_1.length : Int) ho_9.1 ho_9.2.1 ho_9.2.2) rfl rfl rfl (by intro a _ u hu; simp [e_api_Branch, encI, encN, encB, encT] at hu; rcases hu with rfl | rfl <;> rfl) ho_10 (by omega)) ?_
     rintro v_3 h_10 ⟨hS, hk⟩
     replace hS : St F_4 (Ow.own 46 2 e_api_Branch (.slice (some ⟨b_3, 0, none⟩) 1 1) ([(gi l i_1)] : List T_api_Branch) :: Ow.own 46 2 e_api_Branch v_3 (((([] : List T_api_Branch) ++ (cut out_1 0 n_1)) ++ ([(gi l i_1)] : List T_api_Branch)) ++ (cut out_1 n_1 (out_1.length : Int))) :: Ow.own 46 2 e_api_Branch vout_1 out_1 :: fr) h_10 := hS
     replace hK := hK.trans hk
     replace hL_l := hL_l.kp hk
     refine HA.val (k := 15) (v := v_3) rfl rfl (by kernel_rfl) (by kernel_rfl) (want_none) rfl (fun _ ⟨hL_l, c304⟩ => q_assign rfl) ?_
     refine HA.nil ⟨⟨hL_l.is, (hS.own 2 rfl)⟩, (Go.Wk.at_nil _ _)⟩ (by kernel_rfl) (blockQ_normal (thenQ_normal (?_)))
     refine HW.region ?_
     refine oM (.int .i64 i_1) rfl rfl ?_
     obtain ⟨ho_11, hM⟩ := hM
     refine oV (.int .i64 (i_1 + 1)) (q_addN _ rfl rfl rfl ho_11.1 ho_11.2) rfl ?_
     refine oA (.int .i64 (i_1 + 1)) rfl rfl ?_
     refine HO.nil (thenQ_normal (?_))
     replace hS : St F_4 (Ow.own 46 2 e_api_Branch v_3 (((([] : List T_api_Branch) ++ (cut out_1 0 n_1)) ++ ([(gi l i_1)] : List T_api_Branch)) ++ (cut out_1 n_1 (out_1.length : Int))) :: fr) h_10 := hS.perm2 [1] 3 rfl rfl
     rw [hKe_1] at hM
     exact ⟨(((([] : List T_api_Branch) ++ (cut out_1 0 n_1)) ++ ([(gi l i_1)] : List T_api_Branch)) ++ (cut out_1 n_1 (out_1.length : Int)), i_1 + 1), ⟨F_4, v_3, rfl, rfl, rfl, rfl, hK, hS, hL_l, hM.1⟩, hM.2⟩
    ·
     refine HS.eff rfl (want_none) rfl (st_lit (enc := e_api_Branch) (cells := #[.int .i64 ((gi l i_1).1), .int .i64 ((gi l i_1).2)]) #[.int .i64 0, .int .i64 0] ([(gi l i_1)] : List T_api_Branch) hS tl_22 (by decide) (by decide) (by kernel_rfl) (by kernel_rfl) rfl (by intro x hx; rfl) rfl) ?_
     rintro _ h_7 ⟨b_3, rfl, hS, hk⟩
     replace hK := hK.trans hk
     replace hL_l := hL_l.kp hk
     refine HA.one (k := 4) ⟨⟨hL_l.is, (hS.own 2 rfl)⟩, (Go.Wk.at_nil _ _)⟩ (by kernel_rfl) ?_
     refine HS.eff rfl (want_none) rfl (st_append te_22 hS (i := 1) rfl (cutIs (hS.own 2 rfl).slice 0 n_1 ho_6.1 ho_6.2.1 ho_6.2.2) rfl rfl rfl (by intro a _ u hu; simp [e_api_Branch, encI, encN, encB, encT] at hu; rcases hu with rfl | rfl <;> rfl) ho_7 (by omega)) ?_
     rintro v_1 h_8 ⟨hS, hk⟩
     replace hS : St F_4 (Ow.own 46 2 e_api_Branch (.slice (some ⟨b_3, 0, none⟩) 1 1) ([(gi l i_1)] : List T_api_Branch) :: Ow.own 46 2 e_api_Branch v_1 (([] : List T_api_Branch) ++ (cut out_1 0 n_1)) :: Ow.own 46 2 e_api_Branch vout_1 out_1 :: fr) h_8 := hS
     replace hK := hK.trans hk
     replace hL_l := hL_l.kp hk
     refine HA.one (k := 10) ⟨⟨hL_l.is, (hS.own 2 rfl)⟩, (Go.Wk.at_nil _ _)⟩ (by kernel_rfl) ?_
     refine HS.eff rfl (want_none) rfl (st_append te_22 hS (i := 1) rfl (hS.own 0 rfl).slice rfl rfl rfl (by intro a _ u hu; simp [e_api_Branch, encI, encN, encB, encT] at hu; rcases hu with rfl | rfl <;> rfl) ho_8 (by omega)) ?_
     rintro v_2 h_9 ⟨hS, hk⟩
     replace hS : St F_4 (Ow.own 46 2 e_api_Branch (.slice (some ⟨b_3, 0, none⟩) 1 1) ([(gi l i_1)] : List T_api_Branch) :: Ow.own 46 2 e_api_Branch v_2 ((([] : List T_api_Branch) ++ (cut out_1 0 n_1)) ++ ([(gi l i_1)] : List T_api_Branch)) :: Ow.own 46 2 e_api_Branch vout_1 out_1 :: fr) h_9 := hS
     replace hK := hK.trans hk
     replace hL_l := hL_l.kp hk
     refine HA.one (k := 14) ⟨⟨hL_l.is, (hS.own 2 rfl)⟩, (Go.Wk.at_nil _ _)⟩ (by kernel_rfl) ?_
     refine HS.eff rfl (want_none) rfl (st_append te_22 hS (i := 1) rfl (cutIs (hS.own 2 rfl).slice n_1 (out_1.length : Int) ho_9.1 ho_9.2.1 ho_9.2.2) rfl rfl rfl (by intro a _ u hu; simp [e_api_Branch, encI, encN, encB, encT] at hu; rcases hu with rfl | rfl <;> rfl) ho_10 (by omega)) ?_
     rintro v_3 h_10 ⟨hS, hk⟩
     replace hS : St F_4 (Ow.own 46 2 e_api_Branch (.slice (some ⟨b_3, 0, none⟩) 1 1) ([(gi l i_1)] : List T_api_Branch) :: Ow.own 46 2 e_api_Branch v_3 (((([] : List T_api_Branch) ++ (cut out_1 0 n_1)) ++ ([(gi l i_1)] : List T_api_Branch)) ++ (cut out_1 n_1 (out_1.length : Int))) :: Ow.own 46 2 e_api_Branch vout_1 out_1 :: fr) h_10 := hS
     replace hK := hK.trans hk
     replace hL_l := hL_l.kp hk
     refine HA.val (k := 15) (v := v_3) rfl rfl (by kernel_rfl) (by kernel_rfl) (want_none) rfl (fun _ ⟨hL_l, c304⟩ => q_assign rfl) ?_
     refine HA.nil ⟨⟨hL_l.is, (hS.own 2 rfl)⟩, (Go.Wk.at_nil _ _)⟩ (by kernel_rfl) (blockQ_normal (thenQ_normal (?_)))
     refine HW.region ?_
     refine oM (.int .i64 i_1) rfl rfl ?_
     obtain ⟨ho_11, hM⟩ := hM
     refine oV (.int .i64 (i_1 + 1)) (q_addN _ rfl rfl rfl ho_11.1 ho_11.2) rfl ?_
     refine oA (.int .i64 (i_1 + 1)) rfl rfl ?_
     refine HO.nil (thenQ_normal (?_))
     replace hS : St F_4 (Ow.own 46 2 e_api_Branch v_3 (((([] : List T_api_Branch) ++ (cut out_1 0 n_1)) ++ ([(gi l i_1)] : List T_api_Branch)) ++ (cut out_1 n_1 (out_1.length : Int))) :: fr) h_10 := hS.perm2 [1] 3 rfl rfl
     rw [hKe_1] at hM
     exact ⟨(((([] : List T_api_Branch) ++ (cut out_1 0 n_1)) ++ ([(gi l i_1)] : List T_api_Branch)) ++ (cut out_1 n_1 (out_1.length : Int)), i_1 + 1), ⟨F_4, v_3, rfl, rfl, rfl, rfl, hK, hS, hL_l, hM.1⟩, hM.2⟩
   ·
    refine HS.eff rfl (want_none) rfl (st_lit (enc := e_api_Branch) (cells := #[.int .i64 ((gi l i_1).1), .int .i64 ((gi l i_1).2)]) #[.int .i64 0, .int .i64 0] ([(gi l i_1)] : List T_api_Branch) hS tl_22 (by decide) (by decide) (by kernel_rfl) (by kernel_rfl) rfl (by intro x hx; rfl) rfl) ?_
    rintro _ h_6 ⟨b_2, rfl, hS, hk⟩
    replace hK := hK.trans hk
    replace hL_l := hL_l.kp hk
    refine HA.one (k := 0) ⟨⟨hL_l.is, (hS.own 1 rfl)⟩, (Go.Wk.at_nil _ _)⟩ (by kernel_rfl) ?_
    refine HS.eff rfl (want_none) rfl (st_litEmpty (α := T_api_Branch) e_api_Branch hS tl_22) ?_
    rintro _ h_7 ⟨b_3, rfl, hS, hk⟩
    replace hK := hK.trans hk
    replace hL_l := hL_l.kp hk
    refine HA.one (k := 4) ⟨⟨hL_l.is, (hS.own 2 rfl)⟩, (Go.Wk.at_nil _ _)⟩ (by kernel_rfl) ?_
    refine HS.eff rfl (want_none) rfl (st_append te_22 hS (i := 0) rfl (cutIs (hS.own 2 rfl).slice 0 n_1 ho_6.1 ho_6.2.1 ho_6.2.2) rfl rfl rfl (by intro a _ u hu; simp [e_api_Branch, encI, encN, encB, encT] at hu; rcases hu with rfl | rfl <;> rfl) ho_7 (by omega)) ?_
    rintro v_1 h_8 ⟨hS, hk⟩
    replace hS : St F_4 (Ow.own 46 2 e_api_Branch v_1 (([] : List T_api_Branch) ++ (cut out_1 0 n_1)) :: Ow.own 46 2 e_api_Branch (.slice (some ⟨b_2, 0, none⟩) 1 1) ([(gi l i_1)] : List T_api_Branch) :: Ow.own 46 2 e_api_Branch vout_1 out_1 :: fr) h_8 := hS
    replace hK := hK.trans hk
    replace hL_l := hL_l.kp hk
    refine HA.one (k := 10) ⟨⟨hL_l.is, (hS.own 2 rfl)⟩, (Go.Wk.at_nil _ _)⟩ (by kernel_rfl) ?_
    refine HS.eff rfl (want_none) rfl (st_append te_22 hS (i := 0) rfl (hS.own 1 rfl).slice rfl rfl rfl (by intro a _ u hu; simp [e_api_Branch, encI, encN, encB, encT] at hu; rcases hu with rfl | rfl <;> rfl) ho_8 (by omega)) ?_
    rintro v_2 h_9 ⟨hS, hk⟩
    replace hS : St F_4 (Ow.own 46 2 e_api_Branch v_2 ((([] : List T_api_Branch) ++ (cut out_1 0 n_1)) ++ ([(gi l i_1)] : List T_api_Branch)) :: Ow.own 46 2 e_api_Branch (.slice (some ⟨b_2, 0, none⟩) 1 1) ([(gi l i_1)] : List T_api_Branch) :: Ow.own 46 2 e_api_Branch vout_1 out_1 :: fr) h_9 := hS
    replace hK := hK.trans hk
    replace hL_l := hL_l.kp hk
    refine HA.one (k := 14) ⟨⟨hL_l.is, (hS.own 2 rfl)⟩, (Go.Wk.at_nil _ _)⟩ (by kernel_rfl) ?_
    refine HS.eff rfl (want_none) rfl (st_append te_22 hS (i := 0) rfl (cutIs (hS.own 2 rfl).slice n_1 (out_1.length : Int) ho_9.1 ho_9.2.1 ho_9.2.2) rfl rfl rfl (by intro a _ u hu; simp [e_api_Branch, encI, encN, encB, encT] at hu; rcases hu with rfl | rfl <;> rfl) ho_10 (by omega)) ?_
    rintro v_3 h_10 ⟨hS, hk⟩
    replace hS : St F_4 (Ow.own 46 2 e_api_Branch v_3 (((([] : List T_api_Branch) ++ (cut out_1 0 n_1)) ++ ([(gi l i_1)] : List T_api_Branch)) ++ (cut out_1 n_1 (out_1.length : Int))) :: Ow.own 46 2 e_api_Branch (.slice (some ⟨b_2, 0, none⟩) 1 1) ([(gi l i_1)] : List T_api_Branch) :: Ow.own 46 2 e_api_Branch vout_1 out_1 :: fr) h_10 := hS
    replace hK := hK.trans hk
    replace hL_l := hL_l.kp hk
    refine HA.val (k := 15) (v := v_3) rfl rfl (by kernel_rfl) (by kernel_rfl) (want_none) rfl (fun _ ⟨hL_l, c304⟩ => q_assign rfl) ?_
    refine HA.nil ⟨⟨hL_l.is, (hS.own 2 rfl)⟩, (Go.Wk.at_nil _ _)⟩ (by kernel_rfl) (blockQ_normal (thenQ_normal (?_)))
    refine HW.region ?_
    refine oM (.int .i64 i_1) rfl rfl ?_
    obtain ⟨ho_11, hM⟩ := hM
    refine oV (.int .i64 (i_1 + 1)) (q_addN _ rfl rfl rfl ho_11.1 ho_11.2) rfl ?_
    refine oA (.int .i64 (i_1 + 1)) rfl rfl ?_
    refine HO.nil (thenQ_normal (?_))
    replace hS : St F_4 (Ow.own 46 2 e_api_Branch v_3 (((([] : List T_api_Branch) ++ (cut out_1 0 n_1)) ++ ([(gi l i_1)] : List T_api_Branch)) ++ (cut out_1 n_1 (out_1.length : Int))) :: fr) h_10 := hS.perm2 [0] 3 rfl rfl
    rw [hKe_1] at hM
    exact ⟨(((([] : List T_api_Branch) ++ (cut out_1 0 n_1)) ++ ([(gi l i_1)] : List T_api_Branch)) ++ (cut out_1 n_1 (out_1.length : Int)), i_1 + 1), ⟨F_4, v_3, rfl, rfl, rfl, rfl, hK, hS, hL_l, hM.1⟩, hM.2⟩
 ·
  replace hM := hM.2 (of_decide_eq_false c_1)
  refine HW.exit (thenQ_exit (thenQ_exit (blockQ_exit (thenQ_normal (?_)))))
  refine HW.seq ?_
  refine HW.region ?_
  refine oM (vout_1) rfl rfl ?_
  refine oA (vout_1) rfl rfl ?_
  refine HO.nil (thenQ_normal (?_))
  refine HW.ret (?_)
  refine ⟨.inr rfl, vout_1, res1 rfl (rt rfl), ?_⟩
  exact ⟨F_1, out_1, vout_1, rfl, hK, hS, hL_l, hM⟩

def tree_Good_W (t_Root : Int) (t_Links : List T_api_Branch) (Q : Bool → Prop) : Prop :=
 tree_good_W t_Root t_Links (fun r_2 => Q r_2)
set_option maxHeartbeats 40000000 in
set_option maxRecDepth 100000 in
theorem tree_Good_walk {F : Fz} {fr : List Ow} {h0 : Heap} (t_Root : Int) (t_Links : List T_api_Branch) (vt_Links : Value) (hS : St F (fr) h0) (hL_t_Links : SliceF F h0 2 e_api_Branch vt_Links t_Links) {Q : Bool → Prop} (hM : tree_Good_W t_Root t_Links Q) :
  HC Tryz.prog 41 #[.agg #[.int .i64 t_Root, vt_Links]] h0 fun u h' => ∃ (F' : Fz) (r_1 : Bool), u = .bool r_1 ∧ Kp F h0 F' h' ∧ St F' (fr) h' ∧ (SliceF F' h' 2 e_api_Branch vt_Links t_Links) ∧ Q r_1 := by
 unfold tree_Good_W at hM
 have hK := Kp.refl F h0
 refine HC.of_HW (n := 5) Tryz.func41 rfl rfl (Nat.le_of_ble_eq_true rfl) ?_
 refine HW.seq ?_
 refine HW.region ?_
 refine HO.eff (want_none) rfl (st_box (c := #[.int .i64 t_Root, vt_Links]) (k' := 2) hS rfl rfl) ?_
 rintro _ h_1 ⟨b_1, rfl, hS, hk⟩
 replace hK := hK.trans hk
 replace hL_t_Links := hL_t_Links.kp hk
 refine oA (.bool false) rfl rfl ?_
 refine HO.nil (thenQ_normal (?_))
 refine HW.seq ?_
 refine HW.region ?_
 refine oV (.agg #[.int .i64 t_Root, vt_Links]) (q_loadAgg (cs := [.int .i64 t_Root, vt_Links]) ta_24 rfl rfl (Blk.cells (k := 2) (hS.box 0 rfl) rfl)) rfl ?_
 refine HO.call (want_none) rfl (ec en_45 rfl rfl) (tree_good_walk (fr := (Ow.box b_1 24 #[.int .i64 t_Root, vt_Links] :: fr)) t_Root t_Links vt_Links hS hL_t_Links hM) ?_
 rintro _ h_2 ⟨F_1, r_2, rfl, hk, hS, _, hM⟩
 replace hK := hK.trans hk
 replace hL_t_Links := hL_t_Links.kp hk
 refine oA (.bool r_2) rfl rfl ?_
 refine HO.nil (thenQ_normal (?_))
 refine HW.ret (?_)
 refine ⟨.inr rfl, .bool r_2, res1 rfl (rt rfl), ?_⟩
 replace hS : St F_1 (fr) h_2 := hS.perm2 [] 1 rfl rfl
 exact ⟨F_1, r_2, rfl, hK, hS, hL_t_Links, hM⟩

def law32_TreeMakes_j3 (Q : Bool → Prop) (b_6 : Bool) : Prop :=
 Q b_6
def law32_TreeMakes_j2 (Q : Bool → Prop) (r_0_1 : Int) (r_1_1 : List T_api_Branch) (x_0_1 : Int) (x_1_1 : List T_api_Branch) (e_1 : Int) (want_1_1 : List T_api_Branch) : Prop :=
 law32_Few_W r_0_1 r_1_1 (fun r_0_2 r_1_2 => tree_Good_W r_0_2 r_1_2 (fun r_4 => ref32_Good_W r_0_1 r_1_1 (fun r_5 => ((!(r_4 == r_5)) = true → Q false) ∧ ((!(r_4 == r_5)) = false → ref32_Good_W r_0_1 want_1_1 (fun r_6 => ((!r_6) = true → tree_Same_W x_0_1 x_1_1 0 [] (fun r_7 => (r_7 = true → (e_1 = 2 → law32_lives_W  (fun r_8 => law32_TreeMakes_j3 Q r_8)) ∧ (¬ (e_1 = 2) → law32_TreeMakes_j3 Q false)) ∧ (r_7 = false → law32_TreeMakes_j3 Q false))) ∧ ((!r_6) = false → ref32_Same_W x_0_1 x_1_1 r_0_1 want_1_1 (fun r_9 => (r_9 = true → (e_1 = 0 → tree_Good_W x_0_1 x_1_1 (fun r_10 => (r_10 = true → (I64 ((r_1_1.length : Int) + 1)) ∧ (tree_Nodes_W x_0_1 x_1_1 (fun r_11 => ((r_11.length : Int) = ((r_1_1.length : Int) + 1) → law32_lives_W  (fun r_12 => Q r_12)) ∧ (¬ ((r_11.length : Int) = ((r_1_1.length : Int) + 1)) → Q false)))) ∧ (r_10 = false → Q false))) ∧ (¬ (e_1 = 0) → Q false)) ∧ (r_9 = false → Q false))))))))
def law32_TreeMakes_j1 (Q : Bool → Prop) (r_0_1 : Int) (r_1_1 : List T_api_Branch) (x_0_1 : Int) (x_1_1 : List T_api_Branch) (e_1 : Int) : Prop :=
 ref32_Sorted_W r_1_1 (fun r_3 => law32_TreeMakes_j2 Q r_0_1 r_1_1 x_0_1 x_1_1 e_1 r_3)
def law32_TreeMakes_W (t_Root : Int) (t_Links : List T_api_Branch) (Q : Bool → Prop) : Prop :=
 law32_Few_W t_Root t_Links (fun r_0_1 r_1_1 => law32_few_W r_1_1 (fun r_2 => tree_Of_W r_0_1 r_2 (fun r0_0_1 r0_1_1 r1_1 => law32_TreeMakes_j1 Q r_0_1 r_1_1 r0_0_1 r0_1_1 r1_1)))
set_option maxHeartbeats 40000000 in
set_option maxRecDepth 100000 in
theorem law32_TreeMakes_walk {F : Fz} {fr : List Ow} {h0 : Heap} (t_Root : Int) (t_Links : List T_api_Branch) (vt_Links : Value) (gvS : Value) (gbS : Bool) (gvR : Value) (gbR : Bool) (gm : Int) (hS : St F (fr) h0) (hL_t_Links : SliceF F h0 2 e_api_Branch vt_Links t_Links) (hG_0 : RoF (Ow.box 0 53 #[gvS]) F h0) (hE_gvS : ErrF gbS gvS F h0) (hG_1 : RoF (Ow.box 1 53 #[gvR]) F h0) (hE_gvR : ErrF gbR gvR F h0) (hG_2 : RoF (Ow.box 2 3 #[.int .i64 gm]) F h0) (hG_5 : RoF (Ow.box 5 163 (tab10 ()).toArray) F h0) (hD : DM.on = false) {Q : Bool → Prop} (hM : law32_TreeMakes_W t_Root t_Links Q) :
  HC Tryz.prog 7 #[.agg #[.int .i64 t_Root, vt_Links]] h0 fun u h' => ∃ (F' : Fz) (r_1 : Bool), u = .bool r_1 ∧ Kp F h0 F' h' ∧ St F' (fr) h' ∧ (SliceF F' h' 2 e_api_Branch vt_Links t_Links) ∧ (RoF (Ow.box 0 53 #[gvS]) F' h') ∧ (ErrF gbS gvS F' h') ∧ (RoF (Ow.box 1 53 #[gvR]) F' h') ∧ (ErrF gbR gvR F' h') ∧ (RoF (Ow.box 2 3 #[.int .i64 gm]) F' h') ∧ (RoF (Ow.box 5 163 (tab10 ()).toArray) F' h') ∧ Q r_1 := by
 unfold law32_TreeMakes_W at hM
 have hK := Kp.refl F h0
 refine HC.of_HW (n := 66) Tryz.func7 rfl rfl (Nat.le_of_ble_eq_true rfl) ?_
 refine HW.seq ?_
 refine HW.region ?_
 refine HO.eff (want_none) rfl (st_box (c := #[.int .i64 t_Root, vt_Links]) (k' := 2) hS rfl rfl) ?_
 rintro _ h_1 ⟨b_1, rfl, hS, hk⟩
 replace hK := hK.trans hk
 replace hL_t_Links := hL_t_Links.kp hk
 replace hG_0 := hG_0.kp hk
 replace hE_gvS := hE_gvS.kp hk
 replace hG_1 := hG_1.kp hk
 replace hE_gvR := hE_gvR.kp hk
 replace hG_2 := hG_2.kp hk
 replace hG_5 := hG_5.kp hk
 refine oA (.bool false) rfl rfl ?_
 refine HO.nil (thenQ_normal (?_))
 refine HW.seq ?_
 refine HW.region ?_
 refine oV (.agg #[.int .i64 t_Root, vt_Links]) (q_loadAgg (cs := [.int .i64 t_Root, vt_Links]) ta_24 rfl rfl (Blk.cells (k := 2) (hS.box 0 rfl) rfl)) rfl ?_
 refine HO.call (want_none) rfl (ec en_8 rfl rfl) (law32_Few_walk (fr := (Ow.box b_1 24 #[.int .i64 t_Root, vt_Links] :: fr)) t_Root t_Links vt_Links hS hL_t_Links hM) ?_
 rintro _ h_2 ⟨F_1, r_0_1, r_1_1, vr_1_1, rfl, hk, hS, _, hM⟩
 replace hK := hK.trans hk
 replace hL_t_Links := hL_t_Links.kp hk
 replace hG_0 := hG_0.kp hk
 replace hE_gvS := hE_gvS.kp hk
 replace hG_1 := hG_1.kp hk
 replace hE_gvR := hE_gvR.kp hk
 replace hG_2 := hG_2.kp hk
 replace hG_5 := hG_5.kp hk
 refine HO.sto (want_none) rfl (st_storeAgg (c' := #[.int .i64 r_0_1, vr_1_1]) hS (i := 1) rfl ta_24 rfl rfl rfl (List.forall_mem_cons.2 ⟨rfl, (List.forall_mem_cons.2 ⟨(shp (hS.own 0 rfl).slice).one, (fun _ h => by cases h)⟩)⟩) (Nat.le_of_ble_eq_true rfl) rfl) ?_
 rintro h_3 ⟨hS, hk⟩
 replace hS : St F_1 (Ow.own 46 2 e_api_Branch vr_1_1 r_1_1 :: Ow.box b_1 24 #[.int .i64 r_0_1, vr_1_1] :: fr) h_3 := hS
 replace hK := hK.trans hk
 replace hL_t_Links := hL_t_Links.kp hk
 replace hG_0 := hG_0.kp hk
 replace hE_gvS := hE_gvS.kp hk
 replace hG_1 := hG_1.kp hk
 replace hE_gvR := hE_gvR.kp hk
 replace hG_2 := hG_2.kp hk
 replace hG_5 := hG_5.kp hk
 refine HO.nil (thenQ_normal (?_))
 refine HW.seq_mid (fun f h => ∃ (F' : Fz) (x_0_1 : Int) (x_1_1 : List T_api_Branch) (e_1 : Int) (b_2 : Nat) (vx_1_1 : Value), f 1 = .pointer (some ⟨b_1, 0, none⟩) ∧ f 2 = .bool false ∧ f 3 = .pointer (some ⟨b_2, 0, none⟩) ∧ f 4 = .int .i64 e_1 ∧ Kp F h0 F' h ∧ St F' (Ow.box b_1 24 #[.int .i64 r_0_1, vr_1_1] :: Ow.own 46 2 e_api_Branch vr_1_1 r_1_1 :: Ow.box b_2 24 #[.int .i64 x_0_1, vx_1_1] :: Ow.own 46 2 e_api_Branch vx_1_1 x_1_1 :: fr) h ∧ (SliceF F' h 2 e_api_Branch vt_Links t_Links) ∧ (RoF (Ow.box 0 53 #[gvS]) F' h) ∧ (ErrF gbS gvS F' h) ∧ (RoF (Ow.box 1 53 #[gvR]) F' h) ∧ (ErrF gbR gvR F' h) ∧ (RoF (Ow.box 2 3 #[.int .i64 gm]) F' h) ∧ (RoF (Ow.box 5 163 (tab10 ()).toArray) F' h) ∧ law32_TreeMakes_j1 Q r_0_1 r_1_1 x_0_1 x_1_1 e_1) ?_ ?_
 ·
  refine HW.regionA 12 mixed (fun h => (Blk h b_1 (.cells #[.int .i64 r_0_1, vr_1_1] 24 (0, 0)))) [] (by kernel_rfl) ?_
  refine HA.val (k := 0) (v := .pointer (some ⟨b_1, 0, none⟩)) rfl rfl (by kernel_rfl) (by kernel_rfl) (want_none) rfl (fun _ c201 => q_fieldAddr fa_24_0 rfl rfl) ?_
  refine HA.val (k := 1) (v := .int .i64 r_0_1) rfl rfl (by kernel_rfl) (by kernel_rfl) (want_none) rfl (fun _ c201 => q_load to_3 rfl (Blk.cell c201 rfl)) ?_
  refine HA.val (k := 2) (v := .pointer (some ⟨b_1, 1, none⟩)) rfl rfl (by kernel_rfl) (by kernel_rfl) (want_none) rfl (fun _ c201 => q_fieldAddr fa_24_1 rfl rfl) ?_
  refine HA.val (k := 3) (v := vr_1_1) rfl rfl (by kernel_rfl) (by kernel_rfl) (want_none) rfl (fun _ c201 => q_load to_22 rfl (Blk.cell c201 rfl)) ?_
  refine HA.two (k := 4) (k' := 9) ⟨(hS.box 1 rfl), (Go.Wk.at_nil _ _)⟩ (by kernel_rfl) ?_ ?_
  ·
   have hZ_1 := hS
   have hkz_1 := (hS.freeze).2
   replace hS := hS.freeze.1
   have hL_1 : SliceF (fun bz_ => F_1 bz_ ∨ (Ow.own 46 2 e_api_Branch vr_1_1 r_1_1).foot bz_) h_3 2 e_api_Branch vr_1_1 r_1_1 := ⟨(hZ_1.own 0 rfl).slice, fun _ b hb => .inr hb⟩
   refine HS.call rfl (want_none) rfl (ec en_39 rfl rfl) (law32_few_walk (fr := (Ow.box b_1 24 #[.int .i64 r_0_1, vr_1_1] :: fr)) r_1_1 vr_1_1 hS hL_1 hM) ?_
   rintro vr_1 h_4 ⟨F_2, r_2, _, rfl, hk, hS, _, hM⟩
   obtain ⟨hS, hk⟩ := hZ_1.back hk hS
   generalize (fun bz_ => F_2 bz_ ∧ ¬ (Ow.own 46 2 e_api_Branch vr_1_1 r_1_1).foot bz_) = F_3 at hS hk
   replace hK := hK.trans hk
   replace hL_t_Links := hL_t_Links.kp hk
   replace hG_0 := hG_0.kp hk
   replace hE_gvS := hE_gvS.kp hk
   replace hG_1 := hG_1.kp hk
   replace hE_gvR := hE_gvR.kp hk
   replace hG_2 := hG_2.kp hk
   replace hG_5 := hG_5.kp hk
   refine HA.two (k := 5) (k' := 9) ⟨(hS.box 2 rfl), (Go.Wk.at_nil _ _)⟩ (by kernel_rfl) ?_ ?_
   ·
    replace hS : St F_3 (Ow.own 46 2 e_api_Branch vr_1 r_2 :: Ow.own 46 2 e_api_Branch vr_1_1 r_1_1 :: Ow.box b_1 24 #[.int .i64 r_0_1, vr_1_1] :: fr) h_4 := hS.perm2 [1, 0, 2] 3 rfl rfl
    have hZ_2 := hS
    have hkz_2 := (hS.freeze).2
    replace hS := hS.freeze.1
    have hL_2 : SliceF (fun bz_ => F_3 bz_ ∨ (Ow.own 46 2 e_api_Branch vr_1 r_2).foot bz_) h_4 2 e_api_Branch vr_1 r_2 := ⟨(hZ_2.own 0 rfl).slice, fun _ b hb => .inr hb⟩
    refine HS.call rfl (want_none) rfl (ec en_38 rfl rfl) (tree_Of_walk (fr := (Ow.own 46 2 e_api_Branch vr_1_1 r_1_1 :: Ow.box b_1 24 #[.int .i64 r_0_1, vr_1_1] :: fr)) r_0_1 r_2 vr_1 hS hL_2 hM) ?_
    rintro _ h_5 ⟨F_4, r0_0_1, r0_1_1, r1_1, vr0_1_1, rfl, hk, hS, _, hM⟩
    obtain ⟨hS, hk⟩ := hZ_2.back hk hS
    generalize (fun bz_ => F_4 bz_ ∧ ¬ (Ow.own 46 2 e_api_Branch vr_1 r_2).foot bz_) = F_5 at hS hk
    replace hK := hK.trans hk
    replace hL_t_Links := hL_t_Links.kp hk
    replace hG_0 := hG_0.kp hk
    replace hE_gvS := hE_gvS.kp hk
    replace hG_1 := hG_1.kp hk
    replace hE_gvR := hE_gvR.kp hk
    replace hG_2 := hG_2.kp hk
    replace hG_5 := hG_5.kp hk
    refine HA.val (k := 6) (v := .tuple #[.agg #[.int .i64 r0_0_1, vr0_1_1], .int .i64 r1_1]) rfl rfl (by kernel_rfl) (by kernel_rfl) (want_none) rfl (fun _ c201 => q_move rfl) ?_
    refine HA.val (k := 7) (v := .agg #[.int .i64 r0_0_1, vr0_1_1]) rfl rfl (by kernel_rfl) (by kernel_rfl) (want_none) rfl (fun _ c201 => q_extract rfl rfl) ?_
    refine HA.val (k := 8) (v := .int .i64 r1_1) rfl rfl (by kernel_rfl) (by kernel_rfl) (want_none) rfl (fun _ c201 => q_extract rfl rfl) ?_
    refine HA.one (k := 9) ⟨(hS.box 3 rfl), (Go.Wk.at_nil _ _)⟩ (by kernel_rfl) ?_
    refine HS.eff rfl (want_none) rfl (st_alloc (c := #[.int .i64 0, .slice none 0 0]) hS tz_24 rfl) ?_
    rintro _ h_6 ⟨b_3, rfl, hS, hk⟩
    replace hK := hK.trans hk
    replace hL_t_Links := hL_t_Links.kp hk
    replace hG_0 := hG_0.kp hk
    replace hE_gvS := hE_gvS.kp hk
    replace hG_1 := hG_1.kp hk
    replace hE_gvR := hE_gvR.kp hk
    replace hG_2 := hG_2.kp hk
    replace hG_5 := hG_5.kp hk
    refine HA.one (k := 10) ⟨(hS.box 4 rfl), (Go.Wk.at_nil _ _)⟩ (by kernel_rfl) ?_
    refine HS.sto rfl (want_none) rfl (st_storeAgg (c' := #[.int .i64 r0_0_1, vr0_1_1]) hS (i := 0) rfl ta_24 rfl rfl rfl (List.forall_mem_cons.2 ⟨rfl, (List.forall_mem_cons.2 ⟨(shp (hS.own 2 rfl).slice).one, (fun _ h => by cases h)⟩)⟩) (Nat.le_of_ble_eq_true rfl) rfl) ?_
    rintro h_7 ⟨hS, hk⟩
    replace hS : St F_5 (Ow.box b_3 24 #[.int .i64 r0_0_1, vr0_1_1] :: Ow.own 46 2 e_api_Branch vr_1 r_2 :: Ow.own 46 2 e_api_Branch vr0_1_1 r0_1_1 :: Ow.own 46 2 e_api_Branch vr_1_1 r_1_1 :: Ow.box b_1 24 #[.int .i64 r_0_1, vr_1_1] :: fr) h_7 := hS
    replace hK := hK.trans hk
    replace hL_t_Links := hL_t_Links.kp hk
    replace hG_0 := hG_0.kp hk
    replace hE_gvS := hE_gvS.kp hk
    replace hG_1 := hG_1.kp hk
    replace hE_gvR := hE_gvR.kp hk
    replace hG_2 := hG_2.kp hk
    replace hG_5 := hG_5.kp hk
    refine HA.val (k := 11) (v := .int .i64 r1_1) rfl rfl (by kernel_rfl) (by kernel_rfl) (want_none) rfl (fun _ c201 => q_assign rfl) ?_
    refine HA.nil ⟨(hS.box 4 rfl), (Go.Wk.at_nil _ _)⟩ (by kernel_rfl) (thenQ_normal (?_))
    replace hS : St F_5 (Ow.box b_1 24 #[.int .i64 r_0_1, vr_1_1] :: Ow.own 46 2 e_api_Branch vr_1_1 r_1_1 :: Ow.box b_3 24 #[.int .i64 r0_0_1, vr0_1_1] :: Ow.own 46 2 e_api_Branch vr0_1_1 r0_1_1 :: fr) h_7 := hS.perm2 [4, 3, 0, 2] 5 rfl rfl
    exact ⟨F_5, r0_0_1, r0_1_1, r1_1, b_3, vr0_1_1, rfl, rfl, rfl, rfl, hK, hS, hL_t_Links, hG_0, hE_gvS, hG_1, hE_gvR, hG_2, hG_5, hM⟩
   ·
    refine HS.eff rfl (want_none) rfl (st_alloc (c := #[.int .i64 0, .slice none 0 0]) hS tz_24 rfl) ?_
    rintro _ h_5 ⟨b_3, rfl, hS, hk⟩
    replace hK := hK.trans hk
    replace hL_t_Links := hL_t_Links.kp hk
    replace hG_0 := hG_0.kp hk
    replace hE_gvS := hE_gvS.kp hk
    replace hG_1 := hG_1.kp hk
    replace hE_gvR := hE_gvR.kp hk
    replace hG_2 := hG_2.kp hk
    replace hG_5 := hG_5.kp hk
    refine HA.one (k := 5) ⟨(hS.box 3 rfl), (Go.Wk.at_nil _ _)⟩ (by kernel_rfl) ?_
    replace hS : St F_3 (Ow.own 46 2 e_api_Branch vr_1 r_2 :: Ow.box b_3 24 #[.int .i64 0, .slice none 0 0] :: Ow.own 46 2 e_api_Branch vr_1_1 r_1_1 :: Ow.box b_1 24 #[.int .i64 r_0_1, vr_1_1] :: fr) h_5 := hS.perm2 [2, 0, 1, 3] 4 rfl rfl
    have hZ_2 := hS
    have hkz_2 := (hS.freeze).2
    replace hS := hS.freeze.1
    have hL_2 : SliceF (fun bz_ => F_3 bz_ ∨ (Ow.own 46 2 e_api_Branch vr_1 r_2).foot bz_) h_5 2 e_api_Branch vr_1 r_2 := ⟨(hZ_2.own 0 rfl).slice, fun _ b hb => .inr hb⟩
    refine HS.call rfl (want_none) rfl (ec en_38 rfl rfl) (tree_Of_walk (fr := (Ow.box b_3 24 #[.int .i64 0, .slice none 0 0] :: Ow.own 46 2 e_api_Branch vr_1_1 r_1_1 :: Ow.box b_1 24 #[.int .i64 r_0_1, vr_1_1] :: fr)) r_0_1 r_2 vr_1 hS hL_2 hM) ?_
    rintro _ h_6 ⟨F_4, r0_0_1, r0_1_1, r1_1, vr0_1_1, rfl, hk, hS, _, hM⟩
    obtain ⟨hS, hk⟩ := hZ_2.back hk hS
    generalize (fun bz_ => F_4 bz_ ∧ ¬ (Ow.own 46 2 e_api_Branch vr_1 r_2).foot bz_) = F_5 at hS hk
    replace hK := hK.trans hk
    replace hL_t_Links := hL_t_Links.kp hk
    replace hG_0 := hG_0.kp hk
    replace hE_gvS := hE_gvS.kp hk
    replace hG_1 := hG_1.kp hk
    replace hE_gvR := hE_gvR.kp hk
    replace hG_2 := hG_2.kp hk
    replace hG_5 := hG_5.kp hk
    refine HA.val (k := 6) (v := .tuple #[.agg #[.int .i64 r0_0_1, vr0_1_1], .int .i64 r1_1]) rfl rfl (by kernel_rfl) (by kernel_rfl) (want_none) rfl (fun _ c201 => q_move rfl) ?_
    refine HA.val (k := 7) (v := .agg #[.int .i64 r0_0_1, vr0_1_1]) rfl rfl (by kernel_rfl) (by kernel_rfl) (want_none) rfl (fun _ c201 => q_extract rfl rfl) ?_
    refine HA.val (k := 8) (v := .int .i64 r1_1) rfl rfl (by kernel_rfl) (by kernel_rfl) (want_none) rfl (fun _ c201 => q_extract rfl rfl) ?_
    refine HA.one (k := 10) ⟨(hS.box 4 rfl), (Go.Wk.at_nil _ _)⟩ (by kernel_rfl) ?_
    refine HS.sto rfl (want_none) rfl (st_storeAgg (c' := #[.int .i64 r0_0_1, vr0_1_1]) hS (i := 2) rfl ta_24 rfl rfl rfl (List.forall_mem_cons.2 ⟨rfl, (List.forall_mem_cons.2 ⟨(shp (hS.own 1 rfl).slice).one, (fun _ h => by cases h)⟩)⟩) (Nat.le_of_ble_eq_true rfl) rfl) ?_
    rintro h_7 ⟨hS, hk⟩
    replace hS : St F_5 (Ow.own 46 2 e_api_Branch vr_1 r_2 :: Ow.own 46 2 e_api_Branch vr0_1_1 r0_1_1 :: Ow.box b_3 24 #[.int .i64 r0_0_1, vr0_1_1] :: Ow.own 46 2 e_api_Branch vr_1_1 r_1_1 :: Ow.box b_1 24 #[.int .i64 r_0_1, vr_1_1] :: fr) h_7 := hS
    replace hK := hK.trans hk
    replace hL_t_Links := hL_t_Links.kp hk
    replace hG_0 := hG_0.kp hk
    replace hE_gvS := hE_gvS.kp hk
    replace hG_1 := hG_1.kp hk
    replace hE_gvR := hE_gvR.kp hk
    replace hG_2 := hG_2.kp hk
    replace hG_5 := hG_5.kp hk
    refine HA.val (k := 11) (v := .int .i64 r1_1) rfl rfl (by kernel_rfl) (by kernel_rfl) (want_none) rfl (fun _ c201 => q_assign rfl) ?_
    refine HA.nil ⟨(hS.box 4 rfl), (Go.Wk.at_nil _ _)⟩ (by kernel_rfl) (thenQ_normal (?_))
    replace hS : St F_5 (Ow.box b_1 24 #[.int .i64 r_0_1, vr_1_1] :: Ow.own 46 2 e_api_Branch vr_1_1 r_1_1 :: Ow.box b_3 24 #[.int .i64 r0_0_1, vr0_1_1] :: Ow.own 46 2 e_api_Branch vr0_1_1 r0_1_1 :: fr) h_7 := hS.perm2 [4, 3, 2, 1] 5 rfl rfl
    exact ⟨F_5, r0_0_1, r0_1_1, r1_1, b_3, vr0_1_1, rfl, rfl, rfl, rfl, hK, hS, hL_t_Links, hG_0, hE_gvS, hG_1, hE_gvR, hG_2, hG_5, hM⟩
  ·
   refine HS.eff rfl (want_none) rfl (st_alloc (c := #[.int .i64 0, .slice none 0 0]) hS tz_24 rfl) ?_
   rintro _ h_4 ⟨b_3, rfl, hS, hk⟩
   replace hK := hK.trans hk
   replace hL_t_Links := hL_t_Links.kp hk
   replace hG_0 := hG_0.kp hk
   replace hE_gvS := hE_gvS.kp hk
   replace hG_1 := hG_1.kp hk
   replace hE_gvR := hE_gvR.kp hk
   replace hG_2 := hG_2.kp hk
   replace hG_5 := hG_5.kp hk
   refine HA.one (k := 4) ⟨(hS.box 2 rfl), (Go.Wk.at_nil _ _)⟩ (by kernel_rfl) ?_
   replace hS : St F_1 (Ow.own 46 2 e_api_Branch vr_1_1 r_1_1 :: Ow.box b_3 24 #[.int .i64 0, .slice none 0 0] :: Ow.box b_1 24 #[.int .i64 r_0_1, vr_1_1] :: fr) h_4 := hS.perm2 [1, 0, 2] 3 rfl rfl
   have hZ_1 := hS
   have hkz_1 := (hS.freeze).2
   replace hS := hS.freeze.1
   have hL_1 : SliceF (fun bz_ => F_1 bz_ ∨ (Ow.own 46 2 e_api_Branch vr_1_1 r_1_1).foot bz_) h_4 2 e_api_Branch vr_1_1 r_1_1 := ⟨(hZ_1.own 0 rfl).slice, fun _ b hb => .inr hb⟩
   refine HS.call rfl (want_none) rfl (ec en_39 rfl rfl) (law32_few_walk (fr := (Ow.box b_3 24 #[.int .i64 0, .slice none 0 0] :: Ow.box b_1 24 #[.int .i64 r_0_1, vr_1_1] :: fr)) r_1_1 vr_1_1 hS hL_1 hM) ?_
   rintro vr_1 h_5 ⟨F_2, r_2, _, rfl, hk, hS, _, hM⟩
   obtain ⟨hS, hk⟩ := hZ_1.back hk hS
   generalize (fun bz_ => F_2 bz_ ∧ ¬ (Ow.own 46 2 e_api_Branch vr_1_1 r_1_1).foot bz_) = F_3 at hS hk
   replace hK := hK.trans hk
   replace hL_t_Links := hL_t_Links.kp hk
   replace hG_0 := hG_0.kp hk
   replace hE_gvS := hE_gvS.kp hk
   replace hG_1 := hG_1.kp hk
   replace hE_gvR := hE_gvR.kp hk
   replace hG_2 := hG_2.kp hk
   replace hG_5 := hG_5.kp hk
   refine HA.one (k := 5) ⟨(hS.box 3 rfl), (Go.Wk.at_nil _ _)⟩ (by kernel_rfl) ?_
   replace hS : St F_3 (Ow.own 46 2 e_api_Branch vr_1 r_2 :: Ow.own 46 2 e_api_Branch vr_1_1 r_1_1 :: Ow.box b_3 24 #[.int .i64 0, .slice none 0 0] :: Ow.box b_1 24 #[.int .i64 r_0_1, vr_1_1] :: fr) h_5 := hS.perm2 [1, 0, 2, 3] 4 rfl rfl
   have hZ_2 := hS
   have hkz_2 := (hS.freeze).2
   replace hS := hS.freeze.1
   have hL_2 : SliceF (fun bz_ => F_3 bz_ ∨ (Ow.own 46 2 e_api_Branch vr_1 r_2).foot bz_) h_5 2 e_api_Branch vr_1 r_2 := ⟨(hZ_2.own 0 rfl).slice, fun _ b hb => .inr hb⟩
   refine HS.call rfl (want_none) rfl (ec en_38 rfl rfl) (tree_Of_walk (fr := (Ow.own 46 2 e_api_Branch vr_1_1 r_1_1 :: Ow.box b_3 24 #[.int .i64 0, .slice none 0 0] :: Ow.box b_1 24 #[.int .i64 r_0_1, vr_1_1] :: fr)) r_0_1 r_2 vr_1 hS hL_2 hM) ?_
   rintro _ h_6 ⟨F_4, r0_0_1, r0_1_1, r1_1, vr0_1_1, rfl, hk, hS, _, hM⟩
   obtain ⟨hS, hk⟩ := hZ_2.back hk hS
   generalize (fun bz_ => F_4 bz_ ∧ ¬ (Ow.own 46 2 e_api_Branch vr_1 r_2).foot bz_) = F_5 at hS hk
   replace hK := hK.trans hk
   replace hL_t_Links := hL_t_Links.kp hk
   replace hG_0 := hG_0.kp hk
   replace hE_gvS := hE_gvS.kp hk
   replace hG_1 := hG_1.kp hk
   replace hE_gvR := hE_gvR.kp hk
   replace hG_2 := hG_2.kp hk
   replace hG_5 := hG_5.kp hk
   refine HA.val (k := 6) (v := .tuple #[.agg #[.int .i64 r0_0_1, vr0_1_1], .int .i64 r1_1]) rfl rfl (by kernel_rfl) (by kernel_rfl) (want_none) rfl (fun _ c201 => q_move rfl) ?_
   refine HA.val (k := 7) (v := .agg #[.int .i64 r0_0_1, vr0_1_1]) rfl rfl (by kernel_rfl) (by kernel_rfl) (want_none) rfl (fun _ c201 => q_extract rfl rfl) ?_
   refine HA.val (k := 8) (v := .int .i64 r1_1) rfl rfl (by kernel_rfl) (by kernel_rfl) (want_none) rfl (fun _ c201 => q_extract rfl rfl) ?_
   refine HA.one (k := 10) ⟨(hS.box 4 rfl), (Go.Wk.at_nil _ _)⟩ (by kernel_rfl) ?_
   refine HS.sto rfl (want_none) rfl (st_storeAgg (c' := #[.int .i64 r0_0_1, vr0_1_1]) hS (i := 3) rfl ta_24 rfl rfl rfl (List.forall_mem_cons.2 ⟨rfl, (List.forall_mem_cons.2 ⟨(shp (hS.own 1 rfl).slice).one, (fun _ h => by cases h)⟩)⟩) (Nat.le_of_ble_eq_true rfl) rfl) ?_
   rintro h_7 ⟨hS, hk⟩
   replace hS : St F_5 (Ow.own 46 2 e_api_Branch vr_1 r_2 :: Ow.own 46 2 e_api_Branch vr0_1_1 r0_1_1 :: Ow.own 46 2 e_api_Branch vr_1_1 r_1_1 :: Ow.box b_3 24 #[.int .i64 r0_0_1, vr0_1_1] :: Ow.box b_1 24 #[.int .i64 r_0_1, vr_1_1] :: fr) h_7 := hS
   replace hK := hK.trans hk
   replace hL_t_Links := hL_t_Links.kp hk
   replace hG_0 := hG_0.kp hk
   replace hE_gvS := hE_gvS.kp hk
   replace hG_1 := hG_1.kp hk
   replace hE_gvR := hE_gvR.kp hk
   replace hG_2 := hG_2.kp hk
   replace hG_5 := hG_5.kp hk
   refine HA.val (k := 11) (v := .int .i64 r1_1) rfl rfl (by kernel_rfl) (by kernel_rfl) (want_none) rfl (fun _ c201 => q_assign rfl) ?_
   refine HA.nil ⟨(hS.box 4 rfl), (Go.Wk.at_nil _ _)⟩ (by kernel_rfl) (thenQ_normal (?_))
   replace hS : St F_5 (Ow.box b_1 24 #[.int .i64 r_0_1, vr_1_1] :: Ow.own 46 2 e_api_Branch vr_1_1 r_1_1 :: Ow.box b_3 24 #[.int .i64 r0_0_1, vr0_1_1] :: Ow.own 46 2 e_api_Branch vr0_1_1 r0_1_1 :: fr) h_7 := hS.perm2 [4, 2, 3, 1] 5 rfl rfl
   exact ⟨F_5, r0_0_1, r0_1_1, r1_1, b_3, vr0_1_1, rfl, rfl, rfl, rfl, hK, hS, hL_t_Links, hG_0, hE_gvS, hG_1, hE_gvR, hG_2, hG_5, hM⟩
 ·
  rintro f_1 h_8 ⟨F_6, x_0_1, x_1_1, e_1, b_2, vx_1_1, e1, e2, e3, e4, hK, hS, hL_t_Links, hG_0, hE_gvS, hG_1, hE_gvR, hG_2, hG_5, hM⟩
  unfold law32_TreeMakes_j1 at hM
  refine HW.fr [(1, .pointer (some ⟨b_1, 0, none⟩)), (2, .bool false), (3, .pointer (some ⟨b_2, 0, none⟩)), (4, .int .i64 e_1)] ⟨e1, e2, e3, e4, trivial⟩ ?_
  refine HW.seq_mid (fun f h => ∃ (F' : Fz) (want_1_1 : List T_api_Branch) (b_4 : Nat) (vwant_1_1 : Value), f 1 = .pointer (some ⟨b_1, 0, none⟩) ∧ f 2 = .bool false ∧ f 3 = .pointer (some ⟨b_2, 0, none⟩) ∧ f 4 = .int .i64 e_1 ∧ f 5 = .pointer (some ⟨b_4, 0, none⟩) ∧ Kp F h0 F' h ∧ St F' (Ow.box b_1 24 #[.int .i64 r_0_1, vr_1_1] :: Ow.own 46 2 e_api_Branch vr_1_1 r_1_1 :: Ow.box b_2 24 #[.int .i64 x_0_1, vx_1_1] :: Ow.own 46 2 e_api_Branch vx_1_1 x_1_1 :: Ow.box b_4 24 #[.int .i64 r_0_1, vwant_1_1] :: Ow.own 46 2 e_api_Branch vwant_1_1 want_1_1 :: fr) h ∧ (SliceF F' h 2 e_api_Branch vt_Links t_Links) ∧ (RoF (Ow.box 0 53 #[gvS]) F' h) ∧ (ErrF gbS gvS F' h) ∧ (RoF (Ow.box 1 53 #[gvR]) F' h) ∧ (ErrF gbR gvR F' h) ∧ (RoF (Ow.box 2 3 #[.int .i64 gm]) F' h) ∧ (RoF (Ow.box 5 163 (tab10 ()).toArray) F' h) ∧ law32_TreeMakes_j2 Q r_0_1 r_1_1 x_0_1 x_1_1 e_1 want_1_1) ?_ ?_
  ·
   refine HW.regionA 8 mixed (fun h => (Blk h b_1 (.cells #[.int .i64 r_0_1, vr_1_1] 24 (0, 0)))) [] (by kernel_rfl) ?_
   refine HA.val (k := 0) (v := .pointer (some ⟨b_1, 0, none⟩)) rfl rfl (by kernel_rfl) (by kernel_rfl) (want_none) rfl (fun _ c203 => q_fieldAddr fa_24_0 rfl rfl) ?_
   refine HA.val (k := 1) (v := .int .i64 r_0_1) rfl rfl (by kernel_rfl) (by kernel_rfl) (want_none) rfl (fun _ c203 => q_load to_3 rfl (Blk.cell c203 rfl)) ?_
   refine HA.val (k := 2) (v := .pointer (some ⟨b_1, 1, none⟩)) rfl rfl (by kernel_rfl) (by kernel_rfl) (want_none) rfl (fun _ c203 => q_fieldAddr fa_24_1 rfl rfl) ?_
   refine HA.val (k := 3) (v := vr_1_1) rfl rfl (by kernel_rfl) (by kernel_rfl) (want_none) rfl (fun _ c203 => q_load to_22 rfl (Blk.cell c203 rfl)) ?_
   refine HA.two (k := 4) (k' := 6) ⟨(hS.box 0 rfl), (Go.Wk.at_nil _ _)⟩ (by kernel_rfl) ?_ ?_
   ·
    replace hS : St F_6 (Ow.own 46 2 e_api_Branch vr_1_1 r_1_1 :: Ow.box b_1 24 #[.int .i64 r_0_1, vr_1_1] :: Ow.box b_2 24 #[.int .i64 x_0_1, vx_1_1] :: Ow.own 46 2 e_api_Branch vx_1_1 x_1_1 :: fr) h_8 := hS.perm2 [1, 0, 2, 3] 4 rfl rfl
    have hZ_3 := hS
    have hkz_3 := (hS.freeze).2
    replace hS := hS.freeze.1
    have hL_3 : SliceF (fun bz_ => F_6 bz_ ∨ (Ow.own 46 2 e_api_Branch vr_1_1 r_1_1).foot bz_) h_8 2 e_api_Branch vr_1_1 r_1_1 := ⟨(hZ_3.own 0 rfl).slice, fun _ b hb => .inr hb⟩
    refine HS.call rfl (want_none) rfl (ec en_40 rfl rfl) (ref32_Sorted_walk (fr := (Ow.box b_1 24 #[.int .i64 r_0_1, vr_1_1] :: Ow.box b_2 24 #[.int .i64 x_0_1, vx_1_1] :: Ow.own 46 2 e_api_Branch vx_1_1 x_1_1 :: fr)) r_1_1 vr_1_1 hS hL_3 hM) ?_
    rintro vr_2 h_9 ⟨F_7, r_3, _, rfl, hk, hS, _, hM⟩
    obtain ⟨hS, hk⟩ := hZ_3.back hk hS
    generalize (fun bz_ => F_7 bz_ ∧ ¬ (Ow.own 46 2 e_api_Branch vr_1_1 r_1_1).foot bz_) = F_8 at hS hk
    replace hK := hK.trans hk
    replace hL_t_Links := hL_t_Links.kp hk
    replace hG_0 := hG_0.kp hk
    replace hE_gvS := hE_gvS.kp hk
    replace hG_1 := hG_1.kp hk
    replace hE_gvR := hE_gvR.kp hk
    replace hG_2 := hG_2.kp hk
    replace hG_5 := hG_5.kp hk
    refine Go.Wk.HA.re (fun h => (OwnIs h 0 46 2 e_api_Branch vr_2 r_3) ∧ (Blk h b_1 (.cells #[.int .i64 r_0_1, vr_1_1] 24 (0, 0)))) [] (fun L_ h_ hL_ ⟨c237, c203⟩ hs_ => ⟨c203, (Go.Wk.at_nil _ _)⟩) ?_
    refine HA.val (k := 5) (v := .agg #[.int .i64 r_0_1, vr_2]) rfl rfl (by kernel_rfl) (by kernel_rfl) (want_none) rfl (fun _ ⟨c237, c203⟩ => q_build tp_24 (fill_cons (cs' := #[.int .i64 r_0_1, .slice none 0 0]) (vc := #[.int .i64 r_0_1]) rfl rfl rfl (Nat.le_of_ble_eq_true rfl) rfl (fill_cons (cs' := #[.int .i64 r_0_1, vr_2]) (vc := #[vr_2]) rfl (shp c237.slice).cells rfl (Nat.le_of_ble_eq_true rfl) rfl rfl))) ?_
    refine HA.one (k := 6) ⟨⟨(hS.own 1 rfl), (hS.box 2 rfl)⟩, (Go.Wk.at_nil _ _)⟩ (by kernel_rfl) ?_
    refine HS.eff rfl (want_none) rfl (st_alloc (c := #[.int .i64 0, .slice none 0 0]) hS tz_24 rfl) ?_
    rintro _ h_10 ⟨b_5, rfl, hS, hk⟩
    replace hK := hK.trans hk
    replace hL_t_Links := hL_t_Links.kp hk
    replace hG_0 := hG_0.kp hk
    replace hE_gvS := hE_gvS.kp hk
    replace hG_1 := hG_1.kp hk
    replace hE_gvR := hE_gvR.kp hk
    replace hG_2 := hG_2.kp hk
    replace hG_5 := hG_5.kp hk
    refine HA.one (k := 7) ⟨⟨(hS.own 2 rfl), (hS.box 3 rfl)⟩, (Go.Wk.at_nil _ _)⟩ (by kernel_rfl) ?_
    refine HS.sto rfl (want_none) rfl (st_storeAgg (c' := #[.int .i64 r_0_1, vr_2]) hS (i := 0) rfl ta_24 rfl rfl rfl (List.forall_mem_cons.2 ⟨rfl, (List.forall_mem_cons.2 ⟨(shp (hS.own 2 rfl).slice).one, (fun _ h => by cases h)⟩)⟩) (Nat.le_of_ble_eq_true rfl) rfl) ?_
    rintro h_11 ⟨hS, hk⟩
    replace hS : St F_8 (Ow.box b_5 24 #[.int .i64 r_0_1, vr_2] :: Ow.own 46 2 e_api_Branch vr_1_1 r_1_1 :: Ow.own 46 2 e_api_Branch vr_2 r_3 :: Ow.box b_1 24 #[.int .i64 r_0_1, vr_1_1] :: Ow.box b_2 24 #[.int .i64 x_0_1, vx_1_1] :: Ow.own 46 2 e_api_Branch vx_1_1 x_1_1 :: fr) h_11 := hS
    replace hK := hK.trans hk
    replace hL_t_Links := hL_t_Links.kp hk
    replace hG_0 := hG_0.kp hk
    replace hE_gvS := hE_gvS.kp hk
    replace hG_1 := hG_1.kp hk
    replace hE_gvR := hE_gvR.kp hk
    replace hG_2 := hG_2.kp hk
    replace hG_5 := hG_5.kp hk
    refine HA.nil ⟨⟨(hS.own 2 rfl), (hS.box 3 rfl)⟩, (Go.Wk.at_nil _ _)⟩ (by kernel_rfl) (thenQ_normal (?_))
    replace hS : St F_8 (Ow.box b_1 24 #[.int .i64 r_0_1, vr_1_1] :: Ow.own 46 2 e_api_Branch vr_1_1 r_1_1 :: Ow.box b_2 24 #[.int .i64 x_0_1, vx_1_1] :: Ow.own 46 2 e_api_Branch vx_1_1 x_1_1 :: Ow.box b_5 24 #[.int .i64 r_0_1, vr_2] :: Ow.own 46 2 e_api_Branch vr_2 r_3 :: fr) h_11 := hS.perm2 [3, 1, 4, 5, 0, 2] 6 rfl rfl
    exact ⟨F_8, r_3, b_5, vr_2, rfl, rfl, rfl, rfl, rfl, hK, hS, hL_t_Links, hG_0, hE_gvS, hG_1, hE_gvR, hG_2, hG_5, hM⟩
   ·
    refine HS.eff rfl (want_none) rfl (st_alloc (c := #[.int .i64 0, .slice none 0 0]) hS tz_24 rfl) ?_
    rintro _ h_9 ⟨b_5, rfl, hS, hk⟩
    replace hK := hK.trans hk
    replace hL_t_Links := hL_t_Links.kp hk
    replace hG_0 := hG_0.kp hk
    replace hE_gvS := hE_gvS.kp hk
    replace hG_1 := hG_1.kp hk
    replace hE_gvR := hE_gvR.kp hk
    replace hG_2 := hG_2.kp hk
    replace hG_5 := hG_5.kp hk
    refine HA.one (k := 4) ⟨(hS.box 1 rfl), (Go.Wk.at_nil _ _)⟩ (by kernel_rfl) ?_
    replace hS : St F_6 (Ow.own 46 2 e_api_Branch vr_1_1 r_1_1 :: Ow.box b_5 24 #[.int .i64 0, .slice none 0 0] :: Ow.box b_1 24 #[.int .i64 r_0_1, vr_1_1] :: Ow.box b_2 24 #[.int .i64 x_0_1, vx_1_1] :: Ow.own 46 2 e_api_Branch vx_1_1 x_1_1 :: fr) h_9 := hS.perm2 [2, 0, 1, 3, 4] 5 rfl rfl
    have hZ_3 := hS
    have hkz_3 := (hS.freeze).2
    replace hS := hS.freeze.1
    have hL_3 : SliceF (fun bz_ => F_6 bz_ ∨ (Ow.own 46 2 e_api_Branch vr_1_1 r_1_1).foot bz_) h_9 2 e_api_Branch vr_1_1 r_1_1 := ⟨(hZ_3.own 0 rfl).slice, fun _ b hb => .inr hb⟩
    refine HS.call rfl (want_none) rfl (ec en_40 rfl rfl) (ref32_Sorted_walk (fr := (Ow.box b_5 24 #[.int .i64 0, .slice none 0 0] :: Ow.box b_1 24 #[.int .i64 r_0_1, vr_1_1] :: Ow.box b_2 24 #[.int .i64 x_0_1, vx_1_1] :: Ow.own 46 2 e_api_Branch vx_1_1 x_1_1 :: fr)) r_1_1 vr_1_1 hS hL_3 hM) ?_
    rintro vr_2 h_10 ⟨F_7, r_3, _, rfl, hk, hS, _, hM⟩
    obtain ⟨hS, hk⟩ := hZ_3.back hk hS
    generalize (fun bz_ => F_7 bz_ ∧ ¬ (Ow.own 46 2 e_api_Branch vr_1_1 r_1_1).foot bz_) = F_8 at hS hk
    replace hK := hK.trans hk
    replace hL_t_Links := hL_t_Links.kp hk
    replace hG_0 := hG_0.kp hk
    replace hE_gvS := hE_gvS.kp hk
    replace hG_1 := hG_1.kp hk
    replace hE_gvR := hE_gvR.kp hk
    replace hG_2 := hG_2.kp hk
    replace hG_5 := hG_5.kp hk
    refine Go.Wk.HA.re (fun h => (OwnIs h 0 46 2 e_api_Branch vr_2 r_3) ∧ (Blk h b_1 (.cells #[.int .i64 r_0_1, vr_1_1] 24 (0, 0)))) [] (fun L_ h_ hL_ ⟨c237, c203⟩ hs_ => ⟨c203, (Go.Wk.at_nil _ _)⟩) ?_
    refine HA.val (k := 5) (v := .agg #[.int .i64 r_0_1, vr_2]) rfl rfl (by kernel_rfl) (by kernel_rfl) (want_none) rfl (fun _ ⟨c237, c203⟩ => q_build tp_24 (fill_cons (cs' := #[.int .i64 r_0_1, .slice none 0 0]) (vc := #[.int .i64 r_0_1]) rfl rfl rfl (Nat.le_of_ble_eq_true rfl) rfl (fill_cons (cs' := #[.int .i64 r_0_1, vr_2]) (vc := #[vr_2]) rfl (shp c237.slice).cells rfl (Nat.le_of_ble_eq_true rfl) rfl rfl))) ?_
    refine HA.one (k := 7) ⟨⟨(hS.own 1 rfl), (hS.box 3 rfl)⟩, (Go.Wk.at_nil _ _)⟩ (by kernel_rfl) ?_
    refine HS.sto rfl (want_none) rfl (st_storeAgg (c' := #[.int .i64 r_0_1, vr_2]) hS (i := 2) rfl ta_24 rfl rfl rfl (List.forall_mem_cons.2 ⟨rfl, (List.forall_mem_cons.2 ⟨(shp (hS.own 1 rfl).slice).one, (fun _ h => by cases h)⟩)⟩) (Nat.le_of_ble_eq_true rfl) rfl) ?_
    rintro h_11 ⟨hS, hk⟩
    replace hS : St F_8 (Ow.own 46 2 e_api_Branch vr_1_1 r_1_1 :: Ow.own 46 2 e_api_Branch vr_2 r_3 :: Ow.box b_5 24 #[.int .i64 r_0_1, vr_2] :: Ow.box b_1 24 #[.int .i64 r_0_1, vr_1_1] :: Ow.box b_2 24 #[.int .i64 x_0_1, vx_1_1] :: Ow.own 46 2 e_api_Branch vx_1_1 x_1_1 :: fr) h_11 := hS
    replace hK := hK.trans hk
    replace hL_t_Links := hL_t_Links.kp hk
    replace hG_0 := hG_0.kp hk
    replace hE_gvS := hE_gvS.kp hk
    replace hG_1 := hG_1.kp hk
    replace hE_gvR := hE_gvR.kp hk
    replace hG_2 := hG_2.kp hk
    replace hG_5 := hG_5.kp hk
    refine HA.nil ⟨⟨(hS.own 1 rfl), (hS.box 3 rfl)⟩, (Go.Wk.at_nil _ _)⟩ (by kernel_rfl) (thenQ_normal (?_))
    replace hS : St F_8 (Ow.box b_1 24 #[.int .i64 r_0_1, vr_1_1] :: Ow.own 46 2 e_api_Branch vr_1_1 r_1_1 :: Ow.box b_2 24 #[.int .i64 x_0_1, vx_1_1] :: Ow.own 46 2 e_api_Branch vx_1_1 x_1_1 :: Ow.box b_5 24 #[.int .i64 r_0_1, vr_2] :: Ow.own 46 2 e_api_Branch vr_2 r_3 :: fr) h_11 := hS.perm2 [3, 0, 4, 5, 2, 1] 6 rfl rfl
    exact ⟨F_8, r_3, b_5, vr_2, rfl, rfl, rfl, rfl, rfl, hK, hS, hL_t_Links, hG_0, hE_gvS, hG_1, hE_gvR, hG_2, hG_5, hM⟩
  ·
   rintro f_2 h_12 ⟨F_9, want_1_1, b_4, vwant_1_1, e1, e2, e3, e4, e5, hK, hS, hL_t_Links, hG_0, hE_gvS, hG_1, hE_gvR, hG_2, hG_5, hM⟩
   unfold law32_TreeMakes_j2 at hM
   refine HW.fr [(1, .pointer (some ⟨b_1, 0, none⟩)), (2, .bool false), (3, .pointer (some ⟨b_2, 0, none⟩)), (4, .int .i64 e_1), (5, .pointer (some ⟨b_4, 0, none⟩))] ⟨e1, e2, e3, e4, e5, trivial⟩ ?_
   refine HW.seq ?_
   refine HW.seq ?_
   refine HW.regionA 6 mixed (fun h => (Blk h b_1 (.cells #[.int .i64 r_0_1, vr_1_1] 24 (0, 0)))) [] (by kernel_rfl) ?_
   refine HA.val (k := 0) (v := .agg #[.int .i64 r_0_1, vr_1_1]) rfl rfl (by kernel_rfl) (by kernel_rfl) (want_none) rfl (fun _ c207 => q_loadAgg (cs := [.int .i64 r_0_1, vr_1_1]) ta_24 rfl rfl (Blk.cells (k := 2) c207 rfl)) ?_
   refine HA.val (k := 3) (v := .agg #[.int .i64 r_0_1, vr_1_1]) rfl rfl (by kernel_rfl) (by kernel_rfl) (want_none) rfl (fun _ c207 => q_loadAgg (cs := [.int .i64 r_0_1, vr_1_1]) ta_24 rfl rfl (Blk.cells (k := 2) c207 rfl)) ?_
   refine HA.one (k := 1) ⟨(hS.box 0 rfl), (Go.Wk.at_nil _ _)⟩ (by kernel_rfl) ?_
   replace hS : St F_9 (Ow.own 46 2 e_api_Branch vr_1_1 r_1_1 :: Ow.box b_1 24 #[.int .i64 r_0_1, vr_1_1] :: Ow.box b_2 24 #[.int .i64 x_0_1, vx_1_1] :: Ow.own 46 2 e_api_Branch vx_1_1 x_1_1 :: Ow.box b_4 24 #[.int .i64 r_0_1, vwant_1_1] :: Ow.own 46 2 e_api_Branch vwant_1_1 want_1_1 :: fr) h_12 := hS.perm2 [1, 0, 2, 3, 4, 5] 6 rfl rfl
   have hZ_4 := hS
   have hkz_4 := (hS.freeze).2
   replace hS := hS.freeze.1
   have hL_4 : SliceF (fun bz_ => F_9 bz_ ∨ (Ow.own 46 2 e_api_Branch vr_1_1 r_1_1).foot bz_) h_12 2 e_api_Branch vr_1_1 r_1_1 := ⟨(hZ_4.own 0 rfl).slice, fun _ b hb => .inr hb⟩
   refine HS.call rfl (want_none) rfl (ec en_8 rfl rfl) (law32_Few_walk (fr := (Ow.box b_1 24 #[.int .i64 r_0_1, vr_1_1] :: Ow.box b_2 24 #[.int .i64 x_0_1, vx_1_1] :: Ow.own 46 2 e_api_Branch vx_1_1 x_1_1 :: Ow.box b_4 24 #[.int .i64 r_0_1, vwant_1_1] :: Ow.own 46 2 e_api_Branch vwant_1_1 want_1_1 :: fr)) r_0_1 r_1_1 vr_1_1 hS hL_4 hM) ?_
   rintro _ h_13 ⟨F_10, r_0_2, r_1_2, vr_1_2, rfl, hk, hS, _, hM⟩
   obtain ⟨hS, hk⟩ := hZ_4.back hk hS
   generalize (fun bz_ => F_10 bz_ ∧ ¬ (Ow.own 46 2 e_api_Branch vr_1_1 r_1_1).foot bz_) = F_11 at hS hk
   replace hK := hK.trans hk
   replace hL_t_Links := hL_t_Links.kp hk
   replace hG_0 := hG_0.kp hk
   replace hE_gvS := hE_gvS.kp hk
   replace hG_1 := hG_1.kp hk
   replace hE_gvR := hE_gvR.kp hk
   replace hG_2 := hG_2.kp hk
   replace hG_5 := hG_5.kp hk
   refine HA.one (k := 2) ⟨(hS.box 2 rfl), (Go.Wk.at_nil _ _)⟩ (by kernel_rfl) ?_
   replace hS : St F_11 (Ow.own 46 2 e_api_Branch vr_1_2 r_1_2 :: Ow.own 46 2 e_api_Branch vr_1_1 r_1_1 :: Ow.box b_1 24 #[.int .i64 r_0_1, vr_1_1] :: Ow.box b_2 24 #[.int .i64 x_0_1, vx_1_1] :: Ow.own 46 2 e_api_Branch vx_1_1 x_1_1 :: Ow.box b_4 24 #[.int .i64 r_0_1, vwant_1_1] :: Ow.own 46 2 e_api_Branch vwant_1_1 want_1_1 :: fr) h_13 := hS.perm2 [1, 0, 2, 3, 4, 5, 6] 7 rfl rfl
   have hZ_5 := hS
   have hkz_5 := (hS.freeze).2
   replace hS := hS.freeze.1
   have hL_5 : SliceF (fun bz_ => F_11 bz_ ∨ (Ow.own 46 2 e_api_Branch vr_1_2 r_1_2).foot bz_) h_13 2 e_api_Branch vr_1_2 r_1_2 := ⟨(hZ_5.own 0 rfl).slice, fun _ b hb => .inr hb⟩
   refine HS.call rfl (want_none) rfl (ec en_41 rfl rfl) (tree_Good_walk (fr := (Ow.own 46 2 e_api_Branch vr_1_1 r_1_1 :: Ow.box b_1 24 #[.int .i64 r_0_1, vr_1_1] :: Ow.box b_2 24 #[.int .i64 x_0_1, vx_1_1] :: Ow.own 46 2 e_api_Branch vx_1_1 x_1_1 :: Ow.box b_4 24 #[.int .i64 r_0_1, vwant_1_1] :: Ow.own 46 2 e_api_Branch vwant_1_1 want_1_1 :: fr)) r_0_2 r_1_2 vr_1_2 hS hL_5 hM) ?_
   rintro _ h_14 ⟨F_12, r_4, rfl, hk, hS, _, hM⟩
   obtain ⟨hS, hk⟩ := hZ_5.back hk hS
   generalize (fun bz_ => F_12 bz_ ∧ ¬ (Ow.own 46 2 e_api_Branch vr_1_2 r_1_2).foot bz_) = F_13 at hS hk
   replace hK := hK.trans hk
   replace hL_t_Links := hL_t_Links.kp hk
   replace hG_0 := hG_0.kp hk
   replace hE_gvS := hE_gvS.kp hk
   replace hG_1 := hG_1.kp hk
   replace hE_gvR := hE_gvR.kp hk
   replace hG_2 := hG_2.kp hk
   replace hG_5 := hG_5.kp hk
   refine HA.one (k := 4) ⟨(hS.box 2 rfl), (Go.Wk.at_nil _ _)⟩ (by kernel_rfl) ?_
   replace hS : St F_13 (Ow.own 46 2 e_api_Branch vr_1_1 r_1_1 :: Ow.own 46 2 e_api_Branch vr_1_2 r_1_2 :: Ow.box b_1 24 #[.int .i64 r_0_1, vr_1_1] :: Ow.box b_2 24 #[.int .i64 x_0_1, vx_1_1] :: Ow.own 46 2 e_api_Branch vx_1_1 x_1_1 :: Ow.box b_4 24 #[.int .i64 r_0_1, vwant_1_1] :: Ow.own 46 2 e_api_Branch vwant_1_1 want_1_1 :: fr) h_14 := hS.perm2 [1, 0, 2, 3, 4, 5, 6] 7 rfl rfl
   have hZ_6 := hS
   have hkz_6 := (hS.freeze).2
   replace hS := hS.freeze.1
   have hL_6 : SliceF (fun bz_ => F_13 bz_ ∨ (Ow.own 46 2 e_api_Branch vr_1_1 r_1_1).foot bz_) h_14 2 e_api_Branch vr_1_1 r_1_1 := ⟨(hZ_6.own 0 rfl).slice, fun _ b hb => .inr hb⟩
   refine HS.call rfl (want_none) rfl (ec en_12 rfl rfl) (ref32_Good_walk (fr := (Ow.own 46 2 e_api_Branch vr_1_2 r_1_2 :: Ow.box b_1 24 #[.int .i64 r_0_1, vr_1_1] :: Ow.box b_2 24 #[.int .i64 x_0_1, vx_1_1] :: Ow.own 46 2 e_api_Branch vx_1_1 x_1_1 :: Ow.box b_4 24 #[.int .i64 r_0_1, vwant_1_1] :: Ow.own 46 2 e_api_Branch vwant_1_1 want_1_1 :: fr)) r_0_1 r_1_1 vr_1_1 hS hL_6 hM) ?_
   rintro _ h_15 ⟨F_14, r_5, rfl, hk, hS, _, hM⟩
   obtain ⟨hS, hk⟩ := hZ_6.back hk hS
   generalize (fun bz_ => F_14 bz_ ∧ ¬ (Ow.own 46 2 e_api_Branch vr_1_1 r_1_1).foot bz_) = F_15 at hS hk
   replace hK := hK.trans hk
   replace hL_t_Links := hL_t_Links.kp hk
   replace hG_0 := hG_0.kp hk
   replace hE_gvS := hE_gvS.kp hk
   replace hG_1 := hG_1.kp hk
   replace hE_gvR := hE_gvR.kp hk
   replace hG_2 := hG_2.kp hk
   replace hG_5 := hG_5.kp hk
   refine HA.val (k := 5) (v := .bool (!(r_4 == r_5))) rfl rfl (by kernel_rfl) (by kernel_rfl) (want_none) rfl (fun _ c207 => q_neqB Tryz.underlying4 rfl rfl) ?_
   refine HA.nil ⟨(hS.box 2 rfl), (Go.Wk.at_nil _ _)⟩ (by kernel_rfl) (thenQ_normal (?_))
   refine HW.cond (!(r_4 == r_5)) rfl (fun c_1 => ?_) (fun c_1 => ?_)
   ·
    replace hM := hM.1 c_1
    refine HW.seq ?_
    refine HW.region ?_
    refine oA (.bool false) rfl rfl ?_
    refine HO.nil (thenQ_normal (?_))
    refine HW.ret (thenQ_ret (?_))
    refine ⟨.inr rfl, .bool false, res1 rfl (rt rfl), ?_⟩
    replace hS : St F_15 (fr) h_15 := hS.perm2 [] 7 rfl rfl
    exact ⟨F_15, false, rfl, hK, hS, hL_t_Links, hG_0, hE_gvS, hG_1, hE_gvR, hG_2, hG_5, hM⟩
   ·
    replace hM := hM.2 c_1
    refine HW.skip (thenQ_normal (?_))
    refine HW.seq ?_
    refine HW.seq ?_
    refine HW.region ?_
    refine oV (.agg #[.int .i64 r_0_1, vwant_1_1]) (q_loadAgg (cs := [.int .i64 r_0_1, vwant_1_1]) ta_24 rfl rfl (Blk.cells (k := 2) (hS.box 5 rfl) rfl)) rfl ?_
    replace hS : St F_15 (Ow.own 46 2 e_api_Branch vwant_1_1 want_1_1 :: Ow.own 46 2 e_api_Branch vr_1_1 r_1_1 :: Ow.own 46 2 e_api_Branch vr_1_2 r_1_2 :: Ow.box b_1 24 #[.int .i64 r_0_1, vr_1_1] :: Ow.box b_2 24 #[.int .i64 x_0_1, vx_1_1] :: Ow.own 46 2 e_api_Branch vx_1_1 x_1_1 :: Ow.box b_4 24 #[.int .i64 r_0_1, vwant_1_1] :: fr) h_15 := hS.perm2 [6, 0, 1, 2, 3, 4, 5] 7 rfl rfl
    have hZ_7 := hS
    have hkz_7 := (hS.freeze).2
    replace hS := hS.freeze.1
    have hL_7 : SliceF (fun bz_ => F_15 bz_ ∨ (Ow.own 46 2 e_api_Branch vwant_1_1 want_1_1).foot bz_) h_15 2 e_api_Branch vwant_1_1 want_1_1 := ⟨(hZ_7.own 0 rfl).slice, fun _ b hb => .inr hb⟩
    refine HO.call (want_none) rfl (ec en_12 rfl rfl) (ref32_Good_walk (fr := (Ow.own 46 2 e_api_Branch vr_1_1 r_1_1 :: Ow.own 46 2 e_api_Branch vr_1_2 r_1_2 :: Ow.box b_1 24 #[.int .i64 r_0_1, vr_1_1] :: Ow.box b_2 24 #[.int .i64 x_0_1, vx_1_1] :: Ow.own 46 2 e_api_Branch vx_1_1 x_1_1 :: Ow.box b_4 24 #[.int .i64 r_0_1, vwant_1_1] :: fr)) r_0_1 want_1_1 vwant_1_1 hS hL_7 hM) ?_
    rintro _ h_16 ⟨F_16, r_6, rfl, hk, hS, _, hM⟩
    obtain ⟨hS, hk⟩ := hZ_7.back hk hS
    generalize (fun bz_ => F_16 bz_ ∧ ¬ (Ow.own 46 2 e_api_Branch vwant_1_1 want_1_1).foot bz_) = F_17 at hS hk
    replace hK := hK.trans hk
    replace hL_t_Links := hL_t_Links.kp hk
    replace hG_0 := hG_0.kp hk
    replace hE_gvS := hE_gvS.kp hk
    replace hG_1 := hG_1.kp hk
    replace hE_gvR := hE_gvR.kp hk
    replace hG_2 := hG_2.kp hk
    replace hG_5 := hG_5.kp hk
    refine oV (.bool (!r_6)) (q_not rfl) rfl ?_
    refine HO.nil (thenQ_normal (?_))
    refine HW.cond (!r_6) rfl (fun c_2 => ?_) (fun c_2 => ?_)
    ·
     replace hM := hM.1 c_2
     refine HW.seq_mid (fun f h => ∃ (F' : Fz) (b_6 : Bool), f 1 = .pointer (some ⟨b_1, 0, none⟩) ∧ f 2 = .bool b_6 ∧ f 3 = .pointer (some ⟨b_2, 0, none⟩) ∧ f 4 = .int .i64 e_1 ∧ f 5 = .pointer (some ⟨b_4, 0, none⟩) ∧ Kp F h0 F' h ∧ St F' (Ow.box b_1 24 #[.int .i64 r_0_1, vr_1_1] :: Ow.own 46 2 e_api_Branch vr_1_1 r_1_1 :: Ow.box b_2 24 #[.int .i64 x_0_1, vx_1_1] :: Ow.own 46 2 e_api_Branch vx_1_1 x_1_1 :: Ow.box b_4 24 #[.int .i64 r_0_1, vwant_1_1] :: Ow.own 46 2 e_api_Branch vwant_1_1 want_1_1 :: fr) h ∧ (SliceF F' h 2 e_api_Branch vt_Links t_Links) ∧ (RoF (Ow.box 0 53 #[gvS]) F' h) ∧ (ErrF gbS gvS F' h) ∧ (RoF (Ow.box 1 53 #[gvR]) F' h) ∧ (ErrF gbR gvR F' h) ∧ (RoF (Ow.box 2 3 #[.int .i64 gm]) F' h) ∧ (RoF (Ow.box 5 163 (tab10 ()).toArray) F' h) ∧ law32_TreeMakes_j3 Q b_6) ?_ ?_
     ·
      refine HW.region ?_
      refine oV (.agg #[.int .i64 x_0_1, vx_1_1]) (q_loadAgg (cs := [.int .i64 x_0_1, vx_1_1]) ta_24 rfl rfl (Blk.cells (k := 2) (hS.box 4 rfl) rfl)) rfl ?_
      refine oV (.agg #[.int .i64 0, .slice none 0 0]) (q_build tp_24 rfl) rfl ?_
      replace hS : St F_17 (Ow.own 46 2 e_api_Branch vx_1_1 x_1_1 :: Ow.own 46 2 e_api_Branch vwant_1_1 want_1_1 :: Ow.own 46 2 e_api_Branch vr_1_1 r_1_1 :: Ow.own 46 2 e_api_Branch vr_1_2 r_1_2 :: Ow.box b_1 24 #[.int .i64 r_0_1, vr_1_1] :: Ow.box b_2 24 #[.int .i64 x_0_1, vx_1_1] :: Ow.box b_4 24 #[.int .i64 r_0_1, vwant_1_1] :: fr) h_16 := hS.perm2 [5, 0, 1, 2, 3, 4, 6] 7 rfl rfl
      have hZ_8 := hS
      have hkz_8 := (hS.freeze).2
      replace hS := hS.freeze.1
      have hL_8 : SliceF (fun bz_ => F_17 bz_ ∨ (Ow.own 46 2 e_api_Branch vx_1_1 x_1_1).foot bz_) h_16 2 e_api_Branch vx_1_1 x_1_1 := ⟨(hZ_8.own 0 rfl).slice, fun _ b hb => .inr hb⟩
      refine HO.call (want_none) rfl (ec en_37 rfl rfl) (tree_Same_walk (fr := (Ow.own 46 2 e_api_Branch vwant_1_1 want_1_1 :: Ow.own 46 2 e_api_Branch vr_1_1 r_1_1 :: Ow.own 46 2 e_api_Branch vr_1_2 r_1_2 :: Ow.box b_1 24 #[.int .i64 r_0_1, vr_1_1] :: Ow.box b_2 24 #[.int .i64 x_0_1, vx_1_1] :: Ow.box b_4 24 #[.int .i64 r_0_1, vwant_1_1] :: fr)) x_0_1 x_1_1 0 [] vx_1_1 (.slice none 0 0) hS hL_8 (SliceF.nil _ _ _ _) hM) ?_
      rintro _ h_17 ⟨F_18, r_7, rfl, hk, hS, _, _, hM⟩
      obtain ⟨hS, hk⟩ := hZ_8.back hk hS
      generalize (fun bz_ => F_18 bz_ ∧ ¬ (Ow.own 46 2 e_api_Branch vx_1_1 x_1_1).foot bz_) = F_19 at hS hk
      replace hK := hK.trans hk
      replace hL_t_Links := hL_t_Links.kp hk
      replace hG_0 := hG_0.kp hk
      replace hE_gvS := hE_gvS.kp hk
      replace hG_1 := hG_1.kp hk
      replace hE_gvR := hE_gvR.kp hk
      replace hG_2 := hG_2.kp hk
      replace hG_5 := hG_5.kp hk
      refine oM (.bool r_7) rfl rfl ?_
      rcases Bool.eq_false_or_eq_true r_7 with c_3 | c_3
      ·
       replace hM := hM.1 c_3
       refine HO.val (v := .int .i64 e_1) (want_by rfl rfl c_3) rfl (q_move rfl) ?_
       refine HO.val (v := .bool (decide (e_1 = 2))) (want_by rfl rfl c_3) rfl (q_eql rfl rfl) ?_
       refine oV (.bool (decide (e_1 = 2))) (q_pickK true rfl c_3 rfl) rfl ?_
       refine oM (.bool (decide (e_1 = 2))) rfl rfl ?_
       rcases Bool.eq_false_or_eq_true (decide (e_1 = 2)) with c_4 | c_4
       ·
        replace hM := hM.1 (of_decide_eq_true c_4)
        refine HO.call (want_by rfl rfl c_4) rfl (ec en_14 rfl rfl) (law32_lives_walk (fr := (Ow.own 46 2 e_api_Branch vx_1_1 x_1_1 :: Ow.own 46 2 e_api_Branch vwant_1_1 want_1_1 :: Ow.own 46 2 e_api_Branch vr_1_1 r_1_1 :: Ow.own 46 2 e_api_Branch vr_1_2 r_1_2 :: Ow.box b_1 24 #[.int .i64 r_0_1, vr_1_1] :: Ow.box b_2 24 #[.int .i64 x_0_1, vx_1_1] :: Ow.box b_4 24 #[.int .i64 r_0_1, vwant_1_1] :: fr)) gvS gbS gvR gbR gm hS hG_0 hE_gvS hG_1 hE_gvR hG_2 hG_5 hD hM) ?_
        rintro _ h_18 ⟨F_20, r_8, rfl, hk, hS, _, _, _, _, _, _, hM⟩
        replace hK := hK.trans hk
        replace hL_t_Links := hL_t_Links.kp hk
        replace hG_0 := hG_0.kp hk
        replace hE_gvS := hE_gvS.kp hk
        replace hG_1 := hG_1.kp hk
        replace hE_gvR := hE_gvR.kp hk
        replace hG_2 := hG_2.kp hk
        replace hG_5 := hG_5.kp hk
        refine oV (.bool r_8) (q_pickK true rfl c_4 rfl) rfl ?_
        refine oA (.bool r_8) rfl rfl ?_
        refine HO.nil (thenQ_normal (?_))
        replace hS : St F_20 (Ow.box b_1 24 #[.int .i64 r_0_1, vr_1_1] :: Ow.own 46 2 e_api_Branch vr_1_1 r_1_1 :: Ow.box b_2 24 #[.int .i64 x_0_1, vx_1_1] :: Ow.own 46 2 e_api_Branch vx_1_1 x_1_1 :: Ow.box b_4 24 #[.int .i64 r_0_1, vwant_1_1] :: Ow.own 46 2 e_api_Branch vwant_1_1 want_1_1 :: fr) h_18 := hS.perm2 [4, 2, 5, 0, 6, 1] 7 rfl rfl
        exact ⟨F_20, r_8, rfl, rfl, rfl, rfl, rfl, hK, hS, hL_t_Links, hG_0, hE_gvS, hG_1, hE_gvR, hG_2, hG_5, hM⟩
       ·
        replace hM := hM.2 (of_decide_eq_false c_4)
        refine HO.past (past_by rfl rfl c_4) rfl ?_
        refine oV (.bool false) (q_pickK false rfl c_4 rfl) rfl ?_
        refine oA (.bool false) rfl rfl ?_
        refine HO.nil (thenQ_normal (?_))
        replace hS : St F_19 (Ow.box b_1 24 #[.int .i64 r_0_1, vr_1_1] :: Ow.own 46 2 e_api_Branch vr_1_1 r_1_1 :: Ow.box b_2 24 #[.int .i64 x_0_1, vx_1_1] :: Ow.own 46 2 e_api_Branch vx_1_1 x_1_1 :: Ow.box b_4 24 #[.int .i64 r_0_1, vwant_1_1] :: Ow.own 46 2 e_api_Branch vwant_1_1 want_1_1 :: fr) h_17 := hS.perm2 [4, 2, 5, 0, 6, 1] 7 rfl rfl
        exact ⟨F_19, false, rfl, rfl, rfl, rfl, rfl, hK, hS, hL_t_Links, hG_0, hE_gvS, hG_1, hE_gvR, hG_2, hG_5, hM⟩
      ·
       replace hM := hM.2 c_3
       refine HO.past (past_by rfl rfl c_3) rfl ?_
       refine HO.past (past_by rfl rfl c_3) rfl ?_
       refine oV (.bool false) (q_pickK false rfl c_3 rfl) rfl ?_
       refine oM (.bool false) rfl rfl ?_
       refine HO.past (past_some rfl rfl) rfl ?_
       refine oV (.bool false) (q_pick rfl rfl) rfl ?_
       refine oA (.bool false) rfl rfl ?_
       refine HO.nil (thenQ_normal (?_))
       replace hS : St F_19 (Ow.box b_1 24 #[.int .i64 r_0_1, vr_1_1] :: Ow.own 46 2 e_api_Branch vr_1_1 r_1_1 :: Ow.box b_2 24 #[.int .i64 x_0_1, vx_1_1] :: Ow.own 46 2 e_api_Branch vx_1_1 x_1_1 :: Ow.box b_4 24 #[.int .i64 r_0_1, vwant_1_1] :: Ow.own 46 2 e_api_Branch vwant_1_1 want_1_1 :: fr) h_17 := hS.perm2 [4, 2, 5, 0, 6, 1] 7 rfl rfl
       exact ⟨F_19, false, rfl, rfl, rfl, rfl, rfl, hK, hS, hL_t_Links, hG_0, hE_gvS, hG_1, hE_gvR, hG_2, hG_5, hM⟩
     ·
      rintro f_3 h_19 ⟨F_21, b_6, e1, e2, e3, e4, e5, hK, hS, hL_t_Links, hG_0, hE_gvS, hG_1, hE_gvR, hG_2, hG_5, hM⟩
      unfold law32_TreeMakes_j3 at hM
      refine HW.fr [(1, .pointer (some ⟨b_1, 0, none⟩)), (2, .bool b_6), (3, .pointer (some ⟨b_2, 0, none⟩)), (4, .int .i64 e_1), (5, .pointer (some ⟨b_4, 0, none⟩))] ⟨e1, e2, e3, e4, e5, trivial⟩ ?_
      refine HW.ret (thenQ_ret (?_))
      refine ⟨.inr rfl, .bool b_6, res1 rfl (rt rfl), ?_⟩
      replace hS : St F_21 (fr) h_19 := hS.perm2 [] 6 rfl rfl
      exact ⟨F_21, b_6, rfl, hK, hS, hL_t_Links, hG_0, hE_gvS, hG_1, hE_gvR, hG_2, hG_5, hM⟩
    ·
     replace hM := hM.2 c_2
     refine HW.skip (thenQ_normal (?_))
     refine HW.seq ?_
     refine HW.regionA 25 mixed (fun h => (OwnIs h 0 46 2 e_api_Branch vr_1_1 r_1_1) ∧ (Blk h b_1 (.cells #[.int .i64 r_0_1, vr_1_1] 24 (0, 0))) ∧ (Blk h b_2 (.cells #[.int .i64 x_0_1, vx_1_1] 24 (0, 0))) ∧ (Blk h b_4 (.cells #[.int .i64 r_0_1, vwant_1_1] 24 (0, 0)))) [] (by kernel_rfl) ?_
     refine HA.val (k := 0) (v := .agg #[.int .i64 x_0_1, vx_1_1]) rfl rfl (by kernel_rfl) (by kernel_rfl) (want_none) rfl (fun _ ⟨c208, c207, c209, c211⟩ => q_loadAgg (cs := [.int .i64 x_0_1, vx_1_1]) ta_24 rfl rfl (Blk.cells (k := 2) c209 rfl)) ?_
     refine HA.val (k := 1) (v := .agg #[.int .i64 r_0_1, vwant_1_1]) rfl rfl (by kernel_rfl) (by kernel_rfl) (want_none) rfl (fun _ ⟨c208, c207, c209, c211⟩ => q_loadAgg (cs := [.int .i64 r_0_1, vwant_1_1]) ta_24 rfl rfl (Blk.cells (k := 2) c211 rfl)) ?_
     refine HA.one (k := 2) ⟨⟨(hS.own 1 rfl), (hS.box 3 rfl), (hS.box 4 rfl), (hS.box 6 rfl)⟩, (Go.Wk.at_nil _ _)⟩ (by kernel_rfl) ?_
     replace hS : St F_17 (Ow.own 46 2 e_api_Branch vx_1_1 x_1_1 :: Ow.own 46 2 e_api_Branch vwant_1_1 want_1_1 :: Ow.own 46 2 e_api_Branch vr_1_1 r_1_1 :: Ow.own 46 2 e_api_Branch vr_1_2 r_1_2 :: Ow.box b_1 24 #[.int .i64 r_0_1, vr_1_1] :: Ow.box b_2 24 #[.int .i64 x_0_1, vx_1_1] :: Ow.box b_4 24 #[.int .i64 r_0_1, vwant_1_1] :: fr) h_16 := hS.perm2 [5, 0, 1, 2, 3, 4, 6] 7 rfl rfl
     have hZ_9 := hS
     have hkz_9 := (hS.freeze).2
     replace hS := hS.freeze.1
     have hL_9 : SliceF (fun bz_ => F_17 bz_ ∨ (Ow.own 46 2 e_api_Branch vx_1_1 x_1_1).foot bz_) h_16 2 e_api_Branch vx_1_1 x_1_1 := ⟨(hZ_9.own 0 rfl).slice, fun _ b hb => .inr hb⟩
     have hZ_10 := hS
     have hkz_10 := (hS.freeze).2
     replace hS := hS.freeze.1
     have hL_10 : SliceF (fun bz_ => (fun bz_ => F_17 bz_ ∨ (Ow.own 46 2 e_api_Branch vx_1_1 x_1_1).foot bz_) bz_ ∨ (Ow.own 46 2 e_api_Branch vwant_1_1 want_1_1).foot bz_) h_16 2 e_api_Branch vwant_1_1 want_1_1 := ⟨(hZ_10.own 0 rfl).slice, fun _ b hb => .inr hb⟩
     refine HS.call rfl (want_none) rfl (ec en_11 rfl rfl) (ref32_Same_walk (fr := (Ow.own 46 2 e_api_Branch vr_1_1 r_1_1 :: Ow.own 46 2 e_api_Branch vr_1_2 r_1_2 :: Ow.box b_1 24 #[.int .i64 r_0_1, vr_1_1] :: Ow.box b_2 24 #[.int .i64 x_0_1, vx_1_1] :: Ow.box b_4 24 #[.int .i64 r_0_1, vwant_1_1] :: fr)) x_0_1 x_1_1 r_0_1 want_1_1 vx_1_1 vwant_1_1 hS (hL_9.kp hkz_10) hL_10 hM) ?_
     rintro _ h_20 ⟨F_22, r_9, rfl, hk, hS, _, _, hM⟩
     obtain ⟨hS, hk⟩ := hZ_10.back hk hS
     obtain ⟨hS, hk⟩ := hZ_9.back hk hS
     generalize (fun bz_ => (fun bz_ => F_22 bz_ ∧ ¬ (Ow.own 46 2 e_api_Branch vwant_1_1 want_1_1).foot bz_) bz_ ∧ ¬ (Ow.own 46 2 e_api_Branch vx_1_1 x_1_1).foot bz_) = F_23 at hS hk
     replace hK := hK.trans hk
     replace hL_t_Links := hL_t_Links.kp hk
     replace hG_0 := hG_0.kp hk
     replace hE_gvS := hE_gvS.kp hk
     replace hG_1 := hG_1.kp hk
     replace hE_gvR := hE_gvR.kp hk
     replace hG_2 := hG_2.kp hk
     replace hG_5 := hG_5.kp hk
     refine HA.val (k := 3) (v := .bool r_9) rfl rfl (by kernel_rfl) (by kernel_rfl) (want_none) rfl (fun _ ⟨c208, c207, c209, c211⟩ => q_move rfl) ?_
     rcases Bool.eq_false_or_eq_true r_9 with c_5 | c_5
     ·
      replace hM := hM.1 c_5
      refine HA.val (k := 4) (v := .int .i64 e_1) rfl rfl (by kernel_rfl) (by kernel_rfl) (want_by rfl rfl c_5) rfl (fun _ ⟨c208, c207, c209, c211⟩ => q_move rfl) ?_
      refine HA.val (k := 5) (v := .bool (decide (e_1 = 0))) rfl rfl (by kernel_rfl) (by kernel_rfl) (want_by rfl rfl c_5) rfl (fun _ ⟨c208, c207, c209, c211⟩ => q_eql rfl rfl) ?_
      refine HA.val (k := 6) (v := .bool (decide (e_1 = 0))) rfl rfl (by kernel_rfl) (by kernel_rfl) (want_none) rfl (fun _ ⟨c208, c207, c209, c211⟩ => q_pickK true rfl c_5 rfl) ?_
      refine HA.val (k := 7) (v := .bool (decide (e_1 = 0))) rfl rfl (by kernel_rfl) (by kernel_rfl) (want_none) rfl (fun _ ⟨c208, c207, c209, c211⟩ => q_move rfl) ?_
      rcases Bool.eq_false_or_eq_true (decide (e_1 = 0)) with c_6 | c_6
      ·
       replace hM := hM.1 (of_decide_eq_true c_6)
       refine HA.val (k := 8) (v := .agg #[.int .i64 x_0_1, vx_1_1]) rfl rfl (by kernel_rfl) (by kernel_rfl) (want_by rfl rfl c_6) rfl (fun _ ⟨c208, c207, c209, c211⟩ => q_loadAgg (cs := [.int .i64 x_0_1, vx_1_1]) ta_24 rfl rfl (Blk.cells (k := 2) c209 rfl)) ?_
       refine HA.one (k := 9) ⟨⟨(hS.own 2 rfl), (hS.box 4 rfl), (hS.box 5 rfl), (hS.box 6 rfl)⟩, (Go.Wk.at_nil _ _)⟩ (by kernel_rfl) ?_
       have hZ_11 := hS
       have hkz_11 := (hS.freeze).2
       replace hS := hS.freeze.1
       have hL_11 : SliceF (fun bz_ => F_23 bz_ ∨ (Ow.own 46 2 e_api_Branch vx_1_1 x_1_1).foot bz_) h_20 2 e_api_Branch vx_1_1 x_1_1 := ⟨(hZ_11.own 0 rfl).slice, fun _ b hb => .inr hb⟩
       refine HS.call rfl (want_by rfl rfl c_6) rfl (ec en_41 rfl rfl) (tree_Good_walk (fr := (Ow.own 46 2 e_api_Branch vwant_1_1 want_1_1 :: Ow.own 46 2 e_api_Branch vr_1_1 r_1_1 :: Ow.own 46 2 e_api_Branch vr_1_2 r_1_2 :: Ow.box b_1 24 #[.int .i64 r_0_1, vr_1_1] :: Ow.box b_2 24 #[.int .i64 x_0_1, vx_1_1] :: Ow.box b_4 24 #[.int .i64 r_0_1, vwant_1_1] :: fr)) x_0_1 x_1_1 vx_1_1 hS hL_11 hM) ?_
       rintro _ h_21 ⟨F_24, r_10, rfl, hk, hS, _, hM⟩
       obtain ⟨hS, hk⟩ := hZ_11.back hk hS
       generalize (fun bz_ => F_24 bz_ ∧ ¬ (Ow.own 46 2 e_api_Branch vx_1_1 x_1_1).foot bz_) = F_25 at hS hk
       replace hK := hK.trans hk
       replace hL_t_Links := hL_t_Links.kp hk
       replace hG_0 := hG_0.kp hk
       replace hE_gvS := hE_gvS.kp hk
       replace hG_1 := hG_1.kp hk
       replace hE_gvR := hE_gvR.kp hk
       replace hG_2 := hG_2.kp hk
       replace hG_5 := hG_5.kp hk
       refine HA.val (k := 10) (v := .bool r_10) rfl rfl (by kernel_rfl) (by kernel_rfl) (want_none) rfl (fun _ ⟨c208, c207, c209, c211⟩ => q_pickK true rfl c_6 rfl) ?_
       refine HA.val (k := 11) (v := .bool r_10) rfl rfl (by kernel_rfl) (by kernel_rfl) (want_none) rfl (fun _ ⟨c208, c207, c209, c211⟩ => q_move rfl) ?_
       rcases Bool.eq_false_or_eq_true r_10 with c_7 | c_7
       ·
        replace hM := hM.1 c_7
        refine HA.val (k := 12) (v := .agg #[.int .i64 x_0_1, vx_1_1]) rfl rfl (by kernel_rfl) (by kernel_rfl) (want_by rfl rfl c_7) rfl (fun _ ⟨c208, c207, c209, c211⟩ => q_loadAgg (cs := [.int .i64 x_0_1, vx_1_1]) ta_24 rfl rfl (Blk.cells (k := 2) c209 rfl)) ?_
        refine HA.val (k := 15) (v := .pointer (some ⟨b_1, 1, none⟩)) rfl rfl (by kernel_rfl) (by kernel_rfl) (want_by rfl rfl c_7) rfl (fun _ ⟨c208, c207, c209, c211⟩ => q_fieldAddr fa_24_1 rfl rfl) ?_
        refine HA.val (k := 16) (v := vr_1_1) rfl rfl (by kernel_rfl) (by kernel_rfl) (want_by rfl rfl c_7) rfl (fun _ ⟨c208, c207, c209, c211⟩ => q_load to_22 rfl (Blk.cell c207 rfl)) ?_
        refine HA.val (k := 17) (v := .int .i64 (r_1_1.length : Int)) rfl rfl (by kernel_rfl) (by kernel_rfl) (want_by rfl rfl c_7) rfl (fun _ ⟨c208, c207, c209, c211⟩ => q_len ts_22 (shp c208.slice) rfl rfl) ?_
        obtain ⟨ho_1, hM⟩ := hM
        refine HA.val (k := 18) (v := .int .i64 ((r_1_1.length : Int) + 1)) rfl rfl (by kernel_rfl) (by kernel_rfl) (want_by rfl rfl c_7) rfl (fun _ ⟨c208, c207, c209, c211⟩ => q_addN _ rfl rfl rfl ho_1.1 ho_1.2) ?_
        refine HA.one (k := 13) ⟨⟨(hS.own 2 rfl), (hS.box 4 rfl), (hS.box 5 rfl), (hS.box 6 rfl)⟩, (Go.Wk.at_nil _ _)⟩ (by kernel_rfl) ?_
        have hZ_12 := hS
        have hkz_12 := (hS.freeze).2
        replace hS := hS.freeze.1
        have hL_12 : SliceF (fun bz_ => F_25 bz_ ∨ (Ow.own 46 2 e_api_Branch vx_1_1 x_1_1).foot bz_) h_21 2 e_api_Branch vx_1_1 x_1_1 := ⟨(hZ_12.own 0 rfl).slice, fun _ b hb => .inr hb⟩
        refine HS.call rfl (want_by rfl rfl c_7) rfl (ec en_28 rfl rfl) (tree_Nodes_walk (fr := (Ow.own 46 2 e_api_Branch vwant_1_1 want_1_1 :: Ow.own 46 2 e_api_Branch vr_1_1 r_1_1 :: Ow.own 46 2 e_api_Branch vr_1_2 r_1_2 :: Ow.box b_1 24 #[.int .i64 r_0_1, vr_1_1] :: Ow.box b_2 24 #[.int .i64 x_0_1, vx_1_1] :: Ow.box b_4 24 #[.int .i64 r_0_1, vwant_1_1] :: fr)) x_0_1 x_1_1 vx_1_1 hS hL_12 hM) ?_
        rintro vr_3 h_22 ⟨F_26, r_11, _, rfl, hk, hS, _, hM⟩
        obtain ⟨hS, hk⟩ := hZ_12.back hk hS
        generalize (fun bz_ => F_26 bz_ ∧ ¬ (Ow.own 46 2 e_api_Branch vx_1_1 x_1_1).foot bz_) = F_27 at hS hk
        replace hK := hK.trans hk
        replace hL_t_Links := hL_t_Links.kp hk
        replace hG_0 := hG_0.kp hk
        replace hE_gvS := hE_gvS.kp hk
        replace hG_1 := hG_1.kp hk
        replace hE_gvR := hE_gvR.kp hk
        replace hG_2 := hG_2.kp hk
        replace hG_5 := hG_5.kp hk
        refine Go.Wk.HA.re (fun h => (OwnIs h 0 3 1 encI vr_3 r_11) ∧ (OwnIs h 0 46 2 e_api_Branch vr_1_1 r_1_1) ∧ (Blk h b_1 (.cells #[.int .i64 r_0_1, vr_1_1] 24 (0, 0))) ∧ (Blk h b_2 (.cells #[.int .i64 x_0_1, vx_1_1] 24 (0, 0))) ∧ (Blk h b_4 (.cells #[.int .i64 r_0_1, vwant_1_1] 24 (0, 0)))) [] (fun L_ h_ hL_ ⟨c333, c208, c207, c209, c211⟩ hs_ => ⟨⟨c208, c207, c209, c211⟩, (Go.Wk.at_nil _ _)⟩) ?_
        refine HA.val (k := 14) (v := .int .i64 (r_11.length : Int)) rfl rfl (by kernel_rfl) (by kernel_rfl) (want_by rfl rfl c_7) rfl (fun _ ⟨c333, c208, c207, c209, c211⟩ => q_len ts_36 (shp c333.slice) rfl rfl) ?_
        refine HA.val (k := 19) (v := .bool (decide ((r_11.length : Int) = ((r_1_1.length : Int) + 1)))) rfl rfl (by kernel_rfl) (by kernel_rfl) (want_by rfl rfl c_7) rfl (fun _ ⟨c333, c208, c207, c209, c211⟩ => q_eql rfl rfl) ?_
        refine HA.val (k := 20) (v := .bool (decide ((r_11.length : Int) = ((r_1_1.length : Int) + 1)))) rfl rfl (by kernel_rfl) (by kernel_rfl) (want_none) rfl (fun _ ⟨c333, c208, c207, c209, c211⟩ => q_pickK true rfl c_7 rfl) ?_
        refine HA.val (k := 21) (v := .bool (decide ((r_11.length : Int) = ((r_1_1.length : Int) + 1)))) rfl rfl (by kernel_rfl) (by kernel_rfl) (want_none) rfl (fun _ ⟨c333, c208, c207, c209, c211⟩ => q_move rfl) ?_
        rcases Bool.eq_false_or_eq_true (decide ((r_11.length : Int) = ((r_1_1.length : Int) + 1))) with c_8 | c_8
        ·
         replace hM := hM.1 (of_decide_eq_true c_8)
         refine HA.one (k := 22) ⟨⟨(hS.own 1 rfl), (hS.own 3 rfl), (hS.box 5 rfl), (hS.box 6 rfl), (hS.box 7 rfl)⟩, (Go.Wk.at_nil _ _)⟩ (by kernel_rfl) ?_
         refine HS.call rfl (want_by rfl rfl c_8) rfl (ec en_14 rfl rfl) (law32_lives_walk (fr := (Ow.own 46 2 e_api_Branch vx_1_1 x_1_1 :: Ow.own 3 1 encI vr_3 r_11 :: Ow.own 46 2 e_api_Branch vwant_1_1 want_1_1 :: Ow.own 46 2 e_api_Branch vr_1_1 r_1_1 :: Ow.own 46 2 e_api_Branch vr_1_2 r_1_2 :: Ow.box b_1 24 #[.int .i64 r_0_1, vr_1_1] :: Ow.box b_2 24 #[.int .i64 x_0_1, vx_1_1] :: Ow.box b_4 24 #[.int .i64 r_0_1, vwant_1_1] :: fr)) gvS gbS gvR gbR gm hS hG_0 hE_gvS hG_1 hE_gvR hG_2 hG_5 hD hM) ?_
         rintro _ h_23 ⟨F_28, r_12, rfl, hk, hS, _, _, _, _, _, _, hM⟩
         replace hK := hK.trans hk
         replace hL_t_Links := hL_t_Links.kp hk
         replace hG_0 := hG_0.kp hk
         replace hE_gvS := hE_gvS.kp hk
         replace hG_1 := hG_1.kp hk
         replace hE_gvR := hE_gvR.kp hk
         replace hG_2 := hG_2.kp hk
         replace hG_5 := hG_5.kp hk
         refine HA.val (k := 23) (v := .bool r_12) rfl rfl (by kernel_rfl) (by kernel_rfl) (want_none) rfl (fun _ ⟨c333, c208, c207, c209, c211⟩ => q_pickK true rfl c_8 rfl) ?_
         refine HA.val (k := 24) (v := .bool r_12) rfl rfl (by kernel_rfl) (by kernel_rfl) (want_none) rfl (fun _ ⟨c333, c208, c207, c209, c211⟩ => q_assign rfl) ?_
         refine HA.nil ⟨⟨(hS.own 1 rfl), (hS.own 3 rfl), (hS.box 5 rfl), (hS.box 6 rfl), (hS.box 7 rfl)⟩, (Go.Wk.at_nil _ _)⟩ (by kernel_rfl) (thenQ_normal (?_))
         refine HW.ret (?_)
         refine ⟨.inr rfl, .bool r_12, res1 rfl (rt rfl), ?_⟩
         replace hS : St F_28 (fr) h_23 := hS.perm2 [] 8 rfl rfl
         exact ⟨F_28, r_12, rfl, hK, hS, hL_t_Links, hG_0, hE_gvS, hG_1, hE_gvR, hG_2, hG_5, hM⟩
        ·
         replace hM := hM.2 (of_decide_eq_false c_8)
         refine HA.one (k := 22) ⟨⟨(hS.own 1 rfl), (hS.own 3 rfl), (hS.box 5 rfl), (hS.box 6 rfl), (hS.box 7 rfl)⟩, (Go.Wk.at_nil _ _)⟩ (by kernel_rfl) ?_
         refine HS.past rfl (past_by rfl rfl c_8) rfl ?_
         refine HA.val (k := 23) (v := .bool false) rfl rfl (by kernel_rfl) (by kernel_rfl) (want_none) rfl (fun _ ⟨c333, c208, c207, c209, c211⟩ => q_pickK false rfl c_8 rfl) ?_
         refine HA.val (k := 24) (v := .bool false) rfl rfl (by kernel_rfl) (by kernel_rfl) (want_none) rfl (fun _ ⟨c333, c208, c207, c209, c211⟩ => q_assign rfl) ?_
         refine HA.nil ⟨⟨(hS.own 1 rfl), (hS.own 3 rfl), (hS.box 5 rfl), (hS.box 6 rfl), (hS.box 7 rfl)⟩, (Go.Wk.at_nil _ _)⟩ (by kernel_rfl) (thenQ_normal (?_))
         refine HW.ret (?_)
         refine ⟨.inr rfl, .bool false, res1 rfl (rt rfl), ?_⟩
         replace hS : St F_27 (fr) h_22 := hS.perm2 [] 8 rfl rfl
         exact ⟨F_27, false, rfl, hK, hS, hL_t_Links, hG_0, hE_gvS, hG_1, hE_gvR, hG_2, hG_5, hM⟩
       ·
        replace hM := hM.2 c_7
        refine HA.past (k := 12) rfl rfl (by kernel_rfl) (by kernel_rfl) (past_by rfl rfl c_7) rfl ?_
        refine HA.past (k := 15) rfl rfl (by kernel_rfl) (by kernel_rfl) (past_by rfl rfl c_7) rfl ?_
        refine HA.past (k := 16) rfl rfl (by kernel_rfl) (by kernel_rfl) (past_by rfl rfl c_7) rfl ?_
        refine HA.past (k := 17) rfl rfl (by kernel_rfl) (by kernel_rfl) (past_by rfl rfl c_7) rfl ?_
        refine HA.past (k := 18) rfl rfl (by kernel_rfl) (by kernel_rfl) (past_by rfl rfl c_7) rfl ?_
        refine HA.one (k := 13) ⟨⟨(hS.own 2 rfl), (hS.box 4 rfl), (hS.box 5 rfl), (hS.box 6 rfl)⟩, (Go.Wk.at_nil _ _)⟩ (by kernel_rfl) ?_
        refine HS.past rfl (past_by rfl rfl c_7) rfl ?_
        refine HA.past (k := 14) rfl rfl (by kernel_rfl) (by kernel_rfl) (past_by rfl rfl c_7) rfl ?_
        refine HA.past (k := 19) rfl rfl (by kernel_rfl) (by kernel_rfl) (past_by rfl rfl c_7) rfl ?_
        refine HA.val (k := 20) (v := .bool false) rfl rfl (by kernel_rfl) (by kernel_rfl) (want_none) rfl (fun _ ⟨c208, c207, c209, c211⟩ => q_pickK false rfl c_7 rfl) ?_
        refine HA.val (k := 21) (v := .bool false) rfl rfl (by kernel_rfl) (by kernel_rfl) (want_none) rfl (fun _ ⟨c208, c207, c209, c211⟩ => q_move rfl) ?_
        refine HA.one (k := 22) ⟨⟨(hS.own 2 rfl), (hS.box 4 rfl), (hS.box 5 rfl), (hS.box 6 rfl)⟩, (Go.Wk.at_nil _ _)⟩ (by kernel_rfl) ?_
        refine HS.past rfl (past_some rfl rfl) rfl ?_
        refine HA.val (k := 23) (v := .bool false) rfl rfl (by kernel_rfl) (by kernel_rfl) (want_none) rfl (fun _ ⟨c208, c207, c209, c211⟩ => q_pick rfl rfl) ?_
        refine HA.val (k := 24) (v := .bool false) rfl rfl (by kernel_rfl) (by kernel_rfl) (want_none) rfl (fun _ ⟨c208, c207, c209, c211⟩ => q_assign rfl) ?_
        refine HA.nil ⟨⟨(hS.own 2 rfl), (hS.box 4 rfl), (hS.box 5 rfl), (hS.box 6 rfl)⟩, (Go.Wk.at_nil _ _)⟩ (by kernel_rfl) (thenQ_normal (?_))
        refine HW.ret (?_)
        refine ⟨.inr rfl, .bool false, res1 rfl (rt rfl), ?_⟩
        replace hS : St F_25 (fr) h_21 := hS.perm2 [] 7 rfl rfl
        exact ⟨F_25, false, rfl, hK, hS, hL_t_Links, hG_0, hE_gvS, hG_1, hE_gvR, hG_2, hG_5, hM⟩
      ·
       replace hM := hM.2 (of_decide_eq_false c_6)
       refine HA.past (k := 8) rfl rfl (by kernel_rfl) (by kernel_rfl) (past_by rfl rfl c_6) rfl ?_
       refine HA.one (k := 9) ⟨⟨(hS.own 2 rfl), (hS.box 4 rfl), (hS.box 5 rfl), (hS.box 6 rfl)⟩, (Go.Wk.at_nil _ _)⟩ (by kernel_rfl) ?_
       refine HS.past rfl (past_by rfl rfl c_6) rfl ?_
       refine HA.val (k := 10) (v := .bool false) rfl rfl (by kernel_rfl) (by kernel_rfl) (want_none) rfl (fun _ ⟨c208, c207, c209, c211⟩ => q_pickK false rfl c_6 rfl) ?_
       refine HA.val (k := 11) (v := .bool false) rfl rfl (by kernel_rfl) (by kernel_rfl) (want_none) rfl (fun _ ⟨c208, c207, c209, c211⟩ => q_move rfl) ?_
       refine HA.past (k := 12) rfl rfl (by kernel_rfl) (by kernel_rfl) (past_some rfl rfl) rfl ?_
       refine HA.past (k := 15) rfl rfl (by kernel_rfl) (by kernel_rfl) (past_some rfl rfl) rfl ?_
       refine HA.past (k := 16) rfl rfl (by kernel_rfl) (by kernel_rfl) (past_some rfl rfl) rfl ?_
       refine HA.past (k := 17) rfl rfl (by kernel_rfl) (by kernel_rfl) (past_some rfl rfl) rfl ?_
       refine HA.past (k := 18) rfl rfl (by kernel_rfl) (by kernel_rfl) (past_some rfl rfl) rfl ?_
       refine HA.one (k := 13) ⟨⟨(hS.own 2 rfl), (hS.box 4 rfl), (hS.box 5 rfl), (hS.box 6 rfl)⟩, (Go.Wk.at_nil _ _)⟩ (by kernel_rfl) ?_
       refine HS.past rfl (past_some rfl rfl) rfl ?_
       refine HA.past (k := 14) rfl rfl (by kernel_rfl) (by kernel_rfl) (past_some rfl rfl) rfl ?_
       refine HA.past (k := 19) rfl rfl (by kernel_rfl) (by kernel_rfl) (past_some rfl rfl) rfl ?_
       refine HA.val (k := 20) (v := .bool false) rfl rfl (by kernel_rfl) (by kernel_rfl) (want_none) rfl (fun _ ⟨c208, c207, c209, c211⟩ => q_pick rfl rfl) ?_
       refine HA.val (k := 21) (v := .bool false) rfl rfl (by kernel_rfl) (by kernel_rfl) (want_none) rfl (fun _ ⟨c208, c207, c209, c211⟩ => q_move rfl) ?_
       refine HA.one (k := 22) ⟨⟨(hS.own 2 rfl), (hS.box 4 rfl), (hS.box 5 rfl), (hS.box 6 rfl)⟩, (Go.Wk.at_nil _ _)⟩ (by kernel_rfl) ?_
       refine HS.past rfl (past_some rfl rfl) rfl ?_
       refine HA.val (k := 23) (v := .bool false) rfl rfl (by kernel_rfl) (by kernel_rfl) (want_none) rfl (fun _ ⟨c208, c207, c209, c211⟩ => q_pick rfl rfl) ?_
       refine HA.val (k := 24) (v := .bool false) rfl rfl (by kernel_rfl) (by kernel_rfl) (want_none) rfl (fun _ ⟨c208, c207, c209, c211⟩ => q_assign rfl) ?_
       refine HA.nil ⟨⟨(hS.own 2 rfl), (hS.box 4 rfl), (hS.box 5 rfl), (hS.box 6 rfl)⟩, (Go.Wk.at_nil _ _)⟩ (by kernel_rfl) (thenQ_normal (?_))
       refine HW.ret (?_)
       refine ⟨.inr rfl, .bool false, res1 rfl (rt rfl), ?_⟩
       replace hS : St F_23 (fr) h_20 := hS.perm2 [] 7 rfl rfl
       exact ⟨F_23, false, rfl, hK, hS, hL_t_Links, hG_0, hE_gvS, hG_1, hE_gvR, hG_2, hG_5, hM⟩
     ·
      replace hM := hM.2 c_5
      refine HA.past (k := 4) rfl rfl (by kernel_rfl) (by kernel_rfl) (past_by rfl rfl c_5) rfl ?_
      refine HA.past (k := 5) rfl rfl (by kernel_rfl) (by kernel_rfl) (past_by rfl rfl c_5) rfl ?_
      refine HA.val (k := 6) (v := .bool false) rfl rfl (by kernel_rfl) (by kernel_rfl) (want_none) rfl (fun _ ⟨c208, c207, c209, c211⟩ => q_pickK false rfl c_5 rfl) ?_
      refine HA.val (k := 7) (v := .bool false) rfl rfl (by kernel_rfl) (by kernel_rfl) (want_none) rfl (fun _ ⟨c208, c207, c209, c211⟩ => q_move rfl) ?_
      refine HA.past (k := 8) rfl rfl (by kernel_rfl) (by kernel_rfl) (past_some rfl rfl) rfl ?_
      refine HA.one (k := 9) ⟨⟨(hS.own 2 rfl), (hS.box 4 rfl), (hS.box 5 rfl), (hS.box 6 rfl)⟩, (Go.Wk.at_nil _ _)⟩ (by kernel_rfl) ?_
      refine HS.past rfl (past_some rfl rfl) rfl ?_
      refine HA.val (k := 10) (v := .bool false) rfl rfl (by kernel_rfl) (by kernel_rfl) (want_none) rfl (fun _ ⟨c208, c207, c209, c211⟩ => q_pick rfl rfl) ?_
      refine HA.val (k := 11) (v := .bool false) rfl rfl (by kernel_rfl) (by kernel_rfl) (want_none) rfl (fun _ ⟨c208, c207, c209, c211⟩ => q_move rfl) ?_
      refine HA.past (k := 12) rfl rfl (by kernel_rfl) (by kernel_rfl) (past_some rfl rfl) rfl ?_
      refine HA.past (k := 15) rfl rfl (by kernel_rfl) (by kernel_rfl) (past_some rfl rfl) rfl ?_
      refine HA.past (k := 16) rfl rfl (by kernel_rfl) (by kernel_rfl) (past_some rfl rfl) rfl ?_
      refine HA.past (k := 17) rfl rfl (by kernel_rfl) (by kernel_rfl) (past_some rfl rfl) rfl ?_
      refine HA.past (k := 18) rfl rfl (by kernel_rfl) (by kernel_rfl) (past_some rfl rfl) rfl ?_
      refine HA.one (k := 13) ⟨⟨(hS.own 2 rfl), (hS.box 4 rfl), (hS.box 5 rfl), (hS.box 6 rfl)⟩, (Go.Wk.at_nil _ _)⟩ (by kernel_rfl) ?_
      refine HS.past rfl (past_some rfl rfl) rfl ?_
      refine HA.past (k := 14) rfl rfl (by kernel_rfl) (by kernel_rfl) (past_some rfl rfl) rfl ?_
      refine HA.past (k := 19) rfl rfl (by kernel_rfl) (by kernel_rfl) (past_some rfl rfl) rfl ?_
      refine HA.val (k := 20) (v := .bool false) rfl rfl (by kernel_rfl) (by kernel_rfl) (want_none) rfl (fun _ ⟨c208, c207, c209, c211⟩ => q_pick rfl rfl) ?_
      refine HA.val (k := 21) (v := .bool false) rfl rfl (by kernel_rfl) (by kernel_rfl) (want_none) rfl (fun _ ⟨c208, c207, c209, c211⟩ => q_move rfl) ?_
      refine HA.one (k := 22) ⟨⟨(hS.own 2 rfl), (hS.box 4 rfl), (hS.box 5 rfl), (hS.box 6 rfl)⟩, (Go.Wk.at_nil _ _)⟩ (by kernel_rfl) ?_
      refine HS.past rfl (past_some rfl rfl) rfl ?_
      refine HA.val (k := 23) (v := .bool false) rfl rfl (by kernel_rfl) (by kernel_rfl) (want_none) rfl (fun _ ⟨c208, c207, c209, c211⟩ => q_pick rfl rfl) ?_
      refine HA.val (k := 24) (v := .bool false) rfl rfl (by kernel_rfl) (by kernel_rfl) (want_none) rfl (fun _ ⟨c208, c207, c209, c211⟩ => q_assign rfl) ?_
      refine HA.nil ⟨⟨(hS.own 2 rfl), (hS.box 4 rfl), (hS.box 5 rfl), (hS.box 6 rfl)⟩, (Go.Wk.at_nil _ _)⟩ (by kernel_rfl) (thenQ_normal (?_))
      refine HW.ret (?_)
      refine ⟨.inr rfl, .bool false, res1 rfl (rt rfl), ?_⟩
      replace hS : St F_23 (fr) h_20 := hS.perm2 [] 7 rfl rfl
      exact ⟨F_23, false, rfl, hK, hS, hL_t_Links, hG_0, hE_gvS, hG_1, hE_gvR, hG_2, hG_5, hM⟩
end Go.Wk
