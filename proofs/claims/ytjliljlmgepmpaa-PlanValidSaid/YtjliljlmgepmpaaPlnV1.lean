/- The walk of PlanValid. -/
import Derived.Test.YtjliljlmgepmpaaPlnB2
set_option linter.unusedSimpArgs false
set_option linter.unusedVariables false
set_option linter.unusedSectionVars false
namespace Go.Wk
open Go.HL
open Go.Proofs hiding encI
variable [DM]
theorem en_11 (args : Array Value) (w : World) : (callFunc 11 args).run Try.prog w = .ok (.enter 11 args) w := by kernel_rfl
theorem en_18 (args : Array Value) (w : World) : (callFunc 18 args).run Try.prog w = .ok (.enter 18 args) w := by kernel_rfl
theorem en_22 (args : Array Value) (w : World) : (callFunc 22 args).run Try.prog w = .ok (.enter 22 args) w := by kernel_rfl
theorem en_24 (args : Array Value) (w : World) : (callFunc 24 args).run Try.prog w = .ok (.enter 24 args) w := by kernel_rfl
theorem en_51 (args : Array Value) (w : World) : (callFunc 51 args).run Try.prog w = .ok (.enter 51 args) w := by kernel_rfl
theorem en_23 (args : Array Value) (w : World) : (callFunc 23 args).run Try.prog w = .ok (.enter 23 args) w := by kernel_rfl
def law32_few_j1 (l : List T_api_Branch) (Q : (List T_api_Branch) → Prop) (out_1 : List T_api_Branch) (i_1 : Int) (K_1 : (List T_api_Branch) → Int → Prop) (b_2 : Bool) : Prop :=
 (b_2 = true → ((0 : Int) ≤ i_1 ∧ i_1 < (l.length : Int)) ∧ (((out_1.length + ([(gi l i_1)] : List T_api_Branch).length) * 16 ≤ 140737488355328) ∧ ((I64 (i_1 + 1)) ∧ (K_1 (out_1 ++ ([(gi l i_1)] : List T_api_Branch)) (i_1 + 1))))) ∧ (b_2 = false → Q out_1)
def law32_few_l1 (l : List T_api_Branch) (Q : (List T_api_Branch) → Prop) (K_1 : (List T_api_Branch) → Int → Prop) (out_1 : List T_api_Branch) (i_1 : Int) : Prop :=
 (i_1 < (l.length : Int) → law32_few_j1 l Q out_1 i_1 K_1 (decide (i_1 < 12))) ∧ (¬ (i_1 < (l.length : Int)) → law32_few_j1 l Q out_1 i_1 K_1 false)
def law32_few_W (l : List T_api_Branch) (Q : (List T_api_Branch) → Prop) : Prop :=
 loopW (fun (K_1 : (List T_api_Branch × Int) → Prop) (s : List T_api_Branch × Int) => law32_few_l1 l Q (fun out_1 i_1 => K_1 (out_1, i_1)) s.1 s.2) ([], 0)
set_option maxHeartbeats 40000000 in
set_option maxRecDepth 100000 in
theorem law32_few_walk {F : Fz} {fr : List Ow} {h0 : Heap} (l : List T_api_Branch) (vl : Value) (hS : St F (fr) h0) (hL_l : SliceF F h0 2 e_api_Branch vl l) {Q : (List T_api_Branch) → Prop} (hM : law32_few_W l Q) :
  HC Try.prog 51 #[vl] h0 fun u h' => ∃ (F' : Fz) (r_1 : List T_api_Branch) (vr_1 : Value), u = vr_1 ∧ Kp F h0 F' h' ∧ St F' (Ow.own 67 2 e_api_Branch vr_1 r_1 :: fr) h' ∧ (SliceF F' h' 2 e_api_Branch vl l) ∧ Q r_1 := by
 unfold law32_few_W at hM
 have hK := Kp.refl F h0
 refine HC.of_HW (n := 24) Try.func51 rfl rfl (Nat.le_of_ble_eq_true rfl) ?_
 refine HW.seq ?_
 refine HW.region ?_
 refine oA (.slice none 0 0) rfl rfl ?_
 refine HO.nil (thenQ_normal (?_))
 refine HW.seq ?_
 refine HW.region ?_
 refine HO.eff (want_none) rfl (st_litEmpty (α := T_api_Branch) e_api_Branch hS tl_44) ?_
 rintro _ h_1 ⟨b_1, rfl, hS, hk⟩
 replace hK := hK.trans hk
 replace hL_l := hL_l.kp hk
 refine oA (.slice (some ⟨b_1, 0, none⟩) 0 0) rfl rfl ?_
 refine HO.nil (thenQ_normal (?_))
 refine HW.seq ?_
 refine HW.seq ?_
 refine HW.region ?_
 refine oA (.int .i64 0) rfl rfl ?_
 refine HO.nil (thenQ_normal (?_))
 refine HW.block ?_
 obtain ⟨I_1, m_1, hI_1, hR_1⟩ := hM
 refine HW.loop (S := List T_api_Branch × Int) (fun s f h => match s with | (out_1, i_1) => ∃ (F' : Fz) (vout_1 : Value), f 0 = vl ∧ f 2 = .slice none 0 0 ∧ f 3 = vout_1 ∧ f 4 = .int .i64 i_1 ∧ Kp F h0 F' h ∧ St F' (Ow.own 67 2 e_api_Branch vout_1 out_1 :: fr) h ∧ (SliceF F' h 2 e_api_Branch vl l) ∧ I_1 (out_1, i_1)) m_1 ([], 0) ⟨F, .slice (some ⟨b_1, 0, none⟩) 0 0, rfl, rfl, rfl, rfl, hK, hS, hL_l, hI_1⟩ ?_
 rintro ⟨out_1, i_1⟩ f_1 h_2 ⟨F_1, vout_1, e0, e2, e3, e4, hK, hS, hL_l, hI0⟩
 obtain ⟨K_1, hKe_1⟩ : ∃ K : (List T_api_Branch) → Int → Prop, K = fun out_1' i_1' => I_1 (out_1', i_1') ∧ m_1 (out_1', i_1') < m_1 (out_1, i_1) := ⟨_, rfl⟩
 have hM : law32_few_l1 l Q K_1 out_1 i_1 := by rw [hKe_1]; exact hR_1 (out_1, i_1) hI0
 unfold law32_few_l1 at hM
 refine HW.fr [(0, vl), (2, .slice none 0 0), (3, vout_1), (4, .int .i64 i_1)] ⟨e0, e2, e3, e4, trivial⟩ ?_
 refine HW.seq ?_
 refine HW.seq_mid (fun f h => ∃ (F' : Fz) (b_2 : Bool), f 0 = vl ∧ f 2 = .slice none 0 0 ∧ f 3 = vout_1 ∧ f 4 = .int .i64 i_1 ∧ f 13 = .bool b_2 ∧ Kp F h0 F' h ∧ St F' (Ow.own 67 2 e_api_Branch vout_1 out_1 :: fr) h ∧ (SliceF F' h 2 e_api_Branch vl l) ∧ law32_few_j1 l Q out_1 i_1 K_1 b_2) ?_ ?_
 ·
  refine HW.region ?_
  refine oM (.int .i64 i_1) rfl rfl ?_
  refine oM (vl) rfl rfl ?_
  refine oV (.int .i64 (l.length : Int)) (q_len ts_44 (shp hL_l.is) rfl rfl) rfl ?_
  refine oV (.bool (decide (i_1 < (l.length : Int)))) (q_lss rfl rfl) rfl ?_
  refine oM (.bool (decide (i_1 < (l.length : Int)))) rfl rfl ?_
  rcases Bool.eq_false_or_eq_true (decide (i_1 < (l.length : Int))) with c_1 | c_1
  ·
   replace hM := hM.1 (of_decide_eq_true c_1)
   refine HO.val (v := .int .i64 i_1) (want_by rfl rfl c_1) rfl (q_move rfl) ?_
   refine HO.val (v := .bool (decide (i_1 < 12))) (want_by rfl rfl c_1) rfl (q_lss rfl rfl) ?_
   refine oV (.bool (decide (i_1 < 12))) (q_pickK true rfl c_1 rfl) rfl ?_
   refine HO.nil (thenQ_normal (?_))
   exact ⟨F_1, decide (i_1 < 12), rfl, rfl, rfl, rfl, rfl, hK, hS, hL_l, hM⟩
  ·
   replace hM := hM.2 (of_decide_eq_false c_1)
   refine HO.past (past_by rfl rfl c_1) rfl ?_
   refine HO.past (past_by rfl rfl c_1) rfl ?_
   refine oV (.bool false) (q_pickK false rfl c_1 rfl) rfl ?_
   refine HO.nil (thenQ_normal (?_))
   exact ⟨F_1, false, rfl, rfl, rfl, rfl, rfl, hK, hS, hL_l, hM⟩
 ·
  rintro f_2 h_3 ⟨F_2, b_2, e0, e2, e3, e4, e13, hK, hS, hL_l, hM⟩
  unfold law32_few_j1 at hM
  refine HW.fr [(0, vl), (2, .slice none 0 0), (3, vout_1), (4, .int .i64 i_1), (13, .bool b_2)] ⟨e0, e2, e3, e4, e13, trivial⟩ ?_
  refine HW.cond b_2 rfl (fun c_2 => ?_) (fun c_2 => ?_)
  ·
   replace hM := hM.1 c_2
   refine HW.skip (thenQ_normal (?_))
   refine HW.seq ?_
   refine HW.block ?_
   refine HW.region ?_
   refine oM (vout_1) rfl rfl ?_
   refine oM (vl) rfl rfl ?_
   refine oM (.int .i64 i_1) rfl rfl ?_
   obtain ⟨ho_1, hM⟩ := hM
   refine oV (elemPtr 2 vl (i_1).toNat) (q_idx ts_44 hL_l.is rfl rfl ho_1) rfl ?_
   refine oV (.agg #[.int .i64 ((gi l i_1).1), .int .i64 ((gi l i_1).2)]) (q_ldElemAgg (cs := [.int .i64 ((gi l i_1).1), .int .i64 ((gi l i_1).2)]) ta_67 hL_l.is rfl ho_1 rfl) rfl ?_
   refine HO.eff (want_none) rfl (st_lit (enc := e_api_Branch) (cells := #[.int .i64 ((gi l i_1).1), .int .i64 ((gi l i_1).2)]) #[.int .i64 0, .int .i64 0] ([(gi l i_1)] : List T_api_Branch) hS tl_44 (by decide) (by decide) (by kernel_rfl) (by kernel_rfl) rfl (by intro x hx; rfl) rfl) ?_
   rintro _ h_4 ⟨b_3, rfl, hS, hk⟩
   replace hK := hK.trans hk
   replace hL_l := hL_l.kp hk
   obtain ⟨ho_2, hM⟩ := hM
   refine HO.eff (want_none) rfl (st_append te_44 hS (i := 1) rfl (hS.own 0 rfl).slice rfl rfl rfl (by intro a _ u hu; simp [e_api_Branch, encI, encN, encB, encT] at hu; rcases hu with rfl | rfl <;> rfl) ho_2 (by omega)) ?_
   rintro v_1 h_5 ⟨hS, hk⟩
   replace hS : St F_2 (Ow.own 67 2 e_api_Branch (.slice (some ⟨b_3, 0, none⟩) 1 1) ([(gi l i_1)] : List T_api_Branch) :: Ow.own 67 2 e_api_Branch v_1 (out_1 ++ ([(gi l i_1)] : List T_api_Branch)) :: fr) h_5 := hS
   replace hK := hK.trans hk
   replace hL_l := hL_l.kp hk
   refine oA (v_1) rfl rfl ?_
   refine HO.nil (blockQ_normal (thenQ_normal (?_)))
   refine HW.region ?_
   refine oM (.int .i64 i_1) rfl rfl ?_
   obtain ⟨ho_3, hM⟩ := hM
   refine oV (.int .i64 (i_1 + 1)) (q_addN _ rfl rfl rfl ho_3.1 ho_3.2) rfl ?_
   refine oA (.int .i64 (i_1 + 1)) rfl rfl ?_
   refine HO.nil (thenQ_normal (?_))
   replace hS : St F_2 (Ow.own 67 2 e_api_Branch v_1 (out_1 ++ ([(gi l i_1)] : List T_api_Branch)) :: fr) h_5 := hS.perm2 [1] 2 rfl rfl
   rw [hKe_1] at hM
   exact ⟨(out_1 ++ ([(gi l i_1)] : List T_api_Branch), i_1 + 1), ⟨F_2, v_1, rfl, rfl, rfl, rfl, hK, hS, hL_l, hM.1⟩, hM.2⟩
  ·
   replace hM := hM.2 c_2
   refine HW.exit (thenQ_exit (thenQ_exit (blockQ_exit (thenQ_normal (?_)))))
   refine HW.seq ?_
   refine HW.region ?_
   refine oM (vout_1) rfl rfl ?_
   refine oA (vout_1) rfl rfl ?_
   refine HO.nil (thenQ_normal (?_))
   refine HW.ret (?_)
   refine ⟨.inr rfl, vout_1, res1 rfl (rt rfl), ?_⟩
   exact ⟨F_2, out_1, vout_1, rfl, hK, hS, hL_l, hM⟩

def law32_Few_W (t_Root : Int) (t_Links : List T_api_Branch) (Q : Int → (List T_api_Branch) → Prop) : Prop :=
 law32_few_W t_Links (fun r_1 => Q t_Root r_1)
set_option maxHeartbeats 40000000 in
set_option maxRecDepth 100000 in
theorem law32_Few_walk {F : Fz} {fr : List Ow} {h0 : Heap} (t_Root : Int) (t_Links : List T_api_Branch) (vt_Links : Value) (hS : St F (fr) h0) (hL_t_Links : SliceF F h0 2 e_api_Branch vt_Links t_Links) {Q : Int → (List T_api_Branch) → Prop} (hM : law32_Few_W t_Root t_Links Q) :
  HC Try.prog 23 #[.agg #[.int .i64 t_Root, vt_Links]] h0 fun u h' => ∃ (F' : Fz) (r_0_1 : Int) (r_1_1 : List T_api_Branch) (vr_1_1 : Value), u = .agg #[.int .i64 r_0_1, vr_1_1] ∧ Kp F h0 F' h' ∧ St F' (Ow.own 67 2 e_api_Branch vr_1_1 r_1_1 :: fr) h' ∧ (SliceF F' h' 2 e_api_Branch vt_Links t_Links) ∧ Q r_0_1 r_1_1 := by
 unfold law32_Few_W at hM
 have hK := Kp.refl F h0
 refine HC.of_HW (n := 9) Try.func23 rfl rfl (Nat.le_of_ble_eq_true rfl) ?_
 refine HW.seq ?_
 refine HW.region ?_
 refine HO.eff (want_none) rfl (st_box (c := #[.int .i64 t_Root, vt_Links]) (k' := 2) hS rfl rfl) ?_
 rintro _ h_1 ⟨b_1, rfl, hS, hk⟩
 replace hK := hK.trans hk
 replace hL_t_Links := hL_t_Links.kp hk
 refine HO.eff (want_none) rfl (st_alloc (c := #[.int .i64 0, .slice none 0 0]) hS tz_46 rfl) ?_
 rintro _ h_2 ⟨b_2, rfl, hS, hk⟩
 replace hK := hK.trans hk
 replace hL_t_Links := hL_t_Links.kp hk
 refine HO.nil (thenQ_normal (?_))
 refine HW.seq ?_
 refine HW.regionA 7 mixed (fun h => (Blk h b_1 (.cells #[.int .i64 t_Root, vt_Links] 46 (0, 0)))) [] (by kernel_rfl) ?_
 refine HA.val (k := 0) (v := .pointer (some ⟨b_1, 0, none⟩)) rfl rfl (by kernel_rfl) (by kernel_rfl) (want_none) rfl (fun _ c202 => q_fieldAddr fa_46_0 rfl rfl) ?_
 refine HA.val (k := 1) (v := .int .i64 t_Root) rfl rfl (by kernel_rfl) (by kernel_rfl) (want_none) rfl (fun _ c202 => q_load to_3 rfl (Blk.cell c202 rfl)) ?_
 refine HA.val (k := 2) (v := .pointer (some ⟨b_1, 1, none⟩)) rfl rfl (by kernel_rfl) (by kernel_rfl) (want_none) rfl (fun _ c202 => q_fieldAddr fa_46_1 rfl rfl) ?_
 refine HA.val (k := 3) (v := vt_Links) rfl rfl (by kernel_rfl) (by kernel_rfl) (want_none) rfl (fun _ c202 => q_load to_44 rfl (Blk.cell c202 rfl)) ?_
 refine HA.one (k := 4) ⟨(hS.box 1 rfl), (Go.Wk.at_nil _ _)⟩ (by kernel_rfl) ?_
 refine HS.call rfl (want_none) rfl (ec en_51 rfl rfl) (law32_few_walk (fr := (Ow.box b_2 46 #[.int .i64 0, .slice none 0 0] :: Ow.box b_1 46 #[.int .i64 t_Root, vt_Links] :: fr)) t_Links vt_Links hS hL_t_Links hM) ?_
 rintro vr_1 h_3 ⟨F_1, r_1, _, rfl, hk, hS, _, hM⟩
 replace hK := hK.trans hk
 replace hL_t_Links := hL_t_Links.kp hk
 refine Go.Wk.HA.re (fun h => (OwnIs h 0 67 2 e_api_Branch vr_1 r_1) ∧ (Blk h b_1 (.cells #[.int .i64 t_Root, vt_Links] 46 (0, 0)))) [] (fun L_ h_ hL_ ⟨c228, c202⟩ hs_ => ⟨c202, (Go.Wk.at_nil _ _)⟩) ?_
 refine HA.val (k := 5) (v := .agg #[.int .i64 t_Root, vr_1]) rfl rfl (by kernel_rfl) (by kernel_rfl) (want_none) rfl (fun _ ⟨c228, c202⟩ => q_build tp_46 (fill_cons (cs' := #[.int .i64 t_Root, .slice none 0 0]) (vc := #[.int .i64 t_Root]) rfl rfl rfl (Nat.le_of_ble_eq_true rfl) rfl (fill_cons (cs' := #[.int .i64 t_Root, vr_1]) (vc := #[vr_1]) rfl (shp c228.slice).cells rfl (Nat.le_of_ble_eq_true rfl) rfl rfl))) ?_
 refine HA.one (k := 6) ⟨⟨(hS.own 0 rfl), (hS.box 2 rfl)⟩, (Go.Wk.at_nil _ _)⟩ (by kernel_rfl) ?_
 refine HS.sto rfl (want_none) rfl (st_storeAgg (c' := #[.int .i64 t_Root, vr_1]) hS (i := 1) rfl ta_46 rfl rfl rfl (List.forall_mem_cons.2 ⟨rfl, (List.forall_mem_cons.2 ⟨(shp (hS.own 0 rfl).slice).one, (fun _ h => by cases h)⟩)⟩) (Nat.le_of_ble_eq_true rfl) rfl) ?_
 rintro h_4 ⟨hS, hk⟩
 replace hS : St F_1 (Ow.own 67 2 e_api_Branch vr_1 r_1 :: Ow.box b_2 46 #[.int .i64 t_Root, vr_1] :: Ow.box b_1 46 #[.int .i64 t_Root, vt_Links] :: fr) h_4 := hS
 replace hK := hK.trans hk
 replace hL_t_Links := hL_t_Links.kp hk
 refine HA.nil ⟨⟨(hS.own 0 rfl), (hS.box 2 rfl)⟩, (Go.Wk.at_nil _ _)⟩ (by kernel_rfl) (thenQ_normal (?_))
 refine HW.ret (?_)
 refine ⟨.inr rfl, .agg #[.int .i64 t_Root, vr_1], res1 rfl (rca (cs := [.int .i64 t_Root, vr_1]) ta_46 rfl rfl (Blk.cells (k := 2) (hS.box 1 rfl) rfl)), ?_⟩
 replace hS : St F_1 (Ow.own 67 2 e_api_Branch vr_1 r_1 :: fr) h_4 := hS.perm2 [0] 3 rfl rfl
 exact ⟨F_1, t_Root, r_1, vr_1, rfl, hK, hS, hL_t_Links, hM⟩

def law33_PlanValid_j2 (a_Root : Int) (a_Fan : Int) (Q : Bool → Prop) (r_0_1 : Int) (r_1_1 : List T_api_Branch) (l_1 : List Int) (l_2 : List Int) : Prop :=
 law32_Few_W r_0_1 r_1_1 (fun r_0_2 r_1_2 => law33_copied_W l_1 (fun r_4 => law33_copied_W l_2 (fun r_5 => plan_Valid_W r_0_2 r_1_2 a_Root r_4 r_5 (1 + ((u8w (a_Fan.tmod 64)).toNat : Int)) (fun r_6 => ref33_Valid_W r_0_1 r_1_1 a_Root l_1 l_2 (1 + ((u8w (a_Fan.tmod 64)).toNat : Int)) (fun r_7 => ((r_6 == r_7) = true → law33_lives_W  (fun r_8 => Q r_8)) ∧ ((r_6 == r_7) = false → Q false))))))
def law33_PlanValid_j1 (a_Root : Int) (a_Fan : Int) (Q : Bool → Prop) (r_0_1 : Int) (r_1_1 : List T_api_Branch) (r_3 : List Int) (l_1 : List Int) : Prop :=
 (12 < (r_3.length : Int) → ((0 : Int) ≤ 12 ∧ 12 ≤ (r_3.length : Int)) ∧ (((0 : Int) ≤ 0 ∧ (0 : Int) ≤ 12 ∧ 12 ≤ (r_3.length : Int)) ∧ (law33_PlanValid_j2 a_Root a_Fan Q r_0_1 r_1_1 l_1 (cut r_3 0 12)))) ∧ (¬ (12 < (r_3.length : Int)) → law33_PlanValid_j2 a_Root a_Fan Q r_0_1 r_1_1 l_1 r_3)
def law33_PlanValid_W (t_Root : Int) (t_Links : List T_api_Branch) (a_Root : Int) (a_Members : List Int) (a_Services : List Int) (a_Fan : Int) (Q : Bool → Prop) : Prop :=
 law32_Few_W t_Root t_Links (fun r_0_1 r_1_1 => ((0 : Int) ≤ (a_Fan.tmod 64) ∧ (a_Fan.tmod 64) < 256) ∧ ((I64 ((u8w (a_Fan.tmod 64)).toNat : Int)) ∧ ((I64 (1 + ((u8w (a_Fan.tmod 64)).toNat : Int))) ∧ (law33_copied_W a_Members (fun r_2 => law33_copied_W a_Services (fun r_3 => (20 < (r_2.length : Int) → ((0 : Int) ≤ 20 ∧ 20 ≤ (r_2.length : Int)) ∧ (((0 : Int) ≤ 0 ∧ (0 : Int) ≤ 20 ∧ 20 ≤ (r_2.length : Int)) ∧ (law33_PlanValid_j1 a_Root a_Fan Q r_0_1 r_1_1 r_3 (cut r_2 0 20)))) ∧ (¬ (20 < (r_2.length : Int)) → law33_PlanValid_j1 a_Root a_Fan Q r_0_1 r_1_1 r_3 r_2)))))))
set_option maxHeartbeats 40000000 in
set_option maxRecDepth 100000 in
theorem law33_PlanValid_walk {F : Fz} {fr : List Ow} {h0 : Heap} (t_Root : Int) (t_Links : List T_api_Branch) (a_Root : Int) (a_Members : List Int) (a_Services : List Int) (a_Fan : Int) (vt_Links : Value) (va_Members : Value) (va_Services : Value) (hS : St F (fr) h0) (hL_t_Links : SliceF F h0 2 e_api_Branch vt_Links t_Links) (hL_a_Members : SliceF F h0 1 encI va_Members a_Members) (hL_a_Services : SliceF F h0 1 encI va_Services a_Services) (hD : DM.on = false) {Q : Bool → Prop} (hM : law33_PlanValid_W t_Root t_Links a_Root a_Members a_Services a_Fan Q) :
  HC Try.prog 6 #[.agg #[.int .i64 t_Root, vt_Links], .agg #[.int .i64 a_Root, va_Members, va_Services, .int .u8 a_Fan]] h0 fun u h' => ∃ (F' : Fz) (r_1 : Bool), u = .bool r_1 ∧ Kp F h0 F' h' ∧ St F' (fr) h' ∧ (SliceF F' h' 2 e_api_Branch vt_Links t_Links) ∧ (SliceF F' h' 1 encI va_Members a_Members) ∧ (SliceF F' h' 1 encI va_Services a_Services) ∧ Q r_1 := by
 unfold law33_PlanValid_W at hM
 have hK := Kp.refl F h0
 refine HC.of_HW (n := 52) Try.func6 rfl rfl (Nat.le_of_ble_eq_true rfl) ?_
 refine HW.seq ?_
 refine HW.region ?_
 refine HO.eff (want_none) rfl (st_box (c := #[.int .i64 t_Root, vt_Links]) (k' := 2) hS rfl rfl) ?_
 rintro _ h_1 ⟨b_1, rfl, hS, hk⟩
 replace hK := hK.trans hk
 replace hL_t_Links := hL_t_Links.kp hk
 replace hL_a_Members := hL_a_Members.kp hk
 replace hL_a_Services := hL_a_Services.kp hk
 refine HO.eff (want_none) rfl (st_box (c := #[.int .i64 a_Root, va_Members, va_Services, .int .u8 a_Fan]) (k' := 4) hS rfl rfl) ?_
 rintro _ h_2 ⟨b_2, rfl, hS, hk⟩
 replace hK := hK.trans hk
 replace hL_t_Links := hL_t_Links.kp hk
 replace hL_a_Members := hL_a_Members.kp hk
 replace hL_a_Services := hL_a_Services.kp hk
 refine oA (.bool false) rfl rfl ?_
 refine HO.nil (thenQ_normal (?_))
 refine HW.seq ?_
 refine HW.region ?_
 refine oV (.agg #[.int .i64 t_Root, vt_Links]) (q_loadAgg (cs := [.int .i64 t_Root, vt_Links]) ta_46 rfl rfl (Blk.cells (k := 2) (hS.box 1 rfl) rfl)) rfl ?_
 refine HO.call (want_none) rfl (ec en_23 rfl rfl) (law32_Few_walk (fr := (Ow.box b_2 39 #[.int .i64 a_Root, va_Members, va_Services, .int .u8 a_Fan] :: Ow.box b_1 46 #[.int .i64 t_Root, vt_Links] :: fr)) t_Root t_Links vt_Links hS hL_t_Links hM) ?_
 rintro _ h_3 ⟨F_1, r_0_1, r_1_1, vr_1_1, rfl, hk, hS, _, hM⟩
 replace hK := hK.trans hk
 replace hL_t_Links := hL_t_Links.kp hk
 replace hL_a_Members := hL_a_Members.kp hk
 replace hL_a_Services := hL_a_Services.kp hk
 refine HO.sto (want_none) rfl (st_storeAgg (c' := #[.int .i64 r_0_1, vr_1_1]) hS (i := 2) rfl ta_46 rfl rfl rfl (List.forall_mem_cons.2 ⟨rfl, (List.forall_mem_cons.2 ⟨(shp (hS.own 0 rfl).slice).one, (fun _ h => by cases h)⟩)⟩) (Nat.le_of_ble_eq_true rfl) rfl) ?_
 rintro h_4 ⟨hS, hk⟩
 replace hS : St F_1 (Ow.own 67 2 e_api_Branch vr_1_1 r_1_1 :: Ow.box b_2 39 #[.int .i64 a_Root, va_Members, va_Services, .int .u8 a_Fan] :: Ow.box b_1 46 #[.int .i64 r_0_1, vr_1_1] :: fr) h_4 := hS
 replace hK := hK.trans hk
 replace hL_t_Links := hL_t_Links.kp hk
 replace hL_a_Members := hL_a_Members.kp hk
 replace hL_a_Services := hL_a_Services.kp hk
 refine HO.nil (thenQ_normal (?_))
 refine HW.seq ?_
 refine HW.regionA 14 mixed (fun h => (Blk h b_2 (.cells #[.int .i64 a_Root, va_Members, va_Services, .int .u8 a_Fan] 39 (0, 0)))) [] (by kernel_rfl) ?_
 refine HA.val (k := 0) (v := .pointer (some ⟨b_2, 1, none⟩)) rfl rfl (by kernel_rfl) (by kernel_rfl) (want_none) rfl (fun _ c202 => q_fieldAddr fa_39_1 rfl rfl) ?_
 refine HA.val (k := 1) (v := va_Members) rfl rfl (by kernel_rfl) (by kernel_rfl) (want_none) rfl (fun _ c202 => q_load to_31 rfl (Blk.cell c202 rfl)) ?_
 refine HA.val (k := 3) (v := .pointer (some ⟨b_2, 2, none⟩)) rfl rfl (by kernel_rfl) (by kernel_rfl) (want_none) rfl (fun _ c202 => q_fieldAddr fa_39_2 rfl rfl) ?_
 refine HA.val (k := 4) (v := va_Services) rfl rfl (by kernel_rfl) (by kernel_rfl) (want_none) rfl (fun _ c202 => q_load to_31 rfl (Blk.cell c202 rfl)) ?_
 refine HA.val (k := 6) (v := .pointer (some ⟨b_2, 3, none⟩)) rfl rfl (by kernel_rfl) (by kernel_rfl) (want_none) rfl (fun _ c202 => q_fieldAddr fa_39_3 rfl rfl) ?_
 refine HA.val (k := 7) (v := .int .u8 a_Fan) rfl rfl (by kernel_rfl) (by kernel_rfl) (want_none) rfl (fun _ c202 => q_load to_5 rfl (Blk.cell c202 rfl)) ?_
 obtain ⟨ho_1, hM⟩ := hM
 refine HA.val (k := 8) (v := .int .u8 ((u8w (a_Fan.tmod 64)).toNat : Int)) rfl rfl (by kernel_rfl) (by kernel_rfl) (want_none) rfl (fun _ c202 => (q_rem rfl rfl (by decide)).of_eq (u8r_v ho_1)) ?_
 obtain ⟨ho_2, hM⟩ := hM
 refine HA.val (k := 9) (v := .int .i64 ((u8w (a_Fan.tmod 64)).toNat : Int)) rfl rfl (by kernel_rfl) (by kernel_rfl) (want_none) rfl (fun _ c202 => q_convInt Try.underlying5 Try.underlying3 rfl (wrap_i64 ho_2.1 ho_2.2)) ?_
 obtain ⟨ho_3, hM⟩ := hM
 refine HA.val (k := 10) (v := .int .i64 (1 + ((u8w (a_Fan.tmod 64)).toNat : Int))) rfl rfl (by kernel_rfl) (by kernel_rfl) (want_none) rfl (fun _ c202 => q_addN _ rfl rfl rfl ho_3.1 ho_3.2) ?_
 refine HA.one (k := 2) ⟨(hS.box 1 rfl), (Go.Wk.at_nil _ _)⟩ (by kernel_rfl) ?_
 refine HS.call rfl (want_none) rfl (ec en_18 rfl rfl) (law33_copied_walk (fr := (Ow.own 67 2 e_api_Branch vr_1_1 r_1_1 :: Ow.box b_2 39 #[.int .i64 a_Root, va_Members, va_Services, .int .u8 a_Fan] :: Ow.box b_1 46 #[.int .i64 r_0_1, vr_1_1] :: fr)) a_Members va_Members hS hL_a_Members hM) ?_
 rintro vr_1 h_5 ⟨F_2, r_2, _, rfl, hk, hS, _, hM⟩
 replace hK := hK.trans hk
 replace hL_t_Links := hL_t_Links.kp hk
 replace hL_a_Members := hL_a_Members.kp hk
 replace hL_a_Services := hL_a_Services.kp hk
 refine HA.one (k := 5) ⟨(hS.box 2 rfl), (Go.Wk.at_nil _ _)⟩ (by kernel_rfl) ?_
 refine HS.call rfl (want_none) rfl (ec en_18 rfl rfl) (law33_copied_walk (fr := (Ow.own 3 1 encI vr_1 r_2 :: Ow.own 67 2 e_api_Branch vr_1_1 r_1_1 :: Ow.box b_2 39 #[.int .i64 a_Root, va_Members, va_Services, .int .u8 a_Fan] :: Ow.box b_1 46 #[.int .i64 r_0_1, vr_1_1] :: fr)) a_Services va_Services hS hL_a_Services hM) ?_
 rintro vr_2 h_6 ⟨F_3, r_3, _, rfl, hk, hS, _, hM⟩
 replace hK := hK.trans hk
 replace hL_t_Links := hL_t_Links.kp hk
 replace hL_a_Members := hL_a_Members.kp hk
 replace hL_a_Services := hL_a_Services.kp hk
 refine HA.val (k := 11) (v := vr_1) rfl rfl (by kernel_rfl) (by kernel_rfl) (want_none) rfl (fun _ c202 => q_assign rfl) ?_
 refine HA.val (k := 12) (v := vr_2) rfl rfl (by kernel_rfl) (by kernel_rfl) (want_none) rfl (fun _ c202 => q_assign rfl) ?_
 refine HA.val (k := 13) (v := .int .i64 (1 + ((u8w (a_Fan.tmod 64)).toNat : Int))) rfl rfl (by kernel_rfl) (by kernel_rfl) (want_none) rfl (fun _ c202 => q_assign rfl) ?_
 refine HA.nil ⟨(hS.box 3 rfl), (Go.Wk.at_nil _ _)⟩ (by kernel_rfl) (thenQ_normal (?_))
 refine HW.seq_mid (fun f h => ∃ (F' : Fz) (l_1 : List Int) (v_1 : Value), f 2 = .pointer (some ⟨b_1, 0, none⟩) ∧ f 3 = .pointer (some ⟨b_2, 0, none⟩) ∧ f 4 = .bool false ∧ f 5 = v_1 ∧ f 6 = vr_2 ∧ f 7 = .int .i64 (1 + ((u8w (a_Fan.tmod 64)).toNat : Int)) ∧ Kp F h0 F' h ∧ St F' (Ow.box b_1 46 #[.int .i64 r_0_1, vr_1_1] :: Ow.own 67 2 e_api_Branch vr_1_1 r_1_1 :: Ow.box b_2 39 #[.int .i64 a_Root, va_Members, va_Services, .int .u8 a_Fan] :: Ow.own 3 1 encI vr_2 r_3 :: fr) h ∧ (SliceF F' h 2 e_api_Branch vt_Links t_Links) ∧ (SliceF F' h 1 encI va_Members a_Members) ∧ (SliceF F' h 1 encI va_Services a_Services) ∧ (SliceF F' h 1 encI v_1 l_1) ∧ law33_PlanValid_j1 a_Root a_Fan Q r_0_1 r_1_1 r_3 l_1) ?_ ?_
 ·
  refine HW.seq ?_
  refine HW.region ?_
  refine oM (vr_1) rfl rfl ?_
  refine oV (.int .i64 (r_2.length : Int)) (q_len ts_31 (shp (hS.own 1 rfl).slice) rfl rfl) rfl ?_
  refine oV (.bool (decide (20 < (r_2.length : Int)))) (q_gtr rfl rfl) rfl ?_
  refine HO.nil (thenQ_normal (?_))
  refine HW.cond (decide (20 < (r_2.length : Int))) rfl (fun c_1 => ?_) (fun c_1 => ?_)
  ·
   replace hM := hM.1 (of_decide_eq_true c_1)
   refine HW.region ?_
   refine oM (vr_1) rfl rfl ?_
   obtain ⟨ho_4, hM⟩ := hM
   refine oV (cutV 1 vr_1 (0 : Int).toNat (20 : Int).toNat) (q_slH ts_31 (hS.own 1 rfl).slice rfl rfl ho_4) rfl ?_
   refine oA (cutV 1 vr_1 (0 : Int).toNat (20 : Int).toNat) rfl rfl ?_
   refine HO.nil (thenQ_normal (?_))
   replace hS : St F_3 (Ow.own 3 1 encI vr_1 r_2 :: Ow.own 3 1 encI vr_2 r_3 :: Ow.own 67 2 e_api_Branch vr_1_1 r_1_1 :: Ow.box b_2 39 #[.int .i64 a_Root, va_Members, va_Services, .int .u8 a_Fan] :: Ow.box b_1 46 #[.int .i64 r_0_1, vr_1_1] :: fr) h_6 := hS.perm2 [1, 0, 2, 3, 4] 5 rfl rfl
   obtain ⟨F_4, hS, hk, hL_2⟩ := hS.freezeOwn
   replace hK := hK.trans hk
   replace hL_t_Links := hL_t_Links.kp hk
   replace hL_a_Members := hL_a_Members.kp hk
   replace hL_a_Services := hL_a_Services.kp hk
   obtain ⟨ho_5, hM⟩ := hM
   replace hS : St F_4 (Ow.box b_1 46 #[.int .i64 r_0_1, vr_1_1] :: Ow.own 67 2 e_api_Branch vr_1_1 r_1_1 :: Ow.box b_2 39 #[.int .i64 a_Root, va_Members, va_Services, .int .u8 a_Fan] :: Ow.own 3 1 encI vr_2 r_3 :: fr) h_6 := hS.perm2 [3, 1, 2, 0] 4 rfl rfl
   exact ⟨F_4, cut r_2 0 20, cutV 1 vr_1 (0 : Int).toNat (20 : Int).toNat, rfl, rfl, rfl, rfl, rfl, rfl, hK, hS, hL_t_Links, hL_a_Members, hL_a_Services, (cutF hL_2 0 20 ho_5.1 ho_5.2.1 ho_5.2.2), hM⟩
  ·
   replace hM := hM.2 (of_decide_eq_false c_1)
   refine HW.skip (thenQ_normal (?_))
   replace hS : St F_3 (Ow.own 3 1 encI vr_1 r_2 :: Ow.own 3 1 encI vr_2 r_3 :: Ow.own 67 2 e_api_Branch vr_1_1 r_1_1 :: Ow.box b_2 39 #[.int .i64 a_Root, va_Members, va_Services, .int .u8 a_Fan] :: Ow.box b_1 46 #[.int .i64 r_0_1, vr_1_1] :: fr) h_6 := hS.perm2 [1, 0, 2, 3, 4] 5 rfl rfl
   obtain ⟨F_5, hS, hk, hL_3⟩ := hS.freezeOwn
   replace hK := hK.trans hk
   replace hL_t_Links := hL_t_Links.kp hk
   replace hL_a_Members := hL_a_Members.kp hk
   replace hL_a_Services := hL_a_Services.kp hk
   replace hS : St F_5 (Ow.box b_1 46 #[.int .i64 r_0_1, vr_1_1] :: Ow.own 67 2 e_api_Branch vr_1_1 r_1_1 :: Ow.box b_2 39 #[.int .i64 a_Root, va_Members, va_Services, .int .u8 a_Fan] :: Ow.own 3 1 encI vr_2 r_3 :: fr) h_6 := hS.perm2 [3, 1, 2, 0] 4 rfl rfl
   exact ⟨F_5, r_2, vr_1, rfl, rfl, rfl, rfl, rfl, rfl, hK, hS, hL_t_Links, hL_a_Members, hL_a_Services, hL_3, hM⟩
 ·
  rintro f_1 h_7 ⟨F_6, l_1, v_1, e2, e3, e4, e5, e6, e7, hK, hS, hL_t_Links, hL_a_Members, hL_a_Services, hL_1, hM⟩
  unfold law33_PlanValid_j1 at hM
  refine HW.fr [(2, .pointer (some ⟨b_1, 0, none⟩)), (3, .pointer (some ⟨b_2, 0, none⟩)), (4, .bool false), (5, v_1), (6, vr_2), (7, .int .i64 (1 + ((u8w (a_Fan.tmod 64)).toNat : Int)))] ⟨e2, e3, e4, e5, e6, e7, trivial⟩ ?_
  refine HW.seq_mid (fun f h => ∃ (F' : Fz) (l_2 : List Int) (v_2 : Value), f 2 = .pointer (some ⟨b_1, 0, none⟩) ∧ f 3 = .pointer (some ⟨b_2, 0, none⟩) ∧ f 4 = .bool false ∧ f 5 = v_1 ∧ f 6 = v_2 ∧ f 7 = .int .i64 (1 + ((u8w (a_Fan.tmod 64)).toNat : Int)) ∧ Kp F h0 F' h ∧ St F' (Ow.box b_1 46 #[.int .i64 r_0_1, vr_1_1] :: Ow.own 67 2 e_api_Branch vr_1_1 r_1_1 :: Ow.box b_2 39 #[.int .i64 a_Root, va_Members, va_Services, .int .u8 a_Fan] :: fr) h ∧ (SliceF F' h 2 e_api_Branch vt_Links t_Links) ∧ (SliceF F' h 1 encI va_Members a_Members) ∧ (SliceF F' h 1 encI va_Services a_Services) ∧ (SliceF F' h 1 encI v_1 l_1) ∧ (SliceF F' h 1 encI v_2 l_2) ∧ law33_PlanValid_j2 a_Root a_Fan Q r_0_1 r_1_1 l_1 l_2) ?_ ?_
  ·
   refine HW.seq ?_
   refine HW.region ?_
   refine oM (vr_2) rfl rfl ?_
   refine oV (.int .i64 (r_3.length : Int)) (q_len ts_31 (shp (hS.own 3 rfl).slice) rfl rfl) rfl ?_
   refine oV (.bool (decide (12 < (r_3.length : Int)))) (q_gtr rfl rfl) rfl ?_
   refine HO.nil (thenQ_normal (?_))
   refine HW.cond (decide (12 < (r_3.length : Int))) rfl (fun c_2 => ?_) (fun c_2 => ?_)
   ·
    replace hM := hM.1 (of_decide_eq_true c_2)
    refine HW.region ?_
    refine oM (vr_2) rfl rfl ?_
    obtain ⟨ho_6, hM⟩ := hM
    refine oV (cutV 1 vr_2 (0 : Int).toNat (12 : Int).toNat) (q_slH ts_31 (hS.own 3 rfl).slice rfl rfl ho_6) rfl ?_
    refine oA (cutV 1 vr_2 (0 : Int).toNat (12 : Int).toNat) rfl rfl ?_
    refine HO.nil (thenQ_normal (?_))
    replace hS : St F_6 (Ow.own 3 1 encI vr_2 r_3 :: Ow.box b_1 46 #[.int .i64 r_0_1, vr_1_1] :: Ow.own 67 2 e_api_Branch vr_1_1 r_1_1 :: Ow.box b_2 39 #[.int .i64 a_Root, va_Members, va_Services, .int .u8 a_Fan] :: fr) h_7 := hS.perm2 [3, 0, 1, 2] 4 rfl rfl
    obtain ⟨F_7, hS, hk, hL_5⟩ := hS.freezeOwn
    replace hK := hK.trans hk
    replace hL_t_Links := hL_t_Links.kp hk
    replace hL_a_Members := hL_a_Members.kp hk
    replace hL_a_Services := hL_a_Services.kp hk
    replace hL_1 := hL_1.kp hk
    obtain ⟨ho_7, hM⟩ := hM
    exact ⟨F_7, cut r_3 0 12, cutV 1 vr_2 (0 : Int).toNat (12 : Int).toNat, rfl, rfl, rfl, rfl, rfl, rfl, hK, hS, hL_t_Links, hL_a_Members, hL_a_Services, hL_1, (cutF hL_5 0 12 ho_7.1 ho_7.2.1 ho_7.2.2), hM⟩
   ·
    replace hM := hM.2 (of_decide_eq_false c_2)
    refine HW.skip (thenQ_normal (?_))
    replace hS : St F_6 (Ow.own 3 1 encI vr_2 r_3 :: Ow.box b_1 46 #[.int .i64 r_0_1, vr_1_1] :: Ow.own 67 2 e_api_Branch vr_1_1 r_1_1 :: Ow.box b_2 39 #[.int .i64 a_Root, va_Members, va_Services, .int .u8 a_Fan] :: fr) h_7 := hS.perm2 [3, 0, 1, 2] 4 rfl rfl
    obtain ⟨F_8, hS, hk, hL_6⟩ := hS.freezeOwn
    replace hK := hK.trans hk
    replace hL_t_Links := hL_t_Links.kp hk
    replace hL_a_Members := hL_a_Members.kp hk
    replace hL_a_Services := hL_a_Services.kp hk
    replace hL_1 := hL_1.kp hk
    exact ⟨F_8, r_3, vr_2, rfl, rfl, rfl, rfl, rfl, rfl, hK, hS, hL_t_Links, hL_a_Members, hL_a_Services, hL_1, hL_6, hM⟩
  ·
   rintro f_2 h_8 ⟨F_9, l_2, v_2, e2, e3, e4, e5, e6, e7, hK, hS, hL_t_Links, hL_a_Members, hL_a_Services, hL_1, hL_4, hM⟩
   unfold law33_PlanValid_j2 at hM
   refine HW.fr [(2, .pointer (some ⟨b_1, 0, none⟩)), (3, .pointer (some ⟨b_2, 0, none⟩)), (4, .bool false), (5, v_1), (6, v_2), (7, .int .i64 (1 + ((u8w (a_Fan.tmod 64)).toNat : Int)))] ⟨e2, e3, e4, e5, e6, e7, trivial⟩ ?_
   refine HW.seq ?_
   refine HW.regionA 22 mixed (fun h => (Blk h b_1 (.cells #[.int .i64 r_0_1, vr_1_1] 46 (0, 0))) ∧ (Blk h b_2 (.cells #[.int .i64 a_Root, va_Members, va_Services, .int .u8 a_Fan] 39 (0, 0)))) [] (by kernel_rfl) ?_
   refine HA.val (k := 0) (v := .agg #[.int .i64 r_0_1, vr_1_1]) rfl rfl (by kernel_rfl) (by kernel_rfl) (want_none) rfl (fun _ ⟨c298, c300⟩ => q_loadAgg (cs := [.int .i64 r_0_1, vr_1_1]) ta_46 rfl rfl (Blk.cells (k := 2) c298 rfl)) ?_
   refine HA.val (k := 2) (v := .pointer (some ⟨b_2, 0, none⟩)) rfl rfl (by kernel_rfl) (by kernel_rfl) (want_none) rfl (fun _ ⟨c298, c300⟩ => q_fieldAddr fa_39_0 rfl rfl) ?_
   refine HA.val (k := 3) (v := .int .i64 a_Root) rfl rfl (by kernel_rfl) (by kernel_rfl) (want_none) rfl (fun _ ⟨c298, c300⟩ => q_load to_3 rfl (Blk.cell c300 rfl)) ?_
   refine HA.val (k := 4) (v := v_1) rfl rfl (by kernel_rfl) (by kernel_rfl) (want_none) rfl (fun _ ⟨c298, c300⟩ => q_move rfl) ?_
   refine HA.val (k := 6) (v := v_2) rfl rfl (by kernel_rfl) (by kernel_rfl) (want_none) rfl (fun _ ⟨c298, c300⟩ => q_move rfl) ?_
   refine HA.val (k := 8) (v := .int .i64 (1 + ((u8w (a_Fan.tmod 64)).toNat : Int))) rfl rfl (by kernel_rfl) (by kernel_rfl) (want_none) rfl (fun _ ⟨c298, c300⟩ => q_move rfl) ?_
   refine HA.val (k := 10) (v := .agg #[.int .i64 r_0_1, vr_1_1]) rfl rfl (by kernel_rfl) (by kernel_rfl) (want_none) rfl (fun _ ⟨c298, c300⟩ => q_loadAgg (cs := [.int .i64 r_0_1, vr_1_1]) ta_46 rfl rfl (Blk.cells (k := 2) c298 rfl)) ?_
   refine HA.val (k := 11) (v := .pointer (some ⟨b_2, 0, none⟩)) rfl rfl (by kernel_rfl) (by kernel_rfl) (want_none) rfl (fun _ ⟨c298, c300⟩ => q_fieldAddr fa_39_0 rfl rfl) ?_
   refine HA.val (k := 12) (v := .int .i64 a_Root) rfl rfl (by kernel_rfl) (by kernel_rfl) (want_none) rfl (fun _ ⟨c298, c300⟩ => q_load to_3 rfl (Blk.cell c300 rfl)) ?_
   refine HA.val (k := 13) (v := v_1) rfl rfl (by kernel_rfl) (by kernel_rfl) (want_none) rfl (fun _ ⟨c298, c300⟩ => q_move rfl) ?_
   refine HA.val (k := 14) (v := v_2) rfl rfl (by kernel_rfl) (by kernel_rfl) (want_none) rfl (fun _ ⟨c298, c300⟩ => q_move rfl) ?_
   refine HA.val (k := 15) (v := .int .i64 (1 + ((u8w (a_Fan.tmod 64)).toNat : Int))) rfl rfl (by kernel_rfl) (by kernel_rfl) (want_none) rfl (fun _ ⟨c298, c300⟩ => q_move rfl) ?_
   refine HA.one (k := 1) ⟨⟨(hS.box 0 rfl), (hS.box 2 rfl)⟩, (Go.Wk.at_nil _ _)⟩ (by kernel_rfl) ?_
   replace hS : St F_9 (Ow.own 67 2 e_api_Branch vr_1_1 r_1_1 :: Ow.box b_1 46 #[.int .i64 r_0_1, vr_1_1] :: Ow.box b_2 39 #[.int .i64 a_Root, va_Members, va_Services, .int .u8 a_Fan] :: fr) h_8 := hS.perm2 [1, 0, 2] 3 rfl rfl
   have hZ_1 := hS
   have hkz_1 := (hS.freeze).2
   replace hS := hS.freeze.1
   have hL_7 : SliceF (fun bz_ => F_9 bz_ ∨ (Ow.own 67 2 e_api_Branch vr_1_1 r_1_1).foot bz_) h_8 2 e_api_Branch vr_1_1 r_1_1 := ⟨(hZ_1.own 0 rfl).slice, fun _ b hb => .inr hb⟩
   refine HS.call rfl (want_none) rfl (ec en_23 rfl rfl) (law32_Few_walk (fr := (Ow.box b_1 46 #[.int .i64 r_0_1, vr_1_1] :: Ow.box b_2 39 #[.int .i64 a_Root, va_Members, va_Services, .int .u8 a_Fan] :: fr)) r_0_1 r_1_1 vr_1_1 hS hL_7 hM) ?_
   rintro _ h_9 ⟨F_10, r_0_2, r_1_2, vr_1_2, rfl, hk, hS, _, hM⟩
   obtain ⟨hS, hk⟩ := hZ_1.back hk hS
   generalize (fun bz_ => F_10 bz_ ∧ ¬ (Ow.own 67 2 e_api_Branch vr_1_1 r_1_1).foot bz_) = F_11 at hS hk
   replace hK := hK.trans hk
   replace hL_t_Links := hL_t_Links.kp hk
   replace hL_a_Members := hL_a_Members.kp hk
   replace hL_a_Services := hL_a_Services.kp hk
   replace hL_1 := hL_1.kp hk
   replace hL_4 := hL_4.kp hk
   refine HA.one (k := 5) ⟨⟨(hS.box 2 rfl), (hS.box 3 rfl)⟩, (Go.Wk.at_nil _ _)⟩ (by kernel_rfl) ?_
   refine HS.call rfl (want_none) rfl (ec en_18 rfl rfl) (law33_copied_walk (fr := (Ow.own 67 2 e_api_Branch vr_1_1 r_1_1 :: Ow.own 67 2 e_api_Branch vr_1_2 r_1_2 :: Ow.box b_1 46 #[.int .i64 r_0_1, vr_1_1] :: Ow.box b_2 39 #[.int .i64 a_Root, va_Members, va_Services, .int .u8 a_Fan] :: fr)) l_1 v_1 hS hL_1 hM) ?_
   rintro vr_3 h_10 ⟨F_12, r_4, _, rfl, hk, hS, _, hM⟩
   replace hK := hK.trans hk
   replace hL_t_Links := hL_t_Links.kp hk
   replace hL_a_Members := hL_a_Members.kp hk
   replace hL_a_Services := hL_a_Services.kp hk
   replace hL_1 := hL_1.kp hk
   replace hL_4 := hL_4.kp hk
   refine HA.one (k := 7) ⟨⟨(hS.box 3 rfl), (hS.box 4 rfl)⟩, (Go.Wk.at_nil _ _)⟩ (by kernel_rfl) ?_
   refine HS.call rfl (want_none) rfl (ec en_18 rfl rfl) (law33_copied_walk (fr := (Ow.own 3 1 encI vr_3 r_4 :: Ow.own 67 2 e_api_Branch vr_1_1 r_1_1 :: Ow.own 67 2 e_api_Branch vr_1_2 r_1_2 :: Ow.box b_1 46 #[.int .i64 r_0_1, vr_1_1] :: Ow.box b_2 39 #[.int .i64 a_Root, va_Members, va_Services, .int .u8 a_Fan] :: fr)) l_2 v_2 hS hL_4 hM) ?_
   rintro vr_4 h_11 ⟨F_13, r_5, _, rfl, hk, hS, _, hM⟩
   replace hK := hK.trans hk
   replace hL_t_Links := hL_t_Links.kp hk
   replace hL_a_Members := hL_a_Members.kp hk
   replace hL_a_Services := hL_a_Services.kp hk
   replace hL_1 := hL_1.kp hk
   replace hL_4 := hL_4.kp hk
   refine HA.one (k := 9) ⟨⟨(hS.box 4 rfl), (hS.box 5 rfl)⟩, (Go.Wk.at_nil _ _)⟩ (by kernel_rfl) ?_
   replace hS : St F_13 (Ow.own 67 2 e_api_Branch vr_1_2 r_1_2 :: Ow.own 3 1 encI vr_4 r_5 :: Ow.own 3 1 encI vr_3 r_4 :: Ow.own 67 2 e_api_Branch vr_1_1 r_1_1 :: Ow.box b_1 46 #[.int .i64 r_0_1, vr_1_1] :: Ow.box b_2 39 #[.int .i64 a_Root, va_Members, va_Services, .int .u8 a_Fan] :: fr) h_11 := hS.perm2 [3, 0, 1, 2, 4, 5] 6 rfl rfl
   have hZ_2 := hS
   have hkz_2 := (hS.freeze).2
   replace hS := hS.freeze.1
   have hL_8 : SliceF (fun bz_ => F_13 bz_ ∨ (Ow.own 67 2 e_api_Branch vr_1_2 r_1_2).foot bz_) h_11 2 e_api_Branch vr_1_2 r_1_2 := ⟨(hZ_2.own 0 rfl).slice, fun _ b hb => .inr hb⟩
   replace hS : St (fun bz_ => F_13 bz_ ∨ (Ow.own 67 2 e_api_Branch vr_1_2 r_1_2).foot bz_) (Ow.own 3 1 encI vr_3 r_4 :: Ow.own 3 1 encI vr_4 r_5 :: Ow.own 67 2 e_api_Branch vr_1_1 r_1_1 :: Ow.box b_1 46 #[.int .i64 r_0_1, vr_1_1] :: Ow.box b_2 39 #[.int .i64 a_Root, va_Members, va_Services, .int .u8 a_Fan] :: fr) h_11 := hS.perm2 [1, 0, 2, 3, 4] 5 rfl rfl
   have hZ_3 := hS
   have hkz_3 := (hS.freeze).2
   replace hS := hS.freeze.1
   have hL_9 : SliceF (fun bz_ => (fun bz_ => F_13 bz_ ∨ (Ow.own 67 2 e_api_Branch vr_1_2 r_1_2).foot bz_) bz_ ∨ (Ow.own 3 1 encI vr_3 r_4).foot bz_) h_11 1 encI vr_3 r_4 := ⟨(hZ_3.own 0 rfl).slice, fun _ b hb => .inr hb⟩
   have hZ_4 := hS
   have hkz_4 := (hS.freeze).2
   replace hS := hS.freeze.1
   have hL_10 : SliceF (fun bz_ => (fun bz_ => (fun bz_ => F_13 bz_ ∨ (Ow.own 67 2 e_api_Branch vr_1_2 r_1_2).foot bz_) bz_ ∨ (Ow.own 3 1 encI vr_3 r_4).foot bz_) bz_ ∨ (Ow.own 3 1 encI vr_4 r_5).foot bz_) h_11 1 encI vr_4 r_5 := ⟨(hZ_4.own 0 rfl).slice, fun _ b hb => .inr hb⟩
   refine HS.call rfl (want_none) rfl (ec en_22 rfl rfl) (plan_Valid_walk (fr := (Ow.own 67 2 e_api_Branch vr_1_1 r_1_1 :: Ow.box b_1 46 #[.int .i64 r_0_1, vr_1_1] :: Ow.box b_2 39 #[.int .i64 a_Root, va_Members, va_Services, .int .u8 a_Fan] :: fr)) r_0_2 r_1_2 a_Root r_4 r_5 (1 + ((u8w (a_Fan.tmod 64)).toNat : Int)) vr_1_2 vr_3 vr_4 hS ((hL_8.kp hkz_3).kp hkz_4) (hL_9.kp hkz_4) hL_10 hM) ?_
   rintro _ h_12 ⟨F_14, r_6, rfl, hk, hS, _, _, _, hM⟩
   obtain ⟨hS, hk⟩ := hZ_4.back hk hS
   obtain ⟨hS, hk⟩ := hZ_3.back hk hS
   obtain ⟨hS, hk⟩ := hZ_2.back hk hS
   generalize (fun bz_ => (fun bz_ => (fun bz_ => F_14 bz_ ∧ ¬ (Ow.own 3 1 encI vr_4 r_5).foot bz_) bz_ ∧ ¬ (Ow.own 3 1 encI vr_3 r_4).foot bz_) bz_ ∧ ¬ (Ow.own 67 2 e_api_Branch vr_1_2 r_1_2).foot bz_) = F_15 at hS hk
   replace hK := hK.trans hk
   replace hL_t_Links := hL_t_Links.kp hk
   replace hL_a_Members := hL_a_Members.kp hk
   replace hL_a_Services := hL_a_Services.kp hk
   replace hL_1 := hL_1.kp hk
   replace hL_4 := hL_4.kp hk
   refine HA.one (k := 16) ⟨⟨(hS.box 4 rfl), (hS.box 5 rfl)⟩, (Go.Wk.at_nil _ _)⟩ (by kernel_rfl) ?_
   replace hS : St F_15 (Ow.own 67 2 e_api_Branch vr_1_1 r_1_1 :: Ow.own 67 2 e_api_Branch vr_1_2 r_1_2 :: Ow.own 3 1 encI vr_3 r_4 :: Ow.own 3 1 encI vr_4 r_5 :: Ow.box b_1 46 #[.int .i64 r_0_1, vr_1_1] :: Ow.box b_2 39 #[.int .i64 a_Root, va_Members, va_Services, .int .u8 a_Fan] :: fr) h_12 := hS.perm2 [3, 0, 1, 2, 4, 5] 6 rfl rfl
   have hZ_5 := hS
   have hkz_5 := (hS.freeze).2
   replace hS := hS.freeze.1
   have hL_11 : SliceF (fun bz_ => F_15 bz_ ∨ (Ow.own 67 2 e_api_Branch vr_1_1 r_1_1).foot bz_) h_12 2 e_api_Branch vr_1_1 r_1_1 := ⟨(hZ_5.own 0 rfl).slice, fun _ b hb => .inr hb⟩
   refine HS.call rfl (want_none) rfl (ec en_24 rfl rfl) (ref33_Valid_walk (fr := (Ow.own 67 2 e_api_Branch vr_1_2 r_1_2 :: Ow.own 3 1 encI vr_3 r_4 :: Ow.own 3 1 encI vr_4 r_5 :: Ow.box b_1 46 #[.int .i64 r_0_1, vr_1_1] :: Ow.box b_2 39 #[.int .i64 a_Root, va_Members, va_Services, .int .u8 a_Fan] :: fr)) r_0_1 r_1_1 a_Root l_1 l_2 (1 + ((u8w (a_Fan.tmod 64)).toNat : Int)) vr_1_1 v_1 v_2 hS hL_11 (hL_1.kp hkz_5) (hL_4.kp hkz_5) hM) ?_
   rintro _ h_13 ⟨F_16, r_7, rfl, hk, hS, _, _, _, hM⟩
   obtain ⟨hS, hk⟩ := hZ_5.back hk hS
   generalize (fun bz_ => F_16 bz_ ∧ ¬ (Ow.own 67 2 e_api_Branch vr_1_1 r_1_1).foot bz_) = F_17 at hS hk
   replace hK := hK.trans hk
   replace hL_t_Links := hL_t_Links.kp hk
   replace hL_a_Members := hL_a_Members.kp hk
   replace hL_a_Services := hL_a_Services.kp hk
   refine HA.val (k := 17) (v := .bool (r_6 == r_7)) rfl rfl (by kernel_rfl) (by kernel_rfl) (want_none) rfl (fun _ ⟨c298, c300⟩ => q_eqlB Try.underlying4 rfl rfl) ?_
   refine HA.val (k := 18) (v := .bool (r_6 == r_7)) rfl rfl (by kernel_rfl) (by kernel_rfl) (want_none) rfl (fun _ ⟨c298, c300⟩ => q_move rfl) ?_
   rcases Bool.eq_false_or_eq_true (r_6 == r_7) with c_3 | c_3
   ·
    replace hM := hM.1 c_3
    refine HA.one (k := 19) ⟨⟨(hS.box 4 rfl), (hS.box 5 rfl)⟩, (Go.Wk.at_nil _ _)⟩ (by kernel_rfl) ?_
    refine HS.call rfl (want_by rfl rfl c_3) rfl (ec en_11 rfl rfl) (law33_lives_walk (fr := (Ow.own 67 2 e_api_Branch vr_1_1 r_1_1 :: Ow.own 67 2 e_api_Branch vr_1_2 r_1_2 :: Ow.own 3 1 encI vr_3 r_4 :: Ow.own 3 1 encI vr_4 r_5 :: Ow.box b_1 46 #[.int .i64 r_0_1, vr_1_1] :: Ow.box b_2 39 #[.int .i64 a_Root, va_Members, va_Services, .int .u8 a_Fan] :: fr))  hS hD hM) ?_
    rintro _ h_14 ⟨F_18, r_8, rfl, hk, hS, hM⟩
    replace hK := hK.trans hk
    replace hL_t_Links := hL_t_Links.kp hk
    replace hL_a_Members := hL_a_Members.kp hk
    replace hL_a_Services := hL_a_Services.kp hk
    refine HA.val (k := 20) (v := .bool r_8) rfl rfl (by kernel_rfl) (by kernel_rfl) (want_none) rfl (fun _ ⟨c298, c300⟩ => q_pickK true rfl c_3 rfl) ?_
    refine HA.val (k := 21) (v := .bool r_8) rfl rfl (by kernel_rfl) (by kernel_rfl) (want_none) rfl (fun _ ⟨c298, c300⟩ => q_assign rfl) ?_
    refine HA.nil ⟨⟨(hS.box 4 rfl), (hS.box 5 rfl)⟩, (Go.Wk.at_nil _ _)⟩ (by kernel_rfl) (thenQ_normal (?_))
    refine HW.ret (?_)
    refine ⟨.inr rfl, .bool r_8, res1 rfl (rt rfl), ?_⟩
    replace hS : St F_18 (fr) h_14 := hS.perm2 [] 6 rfl rfl
    exact ⟨F_18, r_8, rfl, hK, hS, hL_t_Links, hL_a_Members, hL_a_Services, hM⟩
   ·
    replace hM := hM.2 c_3
    refine HA.one (k := 19) ⟨⟨(hS.box 4 rfl), (hS.box 5 rfl)⟩, (Go.Wk.at_nil _ _)⟩ (by kernel_rfl) ?_
    refine HS.past rfl (past_by rfl rfl c_3) rfl ?_
    refine HA.val (k := 20) (v := .bool false) rfl rfl (by kernel_rfl) (by kernel_rfl) (want_none) rfl (fun _ ⟨c298, c300⟩ => q_pickK false rfl c_3 rfl) ?_
    refine HA.val (k := 21) (v := .bool false) rfl rfl (by kernel_rfl) (by kernel_rfl) (want_none) rfl (fun _ ⟨c298, c300⟩ => q_assign rfl) ?_
    refine HA.nil ⟨⟨(hS.box 4 rfl), (hS.box 5 rfl)⟩, (Go.Wk.at_nil _ _)⟩ (by kernel_rfl) (thenQ_normal (?_))
    refine HW.ret (?_)
    refine ⟨.inr rfl, .bool false, res1 rfl (rt rfl), ?_⟩
    replace hS : St F_17 (fr) h_13 := hS.perm2 [] 6 rfl rfl
    exact ⟨F_17, false, rfl, hK, hS, hL_t_Links, hL_a_Members, hL_a_Services, hM⟩
end Go.Wk
