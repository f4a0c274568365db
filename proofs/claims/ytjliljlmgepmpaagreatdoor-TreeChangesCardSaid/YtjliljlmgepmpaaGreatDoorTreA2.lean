/- Walks of trees: what all laws share. -/
import Derived.Test.YtjliljlmgepmpaaGreatDoorTreA1
set_option linter.unusedSimpArgs false
set_option linter.unusedVariables false
set_option linter.unusedSectionVars false
namespace Go.Wk
open Go.HL
open Go.Proofs hiding encI
variable [DM]

def tree_text_l1 (t_Links : List T_api_Branch) (Q : Str → Prop) (K_1 : (List UInt8) → Int → Prop) (out_1 : List UInt8) (n_1 : Int) : Prop :=
 (n_1 < (t_Links.length : Int) → ((0 : Int) ≤ n_1 ∧ n_1 < (t_Links.length : Int)) ∧ ((I64 ((gi t_Links n_1).1)) ∧ ((((([32] : Str)).length : Int) + ((itoaS ((gi t_Links n_1).1)).length : Int) ≤ 9223372036854775807) ∧ ((((([32] : Str) ++ (itoaS ((gi t_Links n_1).1))).length : Int) + ((([62] : Str)).length : Int) ≤ 9223372036854775807) ∧ ((I64 ((gi t_Links n_1).2)) ∧ (((((([32] : Str) ++ (itoaS ((gi t_Links n_1).1))) ++ ([62] : Str)).length : Int) + ((itoaS ((gi t_Links n_1).2)).length : Int) ≤ 9223372036854775807) ∧ ((out_1.length + (((([32] : Str) ++ (itoaS ((gi t_Links n_1).1))) ++ ([62] : Str)) ++ (itoaS ((gi t_Links n_1).2))).length ≤ 140737488355328) ∧ ((I64 (n_1 + 1)) ∧ (K_1 (out_1 ++ (((([32] : Str) ++ (itoaS ((gi t_Links n_1).1))) ++ ([62] : Str)) ++ (itoaS ((gi t_Links n_1).2)))) (n_1 + 1)))))))))) ∧ (¬ (n_1 < (t_Links.length : Int)) → Q out_1)
def tree_text_W (t_Root : Int) (t_Links : List T_api_Branch) (Q : Str → Prop) : Prop :=
 (I64 t_Root) ∧ ((([] : Str).length + (itoaS t_Root).length ≤ 140737488355328) ∧ (loopW (fun (K_1 : (List UInt8 × Int) → Prop) (s : List UInt8 × Int) => tree_text_l1 t_Links Q (fun out_1 n_1 => K_1 (out_1, n_1)) s.1 s.2) (([] : Str) ++ (itoaS t_Root), 0)))
set_option maxHeartbeats 40000000 in
set_option maxRecDepth 100000 in
theorem tree_text_walk {F : Fz} {fr : List Ow} {h0 : Heap} (t_Root : Int) (t_Links : List T_api_Branch) (vt_Links : Value) (hS : St F (fr) h0) (hL_t_Links : SliceF F h0 2 e_api_Branch vt_Links t_Links) (hG_5 : RoF (Ow.box 5 163 (tab10 ()).toArray) F h0) (hD : DM.on = false) {Q : Str → Prop} (hM : tree_text_W t_Root t_Links Q) :
  HC Tryz.prog 46 #[.agg #[.int .i64 t_Root, vt_Links]] h0 fun u h' => ∃ (F' : Fz) (r_1 : Str), u = .string (bs r_1) ∧ Kp F h0 F' h' ∧ St F' (fr) h' ∧ (SliceF F' h' 2 e_api_Branch vt_Links t_Links) ∧ (RoF (Ow.box 5 163 (tab10 ()).toArray) F' h') ∧ Q r_1 := by
 unfold tree_text_W at hM
 have hK := Kp.refl F h0
 refine HC.of_HW (n := 29) Tryz.func46 rfl rfl (Nat.le_of_ble_eq_true rfl) ?_
 refine HW.seq ?_
 refine HW.region ?_
 refine HO.eff (want_none) rfl (st_box (c := #[.int .i64 t_Root, vt_Links]) (k' := 2) hS rfl rfl) ?_
 rintro _ h_1 ⟨b_1, rfl, hS, hk⟩
 replace hK := hK.trans hk
 replace hL_t_Links := hL_t_Links.kp hk
 replace hG_5 := hG_5.kp hk
 refine oA (.string (bs [])) rfl rfl ?_
 refine HO.nil (thenQ_normal (?_))
 refine HW.seq ?_
 refine HW.region ?_
 refine HO.eff (want_none) rfl (st_bld (E := 5) hS btz rfl) ?_
 rintro _ h_2 ⟨b_2, rfl, hS, hk⟩
 replace hK := hK.trans hk
 replace hL_t_Links := hL_t_Links.kp hk
 replace hG_5 := hG_5.kp hk
 refine HO.nil (thenQ_normal (?_))
 refine HW.seq ?_
 refine HW.region ?_
 refine oV (.pointer (some ⟨b_1, 0, none⟩)) (q_fieldAddr fa_24_0 rfl rfl) rfl ?_
 refine oV (.int .i64 t_Root) (q_load to_3 rfl (Blk.cell (hS.box 1 rfl) rfl)) rfl ?_
 obtain ⟨ho_1, hM⟩ := hM
 refine HO.call (want_none) rfl (ec en_68 rfl rfl) (itoaF_hc hD Tryz.itoa (by kernel_rfl) hG_5 hS t_Root ho_1) ?_
 rintro _ h_3 ⟨rfl, hS, hk⟩
 replace hK := hK.trans hk
 replace hL_t_Links := hL_t_Links.kp hk
 replace hG_5 := hG_5.kp hk
 obtain ⟨ho_2, hM⟩ := hM
 refine HO.call (want_none) rfl (ec en_67 rfl rfl) (bldWrite_hc (itoaS t_Root) hS ho_2) ?_
 rintro _ h_4 ⟨v_1, rfl, hS, hk⟩
 replace hS : St F (Ow.bld 81 5 b_2 v_1 (([] : Str) ++ (itoaS t_Root)) :: Ow.box b_1 24 #[.int .i64 t_Root, vt_Links] :: fr) h_4 := hS
 replace hK := hK.trans hk
 replace hL_t_Links := hL_t_Links.kp hk
 replace hG_5 := hG_5.kp hk
 refine HO.nil (thenQ_normal (?_))
 refine HW.seq ?_
 refine HW.seq ?_
 refine HW.region ?_
 refine oV (.pointer (some ⟨b_1, 1, none⟩)) (q_fieldAddr fa_24_1 rfl rfl) rfl ?_
 refine oV (vt_Links) (q_load to_22 rfl (Blk.cell (hS.box 1 rfl) rfl)) rfl ?_
 refine oV (.int .i64 (t_Links.length : Int)) (q_len ts_22 (shp hL_t_Links.is) rfl rfl) rfl ?_
 refine oM (.int .i64 0) rfl rfl ?_
 refine HO.nil (thenQ_normal (?_))
 refine HW.block ?_
 obtain ⟨I_1, m_1, hI_1, hR_1⟩ := hM
 replace hS : St F (Ow.bld 81 5 b_2 v_1 (([] : Str) ++ (itoaS t_Root)) :: fr) h_4 := hS.perm2 [0] 2 rfl rfl
 refine HW.loop (S := List UInt8 × Int) (fun s f h => match s with | (out_1, n_1) => ∃ (F' : Fz) (vout_1 : Value), f 2 = .string (bs []) ∧ f 3 = .pointer (some ⟨b_2, 0, none⟩) ∧ f 11 = vt_Links ∧ f 12 = .int .i64 (t_Links.length : Int) ∧ f 13 = .int .i64 n_1 ∧ Kp F h0 F' h ∧ St F' (Ow.bld 81 5 b_2 vout_1 out_1 :: fr) h ∧ (SliceF F' h 2 e_api_Branch vt_Links t_Links) ∧ (RoF (Ow.box 5 163 (tab10 ()).toArray) F' h) ∧ I_1 (out_1, n_1)) m_1 (([] : Str) ++ (itoaS t_Root), 0) ⟨F, v_1, rfl, rfl, rfl, rfl, rfl, hK, hS, hL_t_Links, hG_5, hI_1⟩ ?_
 rintro ⟨out_1, n_1⟩ f_1 h_5 ⟨F_1, vout_1, e2, e3, e11, e12, e13, hK, hS, hL_t_Links, hG_5, hI0⟩
 obtain ⟨K_1, hKe_1⟩ : ∃ K : (List UInt8) → Int → Prop, K = fun out_1' n_1' => I_1 (out_1', n_1') ∧ m_1 (out_1', n_1') < m_1 (out_1, n_1) := ⟨_, rfl⟩
 have hM : tree_text_l1 t_Links Q K_1 out_1 n_1 := by rw [hKe_1]; exact hR_1 (out_1, n_1) hI0
 unfold tree_text_l1 at hM
 refine HW.fr [(2, .string (bs [])), (3, .pointer (some ⟨b_2, 0, none⟩)), (11, vt_Links), (12, .int .i64 (t_Links.length : Int)), (13, .int .i64 n_1)] ⟨e2, e3, e11, e12, e13, trivial⟩ ?_
 refine HW.seq ?_
 refine HW.region ?_
 refine oV (.bool (decide (n_1 < (t_Links.length : Int)))) (q_lss rfl rfl) rfl ?_
 refine HO.nil (thenQ_normal (?_))
 refine HW.seq ?_
 refine HW.cond (decide (n_1 < (t_Links.length : Int))) rfl (fun c_1 => ?_) (fun c_1 => ?_)
 ·
  replace hM := hM.1 (of_decide_eq_true c_1)
  refine HW.skip (thenQ_normal (?_))
  refine HW.seq ?_
  refine HW.block ?_
  refine HW.seq ?_
  refine HW.region ?_
  obtain ⟨ho_3, hM⟩ := hM
  refine oV (elemPtr 2 vt_Links (n_1).toNat) (q_idx ts_22 hL_t_Links.is rfl rfl ho_3) rfl ?_
  refine oV (.agg #[.int .i64 ((gi t_Links n_1).1), .int .i64 ((gi t_Links n_1).2)]) (q_ldElemAgg (cs := [.int .i64 ((gi t_Links n_1).1), .int .i64 ((gi t_Links n_1).2)]) ta_46 hL_t_Links.is rfl ho_3 rfl) rfl ?_
  refine HO.eff (want_none) rfl (st_alloc (c := #[.int .i64 0, .int .i64 0]) hS tz_46 rfl) ?_
  rintro _ h_6 ⟨b_3, rfl, hS, hk⟩
  replace hK := hK.trans hk
  replace hL_t_Links := hL_t_Links.kp hk
  replace hG_5 := hG_5.kp hk
  refine HO.sto (want_none) rfl (st_storeAgg (c' := #[.int .i64 ((gi t_Links n_1).1), .int .i64 ((gi t_Links n_1).2)]) hS (i := 0) rfl ta_46 rfl rfl rfl (by simp [Value.oneCell']) (Nat.le_of_ble_eq_true rfl) rfl) ?_
  rintro h_7 ⟨hS, hk⟩
  replace hS : St F_1 (Ow.box b_3 46 #[.int .i64 ((gi t_Links n_1).1), .int .i64 ((gi t_Links n_1).2)] :: Ow.bld 81 5 b_2 vout_1 out_1 :: fr) h_7 := hS
  replace hK := hK.trans hk
  replace hL_t_Links := hL_t_Links.kp hk
  replace hG_5 := hG_5.kp hk
  refine HO.nil (thenQ_normal (?_))
  refine HW.regionA 10 mixed (fun h => (Blk h b_3 (.cells #[.int .i64 ((gi t_Links n_1).1), .int .i64 ((gi t_Links n_1).2)] 46 (0, 0)))) [] (by kernel_rfl) ?_
  refine HA.val (k := 0) (v := .pointer (some ⟨b_3, 0, none⟩)) rfl rfl (by kernel_rfl) (by kernel_rfl) (want_none) rfl (fun _ c354 => q_fieldAddr fa_46_0 rfl rfl) ?_
  refine HA.val (k := 1) (v := .int .i64 ((gi t_Links n_1).1)) rfl rfl (by kernel_rfl) (by kernel_rfl) (want_none) rfl (fun _ c354 => q_load to_3 rfl (Blk.cell c354 rfl)) ?_
  refine HA.val (k := 5) (v := .pointer (some ⟨b_3, 1, none⟩)) rfl rfl (by kernel_rfl) (by kernel_rfl) (want_none) rfl (fun _ c354 => q_fieldAddr fa_46_1 rfl rfl) ?_
  refine HA.val (k := 6) (v := .int .i64 ((gi t_Links n_1).2)) rfl rfl (by kernel_rfl) (by kernel_rfl) (want_none) rfl (fun _ c354 => q_load to_3 rfl (Blk.cell c354 rfl)) ?_
  refine HA.one (k := 2) ⟨(hS.box 0 rfl), (Go.Wk.at_nil _ _)⟩ (by kernel_rfl) ?_
  obtain ⟨ho_4, hM⟩ := hM
  refine HS.call rfl (want_none) rfl (ec en_68 rfl rfl) (itoaF_hc hD Tryz.itoa (by kernel_rfl) hG_5 hS ((gi t_Links n_1).1) ho_4) ?_
  rintro _ h_8 ⟨rfl, hS, hk⟩
  replace hK := hK.trans hk
  replace hL_t_Links := hL_t_Links.kp hk
  replace hG_5 := hG_5.kp hk
  obtain ⟨ho_5, hM⟩ := hM
  refine HA.val (k := 3) (v := .string (bs (([32] : Str) ++ (itoaS ((gi t_Links n_1).1))))) rfl rfl (by kernel_rfl) (by kernel_rfl) (want_none) rfl (fun _ c354 => q_addT rfl rfl ho_5) ?_
  obtain ⟨ho_6, hM⟩ := hM
  refine HA.val (k := 4) (v := .string (bs ((([32] : Str) ++ (itoaS ((gi t_Links n_1).1))) ++ ([62] : Str)))) rfl rfl (by kernel_rfl) (by kernel_rfl) (want_none) rfl (fun _ c354 => q_addT rfl rfl ho_6) ?_
  refine HA.one (k := 7) ⟨(hS.box 0 rfl), (Go.Wk.at_nil _ _)⟩ (by kernel_rfl) ?_
  obtain ⟨ho_7, hM⟩ := hM
  refine HS.call rfl (want_none) rfl (ec en_68 rfl rfl) (itoaF_hc hD Tryz.itoa (by kernel_rfl) hG_5 hS ((gi t_Links n_1).2) ho_7) ?_
  rintro _ h_9 ⟨rfl, hS, hk⟩
  replace hK := hK.trans hk
  replace hL_t_Links := hL_t_Links.kp hk
  replace hG_5 := hG_5.kp hk
  obtain ⟨ho_8, hM⟩ := hM
  refine HA.val (k := 8) (v := .string (bs (((([32] : Str) ++ (itoaS ((gi t_Links n_1).1))) ++ ([62] : Str)) ++ (itoaS ((gi t_Links n_1).2))))) rfl rfl (by kernel_rfl) (by kernel_rfl) (want_none) rfl (fun _ c354 => q_addT rfl rfl ho_8) ?_
  refine HA.one (k := 9) ⟨(hS.box 0 rfl), (Go.Wk.at_nil _ _)⟩ (by kernel_rfl) ?_
  replace hS : St F_1 (Ow.bld 81 5 b_2 vout_1 out_1 :: Ow.box b_3 46 #[.int .i64 ((gi t_Links n_1).1), .int .i64 ((gi t_Links n_1).2)] :: fr) h_9 := hS.perm2 [1, 0] 2 rfl rfl
  obtain ⟨ho_9, hM⟩ := hM
  refine HS.call rfl (want_none) rfl (ec en_67 rfl rfl) (bldWrite_hc (((([32] : Str) ++ (itoaS ((gi t_Links n_1).1))) ++ ([62] : Str)) ++ (itoaS ((gi t_Links n_1).2))) hS ho_9) ?_
  rintro _ h_10 ⟨v_2, rfl, hS, hk⟩
  replace hS : St F_1 (Ow.bld 81 5 b_2 v_2 (out_1 ++ (((([32] : Str) ++ (itoaS ((gi t_Links n_1).1))) ++ ([62] : Str)) ++ (itoaS ((gi t_Links n_1).2)))) :: Ow.box b_3 46 #[.int .i64 ((gi t_Links n_1).1), .int .i64 ((gi t_Links n_1).2)] :: fr) h_10 := hS
  replace hK := hK.trans hk
  replace hL_t_Links := hL_t_Links.kp hk
  replace hG_5 := hG_5.kp hk
  refine HA.nil ⟨(hS.box 1 rfl), (Go.Wk.at_nil _ _)⟩ (by kernel_rfl) (blockQ_normal (thenQ_normal (?_)))
  refine HW.region ?_
  obtain ⟨ho_10, hM⟩ := hM
  refine oV (.int .i64 (n_1 + 1)) (q_addN _ rfl rfl rfl ho_10.1 ho_10.2) rfl ?_
  refine oM (.int .i64 (n_1 + 1)) rfl rfl ?_
  refine HO.nil (thenQ_normal (?_))
  replace hS : St F_1 (Ow.bld 81 5 b_2 v_2 (out_1 ++ (((([32] : Str) ++ (itoaS ((gi t_Links n_1).1))) ++ ([62] : Str)) ++ (itoaS ((gi t_Links n_1).2)))) :: fr) h_10 := hS.perm2 [0] 2 rfl rfl
  rw [hKe_1] at hM
  exact ⟨(out_1 ++ (((([32] : Str) ++ (itoaS ((gi t_Links n_1).1))) ++ ([62] : Str)) ++ (itoaS ((gi t_Links n_1).2))), n_1 + 1), ⟨F_1, v_2, rfl, rfl, rfl, rfl, rfl, hK, hS, hL_t_Links, hG_5, hM.1⟩, hM.2⟩
 ·
  replace hM := hM.2 (of_decide_eq_false c_1)
  refine HW.exit (thenQ_exit (thenQ_exit (blockQ_exit (thenQ_normal (?_)))))
  refine HW.seq ?_
  refine HW.region ?_
  refine HO.call (want_none) rfl (ec en_69 rfl rfl) (bldString_hc hS) ?_
  rintro _ h_11 ⟨rfl, hS, hk⟩
  replace hK := hK.trans hk
  replace hL_t_Links := hL_t_Links.kp hk
  replace hG_5 := hG_5.kp hk
  refine oA (.string (bs out_1)) rfl rfl ?_
  refine HO.nil (thenQ_normal (?_))
  refine HW.ret (?_)
  refine ⟨.inr rfl, .string (bs out_1), res1 rfl (rt rfl), ?_⟩
  exact ⟨F_1, out_1, rfl, hK, hS, hL_t_Links, hG_5, hM⟩

def tree_Parse_j1 (Q : Int → (List T_api_Branch) → Int → Prop) (r0_1 : Int) (t_1_1 : List T_api_Branch) (b_5 : Bool) : Prop :=
 (b_5 = true → Q 0 [] 2) ∧ (b_5 = false → Q r0_1 t_1_1 0)
def tree_Parse_l1 (s1 : Str) (Q : Int → (List T_api_Branch) → Int → Prop) (r0_1 : Int) (r1_2 : Bool) (K_1 : (List T_api_Branch) → Int → Prop) (t_1_1 : List T_api_Branch) (n_1 : Int) : Prop :=
 (n_1 < ((cut (splitS s1 ([32] : Str)) 1 ((splitS s1 ([32] : Str)).length : Int)).length : Int) → ((0 : Int) ≤ n_1 ∧ n_1 < ((cut (splitS s1 ([32] : Str)) 1 ((splitS s1 ([32] : Str)).length : Int)).length : Int)) ∧ (((0 : Int) ≤ 1 ∧ 1 ≤ ((splitS s1 ([32] : Str)).length : Int) ∧ ((splitS s1 ([32] : Str)).length : Int) ≤ ((splitS s1 ([32] : Str)).length : Int)) ∧ (tree_link_W (gi (cut (splitS s1 ([32] : Str)) 1 ((splitS s1 ([32] : Str)).length : Int)) n_1) (fun r0_2 r1_3 => ((!r1_3) = true → Q 0 [] 2) ∧ ((!r1_3) = false → ((t_1_1.length + ([r0_2] : List T_api_Branch).length) * 16 ≤ 140737488355328) ∧ ((I64 (n_1 + 1)) ∧ (K_1 (t_1_1 ++ ([r0_2] : List T_api_Branch)) (n_1 + 1)))))))) ∧ (¬ (n_1 < ((cut (splitS s1 ([32] : Str)) 1 ((splitS s1 ([32] : Str)).length : Int)).length : Int)) → (r1_2 = true → tree_Parse_j1 Q r0_1 t_1_1 true) ∧ (r1_2 = false → tree_good_W r0_1 t_1_1 (fun r_1 => ((!r_1) = true → tree_Parse_j1 Q r0_1 t_1_1 true) ∧ ((!r_1) = false → tree_text_W r0_1 t_1_1 (fun r_2 => tree_Parse_j1 Q r0_1 t_1_1 (!decide ((r_2 : Str) = s1)))))))
def tree_Parse_W (s1 : Str) (Q : Int → (List T_api_Branch) → Int → Prop) : Prop :=
 ((s1.length : Int) < 4294967281 ∧ 1 ≤ ((([32] : Str)).length : Int)) ∧ (((0 : Int) ≤ 0 ∧ 0 < ((splitS s1 ([32] : Str)).length : Int)) ∧ (strconv_Atoi_W (gi (splitS s1 ([32] : Str)) 0) (fun r0_1 r1_2 => ((0 : Int) ≤ 1 ∧ 1 ≤ ((splitS s1 ([32] : Str)).length : Int)) ∧ (((0 : Int) ≤ 1 ∧ 1 ≤ ((splitS s1 ([32] : Str)).length : Int) ∧ ((splitS s1 ([32] : Str)).length : Int) ≤ ((splitS s1 ([32] : Str)).length : Int)) ∧ (loopW (fun (K_1 : (List T_api_Branch × Int) → Prop) (s : List T_api_Branch × Int) => tree_Parse_l1 s1 Q r0_1 r1_2 (fun t_1_1 n_1 => K_1 (t_1_1, n_1)) s.1 s.2) ([], 0))))))
set_option maxHeartbeats 40000000 in
set_option maxRecDepth 100000 in
theorem tree_Parse_walk {F : Fz} {fr : List Ow} {h0 : Heap} (s1 : Str) (gvS : Value) (gbS : Bool) (gvR : Value) (gbR : Bool) (gm : Int) (hS : St F (fr) h0) (hG_0 : RoF (Ow.box 0 53 #[gvS]) F h0) (hE_gvS : ErrF gbS gvS F h0) (hG_1 : RoF (Ow.box 1 53 #[gvR]) F h0) (hE_gvR : ErrF gbR gvR F h0) (hG_2 : RoF (Ow.box 2 3 #[.int .i64 gm]) F h0) (hG_5 : RoF (Ow.box 5 163 (tab10 ()).toArray) F h0) (hD : DM.on = false) {Q : Int → (List T_api_Branch) → Int → Prop} (hM : tree_Parse_W s1 Q) :
  HC Tryz.prog 10 #[.string (bs s1)] h0 fun u h' => ∃ (F' : Fz) (r0_0_1 : Int) (r0_1_1 : List T_api_Branch) (r1_1 : Int) (vr0_1_1 : Value), u = .tuple #[.agg #[.int .i64 r0_0_1, vr0_1_1], .int .i64 r1_1] ∧ Kp F h0 F' h' ∧ St F' (Ow.own 46 2 e_api_Branch vr0_1_1 r0_1_1 :: fr) h' ∧ (RoF (Ow.box 0 53 #[gvS]) F' h') ∧ (ErrF gbS gvS F' h') ∧ (RoF (Ow.box 1 53 #[gvR]) F' h') ∧ (ErrF gbR gvR F' h') ∧ (RoF (Ow.box 2 3 #[.int .i64 gm]) F' h') ∧ (RoF (Ow.box 5 163 (tab10 ()).toArray) F' h') ∧ Q r0_0_1 r0_1_1 r1_1 := by
 unfold tree_Parse_W at hM
 have hK := Kp.refl F h0
 refine HC.of_HW (n := 60) Tryz.func10 rfl rfl (Nat.le_of_ble_eq_true rfl) ?_
 refine HW.seq ?_
 refine HW.region ?_
 refine HO.eff (want_none) rfl (st_alloc (c := #[.int .i64 0, .slice none 0 0]) hS tz_24 rfl) ?_
 rintro _ h_1 ⟨b_1, rfl, hS, hk⟩
 replace hK := hK.trans hk
 replace hG_0 := hG_0.kp hk
 replace hE_gvS := hE_gvS.kp hk
 replace hG_1 := hG_1.kp hk
 replace hE_gvR := hE_gvR.kp hk
 replace hG_2 := hG_2.kp hk
 replace hG_5 := hG_5.kp hk
 refine oA (.int .i64 0) rfl rfl ?_
 refine HO.nil (thenQ_normal (?_))
 refine HW.seq ?_
 refine HW.region ?_
 refine oM (.string (bs s1)) rfl rfl ?_
 obtain ⟨ho_1, hM⟩ := hM
 refine HO.call (want_none) rfl (ec en_42 rfl rfl) (strSplit_hc Tryz.split (by kernel_rfl) hG_2 hS s1 ([32] : Str) ho_1) ?_
 rintro v_1 h_2 ⟨hS, hk⟩
 replace hS : St F (Ow.own 9 1 encT v_1 (splitS s1 ([32] : Str)) :: Ow.box b_1 24 #[.int .i64 0, .slice none 0 0] :: fr) h_2 := hS
 replace hK := hK.trans hk
 replace hG_0 := hG_0.kp hk
 replace hE_gvS := hE_gvS.kp hk
 replace hG_1 := hG_1.kp hk
 replace hE_gvR := hE_gvR.kp hk
 replace hG_2 := hG_2.kp hk
 replace hG_5 := hG_5.kp hk
 refine oA (v_1) rfl rfl ?_
 refine HO.nil (thenQ_normal (?_))
 refine HW.seq ?_
 refine HW.region ?_
 refine oM (v_1) rfl rfl ?_
 obtain ⟨ho_2, hM⟩ := hM
 refine oV (elemPtr 1 v_1 (0 : Int).toNat) (q_idx ts_50 (hS.own 0 rfl).slice rfl rfl ho_2) rfl ?_
 refine oV (.string (bs (gi (splitS s1 ([32] : Str)) 0))) (q_ldElem to_9 (hS.own 0 rfl).slice rfl ho_2 rfl) rfl ?_
 refine HO.call (want_none) rfl (ec en_43 rfl rfl) (strconv_Atoi_walk (fr := (Ow.own 9 1 encT v_1 (splitS s1 ([32] : Str)) :: Ow.box b_1 24 #[.int .i64 0, .slice none 0 0] :: fr)) (gi (splitS s1 ([32] : Str)) 0) gvS gbS gvR gbR hS hG_0 hE_gvS hG_1 hE_gvR hD hM) ?_
 rintro _ h_3 ⟨F_1, r0_1, r1_2, vr1_1, rfl, hk, hS, _, _, _, _, hE_1, hM⟩
 replace hK := hK.trans hk
 replace hG_0 := hG_0.kp hk
 replace hE_gvS := hE_gvS.kp hk
 replace hG_1 := hG_1.kp hk
 replace hE_gvR := hE_gvR.kp hk
 replace hG_2 := hG_2.kp hk
 replace hG_5 := hG_5.kp hk
 refine oM (.tuple #[.int .i64 r0_1, vr1_1]) rfl rfl ?_
 refine oV (.int .i64 r0_1) (q_extract rfl rfl) rfl ?_
 refine oV (vr1_1) (q_extract rfl rfl) rfl ?_
 refine oA (.int .i64 r0_1) rfl rfl ?_
 refine oA (vr1_1) rfl rfl ?_
 refine HO.nil (thenQ_normal (?_))
 refine HW.seq ?_
 refine HW.region ?_
 refine oM (.int .i64 r0_1) rfl rfl ?_
 refine oV (.agg #[.int .i64 r0_1, .slice none 0 0]) (q_build tp_24 rfl) rfl ?_
 refine HO.eff (want_none) rfl (st_alloc (c := #[.int .i64 0, .slice none 0 0]) hS tz_24 rfl) ?_
 rintro _ h_4 ⟨b_2, rfl, hS, hk⟩
 replace hK := hK.trans hk
 replace hG_0 := hG_0.kp hk
 replace hE_gvS := hE_gvS.kp hk
 replace hG_1 := hG_1.kp hk
 replace hE_gvR := hE_gvR.kp hk
 replace hG_2 := hG_2.kp hk
 replace hG_5 := hG_5.kp hk
 replace hE_1 := hE_1.kp hk
 refine HO.sto (want_none) rfl (st_storeAgg (c' := #[.int .i64 r0_1, .slice none 0 0]) hS (i := 0) rfl ta_24 rfl rfl rfl (by simp [Value.oneCell']) (Nat.le_of_ble_eq_true rfl) rfl) ?_
 rintro h_5 ⟨hS, hk⟩
 replace hS : St F_1 (Ow.box b_2 24 #[.int .i64 r0_1, .slice none 0 0] :: Ow.own 9 1 encT v_1 (splitS s1 ([32] : Str)) :: Ow.box b_1 24 #[.int .i64 0, .slice none 0 0] :: fr) h_5 := hS
 replace hK := hK.trans hk
 replace hG_0 := hG_0.kp hk
 replace hE_gvS := hE_gvS.kp hk
 replace hG_1 := hG_1.kp hk
 replace hE_gvR := hE_gvR.kp hk
 replace hG_2 := hG_2.kp hk
 replace hG_5 := hG_5.kp hk
 replace hE_1 := hE_1.kp hk
 refine HO.nil (thenQ_normal (?_))
 refine HW.seq ?_
 refine HW.seq ?_
 refine HW.region ?_
 refine oM (v_1) rfl rfl ?_
 obtain ⟨ho_3, hM⟩ := hM
 refine oV (cutV 1 v_1 (1 : Int).toNat (((splitS s1 ([32] : Str)).length : Int)).toNat) (q_slL ts_50 (hS.own 1 rfl).slice rfl rfl ho_3) rfl ?_
 obtain ⟨ho_4, hM⟩ := hM
 refine oV (.int .i64 ((cut (splitS s1 ([32] : Str)) 1 ((splitS s1 ([32] : Str)).length : Int)).length : Int)) (q_len ts_50 (shp (cutIs (hS.own 1 rfl).slice 1 ((splitS s1 ([32] : Str)).length : Int) ho_4.1 ho_4.2.1 ho_4.2.2)) rfl rfl) rfl ?_
 refine oM (.int .i64 0) rfl rfl ?_
 refine HO.nil (thenQ_normal (?_))
 refine HW.block ?_
 obtain ⟨I_1, m_1, hI_1, hR_1⟩ := hM
 replace hS := hS.nilOwn 46 2 e_api_Branch
 replace hS : St F_1 (Ow.box b_1 24 #[.int .i64 0, .slice none 0 0] :: Ow.box b_2 24 #[.int .i64 r0_1, .slice none 0 0] :: Ow.own 46 2 e_api_Branch (.slice none 0 0) ([] : List T_api_Branch) :: Ow.own 9 1 encT v_1 (splitS s1 ([32] : Str)) :: fr) h_5 := hS.perm2 [3, 1, 0, 2] 4 rfl rfl
 refine HW.loop (S := List T_api_Branch × Int) (fun s f h => match s with | (t_1_1, n_1) => ∃ (F' : Fz) (vt_1_1 : Value), f 0 = .string (bs s1) ∧ f 2 = .pointer (some ⟨b_1, 0, none⟩) ∧ f 3 = .int .i64 0 ∧ f 6 = vr1_1 ∧ f 7 = .pointer (some ⟨b_2, 0, none⟩) ∧ f 24 = cutV 1 v_1 (1 : Int).toNat (((splitS s1 ([32] : Str)).length : Int)).toNat ∧ f 25 = .int .i64 ((cut (splitS s1 ([32] : Str)) 1 ((splitS s1 ([32] : Str)).length : Int)).length : Int) ∧ f 26 = .int .i64 n_1 ∧ Kp F h0 F' h ∧ St F' (Ow.box b_1 24 #[.int .i64 0, .slice none 0 0] :: Ow.box b_2 24 #[.int .i64 r0_1, vt_1_1] :: Ow.own 46 2 e_api_Branch vt_1_1 t_1_1 :: Ow.own 9 1 encT v_1 (splitS s1 ([32] : Str)) :: fr) h ∧ (RoF (Ow.box 0 53 #[gvS]) F' h) ∧ (ErrF gbS gvS F' h) ∧ (RoF (Ow.box 1 53 #[gvR]) F' h) ∧ (ErrF gbR gvR F' h) ∧ (RoF (Ow.box 2 3 #[.int .i64 gm]) F' h) ∧ (RoF (Ow.box 5 163 (tab10 ()).toArray) F' h) ∧ (ErrF r1_2 vr1_1 F' h) ∧ I_1 (t_1_1, n_1)) m_1 ([], 0) ⟨F_1, .slice none 0 0, rfl, rfl, rfl, rfl, rfl, rfl, rfl, rfl, hK, hS, hG_0, hE_gvS, hG_1, hE_gvR, hG_2, hG_5, hE_1, hI_1⟩ ?_
 rintro ⟨t_1_1, n_1⟩ f_1 h_6 ⟨F_2, vt_1_1, e0, e2, e3, e6, e7, e24, e25, e26, hK, hS, hG_0, hE_gvS, hG_1, hE_gvR, hG_2, hG_5, hE_1, hI0⟩
 obtain ⟨K_1, hKe_1⟩ : ∃ K : (List T_api_Branch) → Int → Prop, K = fun t_1_1' n_1' => I_1 (t_1_1', n_1') ∧ m_1 (t_1_1', n_1') < m_1 (t_1_1, n_1) := ⟨_, rfl⟩
 have hM : tree_Parse_l1 s1 Q r0_1 r1_2 K_1 t_1_1 n_1 := by rw [hKe_1]; exact hR_1 (t_1_1, n_1) hI0
 unfold tree_Parse_l1 at hM
 refine HW.fr [(0, .string (bs s1)), (2, .pointer (some ⟨b_1, 0, none⟩)), (3, .int .i64 0), (6, vr1_1), (7, .pointer (some ⟨b_2, 0, none⟩)), (24, cutV 1 v_1 (1 : Int).toNat (((splitS s1 ([32] : Str)).length : Int)).toNat), (25, .int .i64 ((cut (splitS s1 ([32] : Str)) 1 ((splitS s1 ([32] : Str)).length : Int)).length : Int)), (26, .int .i64 n_1)] ⟨e0, e2, e3, e6, e7, e24, e25, e26, trivial⟩ ?_
 refine HW.seq ?_
 refine HW.region ?_
 refine oV (.bool (decide (n_1 < ((cut (splitS s1 ([32] : Str)) 1 ((splitS s1 ([32] : Str)).length : Int)).length : Int)))) (q_lss rfl rfl) rfl ?_
 refine HO.nil (thenQ_normal (?_))
 refine HW.seq ?_
 refine HW.cond (decide (n_1 < ((cut (splitS s1 ([32] : Str)) 1 ((splitS s1 ([32] : Str)).length : Int)).length : Int))) rfl (fun c_1 => ?_) (fun c_1 => ?_)
 ·
  replace hM := hM.1 (of_decide_eq_true c_1)
  refine HW.skip (thenQ_normal (?_))
  refine HW.seq ?_
  refine HW.block ?_
  refine HW.seq ?_
  refine HW.region ?_
  obtain ⟨ho_5, hM⟩ := hM
  obtain ⟨ho_6, hM⟩ := hM
  refine oV (elemPtr 1 (cutV 1 v_1 (1 : Int).toNat (((splitS s1 ([32] : Str)).length : Int)).toNat) (n_1).toNat) (q_idx ts_50 (cutIs (hS.own 3 rfl).slice 1 ((splitS s1 ([32] : Str)).length : Int) ho_6.1 ho_6.2.1 ho_6.2.2) rfl rfl ho_5) rfl ?_
  refine oV (.string (bs (gi (cut (splitS s1 ([32] : Str)) 1 ((splitS s1 ([32] : Str)).length : Int)) n_1))) (q_ldElem to_9 (cutIs (hS.own 3 rfl).slice 1 ((splitS s1 ([32] : Str)).length : Int) ho_6.1 ho_6.2.1 ho_6.2.2) rfl ho_5 rfl) rfl ?_
  refine oA (.string (bs (gi (cut (splitS s1 ([32] : Str)) 1 ((splitS s1 ([32] : Str)).length : Int)) n_1))) rfl rfl ?_
  refine HO.nil (thenQ_normal (?_))
  refine HW.seq ?_
  refine HW.region ?_
  refine oM (.string (bs (gi (cut (splitS s1 ([32] : Str)) 1 ((splitS s1 ([32] : Str)).length : Int)) n_1))) rfl rfl ?_
  refine HO.call (want_none) rfl (ec en_44 rfl rfl) (tree_link_walk (fr := (Ow.box b_1 24 #[.int .i64 0, .slice none 0 0] :: Ow.box b_2 24 #[.int .i64 r0_1, vt_1_1] :: Ow.own 46 2 e_api_Branch vt_1_1 t_1_1 :: Ow.own 9 1 encT v_1 (splitS s1 ([32] : Str)) :: fr)) (gi (cut (splitS s1 ([32] : Str)) 1 ((splitS s1 ([32] : Str)).length : Int)) n_1) gvS gbS gvR gbR gm hS hG_0 hE_gvS hG_1 hE_gvR hG_2 hD hM) ?_
  rintro _ h_7 ⟨F_3, r0_2, r1_3, rfl, hk, hS, _, _, _, _, _, hM⟩
  replace hK := hK.trans hk
  replace hG_0 := hG_0.kp hk
  replace hE_gvS := hE_gvS.kp hk
  replace hG_1 := hG_1.kp hk
  replace hE_gvR := hE_gvR.kp hk
  replace hG_2 := hG_2.kp hk
  replace hG_5 := hG_5.kp hk
  replace hE_1 := hE_1.kp hk
  refine oM (.tuple #[.agg #[.int .i64 r0_2.1, .int .i64 r0_2.2], .bool r1_3]) rfl rfl ?_
  refine oV (.agg #[.int .i64 r0_2.1, .int .i64 r0_2.2]) (q_extract rfl rfl) rfl ?_
  refine oV (.bool r1_3) (q_extract rfl rfl) rfl ?_
  refine HO.eff (want_none) rfl (st_alloc (c := #[.int .i64 0, .int .i64 0]) hS tz_46 rfl) ?_
  rintro _ h_8 ⟨b_3, rfl, hS, hk⟩
  replace hK := hK.trans hk
  replace hG_0 := hG_0.kp hk
  replace hE_gvS := hE_gvS.kp hk
  replace hG_1 := hG_1.kp hk
  replace hE_gvR := hE_gvR.kp hk
  replace hG_2 := hG_2.kp hk
  replace hG_5 := hG_5.kp hk
  replace hE_1 := hE_1.kp hk
  refine HO.sto (want_none) rfl (st_storeAgg (c' := #[.int .i64 r0_2.1, .int .i64 r0_2.2]) hS (i := 0) rfl ta_46 rfl rfl rfl (by simp [Value.oneCell']) (Nat.le_of_ble_eq_true rfl) rfl) ?_
  rintro h_9 ⟨hS, hk⟩
  replace hS : St F_3 (Ow.box b_3 46 #[.int .i64 r0_2.1, .int .i64 r0_2.2] :: Ow.box b_1 24 #[.int .i64 0, .slice none 0 0] :: Ow.box b_2 24 #[.int .i64 r0_1, vt_1_1] :: Ow.own 46 2 e_api_Branch vt_1_1 t_1_1 :: Ow.own 9 1 encT v_1 (splitS s1 ([32] : Str)) :: fr) h_9 := hS
  replace hK := hK.trans hk
  replace hG_0 := hG_0.kp hk
  replace hE_gvS := hE_gvS.kp hk
  replace hG_1 := hG_1.kp hk
  replace hE_gvR := hE_gvR.kp hk
  replace hG_2 := hG_2.kp hk
  replace hG_5 := hG_5.kp hk
  replace hE_1 := hE_1.kp hk
  refine oA (.bool r1_3) rfl rfl ?_
  refine HO.nil (thenQ_normal (?_))
  refine HW.seq ?_
  refine HW.seq ?_
  refine HW.region ?_
  refine oM (.bool r1_3) rfl rfl ?_
  refine oV (.bool (!r1_3)) (q_not rfl) rfl ?_
  refine HO.nil (thenQ_normal (?_))
  refine HW.cond (!r1_3) rfl (fun c_2 => ?_) (fun c_2 => ?_)
  ·
   replace hM := hM.1 c_2
   refine HW.seq ?_
   refine HW.region ?_
   refine oV (.agg #[.int .i64 0, .slice none 0 0]) (q_build tp_24 rfl) rfl ?_
   refine HO.sto (want_none) rfl (st_storeAgg (c' := #[.int .i64 0, .slice none 0 0]) hS (i := 1) rfl ta_24 rfl rfl rfl (by simp [Value.oneCell']) (Nat.le_of_ble_eq_true rfl) rfl) ?_
   rintro h_10 ⟨hS, hk⟩
   replace hS : St F_3 (Ow.box b_3 46 #[.int .i64 r0_2.1, .int .i64 r0_2.2] :: Ow.box b_1 24 #[.int .i64 0, .slice none 0 0] :: Ow.box b_2 24 #[.int .i64 r0_1, vt_1_1] :: Ow.own 46 2 e_api_Branch vt_1_1 t_1_1 :: Ow.own 9 1 encT v_1 (splitS s1 ([32] : Str)) :: fr) h_10 := hS
   replace hK := hK.trans hk
   replace hG_0 := hG_0.kp hk
   replace hE_gvS := hE_gvS.kp hk
   replace hG_1 := hG_1.kp hk
   replace hE_gvR := hE_gvR.kp hk
   replace hG_2 := hG_2.kp hk
   replace hG_5 := hG_5.kp hk
   refine oA (.int .i64 2) rfl rfl ?_
   refine HO.nil (thenQ_normal (?_))
   refine HW.ret (thenQ_ret (blockQ_ret (thenQ_ret (thenQ_ret (blockQ_ret (thenQ_ret (?_)))))))
   refine ⟨.inr rfl, .tuple #[.agg #[.int .i64 0, .slice none 0 0], .int .i64 2], res2 rfl (rca (cs := [.int .i64 0, .slice none 0 0]) ta_24 rfl rfl (Blk.cells (k := 2) (hS.box 1 rfl) rfl)) (rt rfl), ?_⟩
   replace hS := hS.nilOwn 46 2 e_api_Branch
   replace hS : St F_3 (Ow.own 46 2 e_api_Branch (.slice none 0 0) ([] : List T_api_Branch) :: fr) h_10 := hS.perm2 [0] 6 rfl rfl
   exact ⟨F_3, 0, [], 2, .slice none 0 0, rfl, hK, hS, hG_0, hE_gvS, hG_1, hE_gvR, hG_2, hG_5, hM⟩
  ·
   replace hM := hM.2 c_2
   refine HW.skip (thenQ_normal (?_))
   refine HW.region ?_
   refine oV (.pointer (some ⟨b_2, 1, none⟩)) (q_fieldAddr fa_24_1 rfl rfl) rfl ?_
   refine oV (vt_1_1) (q_load to_22 rfl (Blk.cell (hS.box 2 rfl) rfl)) rfl ?_
   refine oV (.agg #[.int .i64 r0_2.1, .int .i64 r0_2.2]) (q_loadAgg (cs := [.int .i64 r0_2.1, .int .i64 r0_2.2]) ta_46 rfl rfl (Blk.cells (k := 2) (hS.box 0 rfl) rfl)) rfl ?_
   refine HO.eff (want_none) rfl (st_lit (enc := e_api_Branch) (cells := #[.int .i64 r0_2.1, .int .i64 r0_2.2]) #[.int .i64 0, .int .i64 0] ([r0_2] : List T_api_Branch) hS tl_22 (by decide) (by decide) (by kernel_rfl) (by kernel_rfl) rfl (by intro x hx; rfl) rfl) ?_
   rintro _ h_11 ⟨b_4, rfl, hS, hk⟩
   replace hK := hK.trans hk
   replace hG_0 := hG_0.kp hk
   replace hE_gvS := hE_gvS.kp hk
   replace hG_1 := hG_1.kp hk
   replace hE_gvR := hE_gvR.kp hk
   replace hG_2 := hG_2.kp hk
   replace hG_5 := hG_5.kp hk
   replace hE_1 := hE_1.kp hk
   obtain ⟨ho_7, hM⟩ := hM
   refine HO.eff (want_none) rfl (st_append te_22 hS (i := 4) rfl (hS.own 0 rfl).slice rfl rfl rfl (by intro a _ u hu; simp [e_api_Branch, encI, encN, encB, encT] at hu; rcases hu with rfl | rfl <;> rfl) ho_7 (by omega)) ?_
   rintro v_2 h_12 ⟨hS, hk⟩
   replace hS : St F_3 (Ow.own 46 2 e_api_Branch (.slice (some ⟨b_4, 0, none⟩) 1 1) ([r0_2] : List T_api_Branch) :: Ow.box b_3 46 #[.int .i64 r0_2.1, .int .i64 r0_2.2] :: Ow.box b_1 24 #[.int .i64 0, .slice none 0 0] :: Ow.box b_2 24 #[.int .i64 r0_1, vt_1_1] :: Ow.own 46 2 e_api_Branch v_2 (t_1_1 ++ ([r0_2] : List T_api_Branch)) :: Ow.own 9 1 encT v_1 (splitS s1 ([32] : Str)) :: fr) h_12 := hS
   replace hK := hK.trans hk
   replace hG_0 := hG_0.kp hk
   replace hE_gvS := hE_gvS.kp hk
   replace hG_1 := hG_1.kp hk
   replace hE_gvR := hE_gvR.kp hk
   replace hG_2 := hG_2.kp hk
   replace hG_5 := hG_5.kp hk
   replace hE_1 := hE_1.kp hk
   refine oV (.pointer (some ⟨b_2, 1, none⟩)) (q_fieldAddr fa_24_1 rfl rfl) rfl ?_
   refine HO.sto (want_none) rfl (st_store (c' := #[.int .i64 r0_1, v_2]) hS (i := 3) rfl to_22 rfl rfl (shp (hS.own 4 rfl).slice).cells (shp (hS.own 4 rfl).slice).one (Nat.le_of_ble_eq_true rfl) rfl) ?_
   rintro h_13 ⟨hS, hk⟩
   replace hS : St F_3 (Ow.own 46 2 e_api_Branch (.slice (some ⟨b_4, 0, none⟩) 1 1) ([r0_2] : List T_api_Branch) :: Ow.box b_3 46 #[.int .i64 r0_2.1, .int .i64 r0_2.2] :: Ow.box b_1 24 #[.int .i64 0, .slice none 0 0] :: Ow.box b_2 24 #[.int .i64 r0_1, v_2] :: Ow.own 46 2 e_api_Branch v_2 (t_1_1 ++ ([r0_2] : List T_api_Branch)) :: Ow.own 9 1 encT v_1 (splitS s1 ([32] : Str)) :: fr) h_13 := hS
   replace hK := hK.trans hk
   replace hG_0 := hG_0.kp hk
   replace hE_gvS := hE_gvS.kp hk
   replace hG_1 := hG_1.kp hk
   replace hE_gvR := hE_gvR.kp hk
   replace hG_2 := hG_2.kp hk
   replace hG_5 := hG_5.kp hk
   replace hE_1 := hE_1.kp hk
   refine HO.nil (blockQ_normal (thenQ_normal (?_)))
   refine HW.region ?_
   obtain ⟨ho_8, hM⟩ := hM
   refine oV (.int .i64 (n_1 + 1)) (q_addN _ rfl rfl rfl ho_8.1 ho_8.2) rfl ?_
   refine oM (.int .i64 (n_1 + 1)) rfl rfl ?_
   refine HO.nil (thenQ_normal (?_))
   replace hS : St F_3 (Ow.box b_1 24 #[.int .i64 0, .slice none 0 0] :: Ow.box b_2 24 #[.int .i64 r0_1, v_2] :: Ow.own 46 2 e_api_Branch v_2 (t_1_1 ++ ([r0_2] : List T_api_Branch)) :: Ow.own 9 1 encT v_1 (splitS s1 ([32] : Str)) :: fr) h_13 := hS.perm2 [2, 3, 4, 5] 6 rfl rfl
   rw [hKe_1] at hM
   exact ⟨(t_1_1 ++ ([r0_2] : List T_api_Branch), n_1 + 1), ⟨F_3, v_2, rfl, rfl, rfl, rfl, rfl, rfl, rfl, rfl, hK, hS, hG_0, hE_gvS, hG_1, hE_gvR, hG_2, hG_5, hE_1, hM.1⟩, hM.2⟩
 ·
  replace hM := hM.2 (of_decide_eq_false c_1)
  refine HW.exit (thenQ_exit (thenQ_exit (blockQ_exit (thenQ_normal (?_)))))
  refine HW.seq ?_
  refine HW.seq_mid (fun f h => ∃ (F' : Fz) (b_5 : Bool), f 2 = .pointer (some ⟨b_1, 0, none⟩) ∧ f 3 = .int .i64 0 ∧ f 7 = .pointer (some ⟨b_2, 0, none⟩) ∧ f 57 = .bool b_5 ∧ Kp F h0 F' h ∧ St F' (Ow.box b_1 24 #[.int .i64 0, .slice none 0 0] :: Ow.box b_2 24 #[.int .i64 r0_1, vt_1_1] :: Ow.own 46 2 e_api_Branch vt_1_1 t_1_1 :: fr) h ∧ (RoF (Ow.box 0 53 #[gvS]) F' h) ∧ (ErrF gbS gvS F' h) ∧ (RoF (Ow.box 1 53 #[gvR]) F' h) ∧ (ErrF gbR gvR F' h) ∧ (RoF (Ow.box 2 3 #[.int .i64 gm]) F' h) ∧ (RoF (Ow.box 5 163 (tab10 ()).toArray) F' h) ∧ (ErrF r1_2 vr1_1 F' h) ∧ tree_Parse_j1 Q r0_1 t_1_1 b_5) ?_ ?_
  ·
   refine HW.region ?_
   refine oM (vr1_1) rfl rfl ?_
   refine oV (.bool r1_2) ((q_ifNil (op := .neq) (b := r1_2) (by simp) Tryz.underlying53 hE_1.is rfl)) rfl ?_
   refine oM (.bool r1_2) rfl rfl ?_
   rcases Bool.eq_false_or_eq_true r1_2 with c_3 | c_3
   ·
    replace hM := hM.1 c_3
    refine HO.past (past_by rfl rfl c_3) rfl ?_
    refine HO.past (past_by rfl rfl c_3) rfl ?_
    refine HO.past (past_by rfl rfl c_3) rfl ?_
    refine oV (.bool true) (q_pickK true rfl c_3 rfl) rfl ?_
    refine oM (.bool true) rfl rfl ?_
    refine HO.past (past_some rfl rfl) rfl ?_
    refine HO.past (past_some rfl rfl) rfl ?_
    refine HO.past (past_some rfl rfl) rfl ?_
    refine HO.past (past_some rfl rfl) rfl ?_
    refine oV (.bool true) (q_pick rfl rfl) rfl ?_
    refine HO.nil (thenQ_normal (?_))
    replace hS : St F_2 (Ow.box b_1 24 #[.int .i64 0, .slice none 0 0] :: Ow.box b_2 24 #[.int .i64 r0_1, vt_1_1] :: Ow.own 46 2 e_api_Branch vt_1_1 t_1_1 :: fr) h_6 := hS.perm2 [0, 1, 2] 4 rfl rfl
    exact ⟨F_2, true, rfl, rfl, rfl, rfl, hK, hS, hG_0, hE_gvS, hG_1, hE_gvR, hG_2, hG_5, hE_1, hM⟩
   ·
    replace hM := hM.2 c_3
    refine HO.val (v := .agg #[.int .i64 r0_1, vt_1_1]) (want_by rfl rfl c_3) rfl (q_loadAgg (cs := [.int .i64 r0_1, vt_1_1]) ta_24 rfl rfl (Blk.cells (k := 2) (hS.box 1 rfl) rfl)) ?_
    replace hS : St F_2 (Ow.own 46 2 e_api_Branch vt_1_1 t_1_1 :: Ow.box b_1 24 #[.int .i64 0, .slice none 0 0] :: Ow.box b_2 24 #[.int .i64 r0_1, vt_1_1] :: Ow.own 9 1 encT v_1 (splitS s1 ([32] : Str)) :: fr) h_6 := hS.perm2 [2, 0, 1, 3] 4 rfl rfl
    have hZ_1 := hS
    have hkz_1 := (hS.freeze).2
    replace hS := hS.freeze.1
    have hL_1 : SliceF (fun bz_ => F_2 bz_ ∨ (Ow.own 46 2 e_api_Branch vt_1_1 t_1_1).foot bz_) h_6 2 e_api_Branch vt_1_1 t_1_1 := ⟨(hZ_1.own 0 rfl).slice, fun _ b hb => .inr hb⟩
    refine HO.call (want_by rfl rfl c_3) rfl (ec en_45 rfl rfl) (tree_good_walk (fr := (Ow.box b_1 24 #[.int .i64 0, .slice none 0 0] :: Ow.box b_2 24 #[.int .i64 r0_1, vt_1_1] :: Ow.own 9 1 encT v_1 (splitS s1 ([32] : Str)) :: fr)) r0_1 t_1_1 vt_1_1 hS hL_1 hM) ?_
    rintro _ h_14 ⟨F_4, r_1, rfl, hk, hS, _, hM⟩
    obtain ⟨hS, hk⟩ := hZ_1.back hk hS
    generalize (fun bz_ => F_4 bz_ ∧ ¬ (Ow.own 46 2 e_api_Branch vt_1_1 t_1_1).foot bz_) = F_5 at hS hk
    replace hK := hK.trans hk
    replace hG_0 := hG_0.kp hk
    replace hE_gvS := hE_gvS.kp hk
    replace hG_1 := hG_1.kp hk
    replace hE_gvR := hE_gvR.kp hk
    replace hG_2 := hG_2.kp hk
    replace hG_5 := hG_5.kp hk
    replace hE_1 := hE_1.kp hk
    refine HO.val (v := .bool (!r_1)) (want_by rfl rfl c_3) rfl (q_not rfl) ?_
    refine oV (.bool (!r_1)) (q_pickK false rfl c_3 rfl) rfl ?_
    refine oM (.bool (!r_1)) rfl rfl ?_
    rcases Bool.eq_false_or_eq_true (!r_1) with c_4 | c_4
    ·
     replace hM := hM.1 c_4
     refine HO.past (past_by rfl rfl c_4) rfl ?_
     refine HO.past (past_by rfl rfl c_4) rfl ?_
     refine HO.past (past_by rfl rfl c_4) rfl ?_
     refine HO.past (past_by rfl rfl c_4) rfl ?_
     refine oV (.bool true) (q_pickK true rfl c_4 rfl) rfl ?_
     refine HO.nil (thenQ_normal (?_))
     replace hS : St F_5 (Ow.box b_1 24 #[.int .i64 0, .slice none 0 0] :: Ow.box b_2 24 #[.int .i64 r0_1, vt_1_1] :: Ow.own 46 2 e_api_Branch vt_1_1 t_1_1 :: fr) h_14 := hS.perm2 [1, 2, 0] 4 rfl rfl
     exact ⟨F_5, true, rfl, rfl, rfl, rfl, hK, hS, hG_0, hE_gvS, hG_1, hE_gvR, hG_2, hG_5, hE_1, hM⟩
    ·
     replace hM := hM.2 c_4
     refine HO.val (v := .agg #[.int .i64 r0_1, vt_1_1]) (want_by rfl rfl c_4) rfl (q_loadAgg (cs := [.int .i64 r0_1, vt_1_1]) ta_24 rfl rfl (Blk.cells (k := 2) (hS.box 2 rfl) rfl)) ?_
     have hZ_2 := hS
     have hkz_2 := (hS.freeze).2
     replace hS := hS.freeze.1
     have hL_2 : SliceF (fun bz_ => F_5 bz_ ∨ (Ow.own 46 2 e_api_Branch vt_1_1 t_1_1).foot bz_) h_14 2 e_api_Branch vt_1_1 t_1_1 := ⟨(hZ_2.own 0 rfl).slice, fun _ b hb => .inr hb⟩
     refine HO.call (want_by rfl rfl c_4) rfl (ec en_46 rfl rfl) (tree_text_walk (fr := (Ow.box b_1 24 #[.int .i64 0, .slice none 0 0] :: Ow.box b_2 24 #[.int .i64 r0_1, vt_1_1] :: Ow.own 9 1 encT v_1 (splitS s1 ([32] : Str)) :: fr)) r0_1 t_1_1 vt_1_1 hS hL_2 (hG_5.kp hkz_2) hD hM) ?_
     rintro _ h_15 ⟨F_6, r_2, rfl, hk, hS, _, _, hM⟩
     obtain ⟨hS, hk⟩ := hZ_2.back hk hS
     generalize (fun bz_ => F_6 bz_ ∧ ¬ (Ow.own 46 2 e_api_Branch vt_1_1 t_1_1).foot bz_) = F_7 at hS hk
     replace hK := hK.trans hk
     replace hG_0 := hG_0.kp hk
     replace hE_gvS := hE_gvS.kp hk
     replace hG_1 := hG_1.kp hk
     replace hE_gvR := hE_gvR.kp hk
     replace hG_2 := hG_2.kp hk
     replace hG_5 := hG_5.kp hk
     replace hE_1 := hE_1.kp hk
     refine HO.val (v := .string (bs s1)) (want_by rfl rfl c_4) rfl (q_move rfl) ?_
     refine HO.val (v := .bool (!decide ((r_2 : Str) = s1))) (want_by rfl rfl c_4) rfl (q_neqT rfl rfl) ?_
     refine oV (.bool (!decide ((r_2 : Str) = s1))) (q_pickK false rfl c_4 rfl) rfl ?_
     refine HO.nil (thenQ_normal (?_))
     replace hS : St F_7 (Ow.box b_1 24 #[.int .i64 0, .slice none 0 0] :: Ow.box b_2 24 #[.int .i64 r0_1, vt_1_1] :: Ow.own 46 2 e_api_Branch vt_1_1 t_1_1 :: fr) h_15 := hS.perm2 [1, 2, 0] 4 rfl rfl
     exact ⟨F_7, !decide ((r_2 : Str) = s1), rfl, rfl, rfl, rfl, hK, hS, hG_0, hE_gvS, hG_1, hE_gvR, hG_2, hG_5, hE_1, hM⟩
  ·
   rintro f_2 h_16 ⟨F_8, b_5, e2, e3, e7, e57, hK, hS, hG_0, hE_gvS, hG_1, hE_gvR, hG_2, hG_5, hE_1, hM⟩
   unfold tree_Parse_j1 at hM
   refine HW.fr [(2, .pointer (some ⟨b_1, 0, none⟩)), (3, .int .i64 0), (7, .pointer (some ⟨b_2, 0, none⟩)), (57, .bool b_5)] ⟨e2, e3, e7, e57, trivial⟩ ?_
   refine HW.cond b_5 rfl (fun c_5 => ?_) (fun c_5 => ?_)
   ·
    replace hM := hM.1 c_5
    refine HW.seq ?_
    refine HW.region ?_
    refine oV (.agg #[.int .i64 0, .slice none 0 0]) (q_build tp_24 rfl) rfl ?_
    refine HO.sto (want_none) rfl (st_storeAgg (c' := #[.int .i64 0, .slice none 0 0]) hS (i := 0) rfl ta_24 rfl rfl rfl (by simp [Value.oneCell']) (Nat.le_of_ble_eq_true rfl) rfl) ?_
    rintro h_17 ⟨hS, hk⟩
    replace hS : St F_8 (Ow.box b_1 24 #[.int .i64 0, .slice none 0 0] :: Ow.box b_2 24 #[.int .i64 r0_1, vt_1_1] :: Ow.own 46 2 e_api_Branch vt_1_1 t_1_1 :: fr) h_17 := hS
    replace hK := hK.trans hk
    replace hG_0 := hG_0.kp hk
    replace hE_gvS := hE_gvS.kp hk
    replace hG_1 := hG_1.kp hk
    replace hE_gvR := hE_gvR.kp hk
    replace hG_2 := hG_2.kp hk
    replace hG_5 := hG_5.kp hk
    refine oA (.int .i64 2) rfl rfl ?_
    refine HO.nil (thenQ_normal (?_))
    refine HW.ret (thenQ_ret (?_))
    refine ⟨.inr rfl, .tuple #[.agg #[.int .i64 0, .slice none 0 0], .int .i64 2], res2 rfl (rca (cs := [.int .i64 0, .slice none 0 0]) ta_24 rfl rfl (Blk.cells (k := 2) (hS.box 0 rfl) rfl)) (rt rfl), ?_⟩
    replace hS := hS.nilOwn 46 2 e_api_Branch
    replace hS : St F_8 (Ow.own 46 2 e_api_Branch (.slice none 0 0) ([] : List T_api_Branch) :: fr) h_17 := hS.perm2 [0] 4 rfl rfl
    exact ⟨F_8, 0, [], 2, .slice none 0 0, rfl, hK, hS, hG_0, hE_gvS, hG_1, hE_gvR, hG_2, hG_5, hM⟩
   ·
    replace hM := hM.2 c_5
    refine HW.skip (thenQ_normal (?_))
    refine HW.seq ?_
    refine HW.region ?_
    refine oV (.agg #[.int .i64 r0_1, vt_1_1]) (q_loadAgg (cs := [.int .i64 r0_1, vt_1_1]) ta_24 rfl rfl (Blk.cells (k := 2) (hS.box 1 rfl) rfl)) rfl ?_
    refine HO.sto (want_none) rfl (st_storeAgg (c' := #[.int .i64 r0_1, vt_1_1]) hS (i := 0) rfl ta_24 rfl rfl rfl (List.forall_mem_cons.2 ⟨rfl, (List.forall_mem_cons.2 ⟨(shp (hS.own 2 rfl).slice).one, (fun _ h => by cases h)⟩)⟩) (Nat.le_of_ble_eq_true rfl) rfl) ?_
    rintro h_18 ⟨hS, hk⟩
    replace hS : St F_8 (Ow.box b_1 24 #[.int .i64 r0_1, vt_1_1] :: Ow.box b_2 24 #[.int .i64 r0_1, vt_1_1] :: Ow.own 46 2 e_api_Branch vt_1_1 t_1_1 :: fr) h_18 := hS
    replace hK := hK.trans hk
    replace hG_0 := hG_0.kp hk
    replace hE_gvS := hE_gvS.kp hk
    replace hG_1 := hG_1.kp hk
    replace hE_gvR := hE_gvR.kp hk
    replace hG_2 := hG_2.kp hk
    replace hG_5 := hG_5.kp hk
    refine oA (.int .i64 0) rfl rfl ?_
    refine HO.nil (thenQ_normal (?_))
    refine HW.ret (?_)
    refine ⟨.inr rfl, .tuple #[.agg #[.int .i64 r0_1, vt_1_1], .int .i64 0], res2 rfl (rca (cs := [.int .i64 r0_1, vt_1_1]) ta_24 rfl rfl (Blk.cells (k := 2) (hS.box 0 rfl) rfl)) (rt rfl), ?_⟩
    replace hS : St F_8 (Ow.own 46 2 e_api_Branch vt_1_1 t_1_1 :: fr) h_18 := hS.perm2 [2] 3 rfl rfl
    exact ⟨F_8, r0_1, t_1_1, 0, vt_1_1, rfl, hK, hS, hG_0, hE_gvS, hG_1, hE_gvR, hG_2, hG_5, hM⟩

def tree_Depth_l2 (r_3 : List (Int × Value × List Int)) (r_5 : List Int) (n_1 : Int) (K_1 : (List (Int × Int)) → Int → Int → Prop) (K_2 : (List (Int × Int)) → Int → Int → Prop) (deep_2 : List (Int × Int)) (most_2 : Int) (n_2 : Int) : Prop :=
 (n_2 < (((bagAt r_3 (gi r_5 n_1)).2).length : Int) → ((0 : Int) ≤ n_2 ∧ n_2 < (((bagAt r_3 (gi r_5 n_1)).2).length : Int)) ∧ ((I64 ((mget0 deep_2 (gi r_5 n_1)) + 1)) ∧ ((I64 (n_2 + 1)) ∧ (K_2 (mset deep_2 (gi ((bagAt r_3 (gi r_5 n_1)).2) n_2) ((mget0 deep_2 (gi r_5 n_1)) + 1)) (max most_2 (mget0 (mset deep_2 (gi ((bagAt r_3 (gi r_5 n_1)).2) n_2) ((mget0 deep_2 (gi r_5 n_1)) + 1)) (gi ((bagAt r_3 (gi r_5 n_1)).2) n_2))) (n_2 + 1))))) ∧ (¬ (n_2 < (((bagAt r_3 (gi r_5 n_1)).2).length : Int)) → (I64 (n_1 + 1)) ∧ (K_1 deep_2 most_2 (n_1 + 1)))
def tree_Depth_l1 (Q : Int → Prop) (r_3 : List (Int × Value × List Int)) (r_5 : List Int) (K_1 : (List (Int × Int)) → Int → Int → Prop) (deep_1 : List (Int × Int)) (most_1 : Int) (n_1 : Int) : Prop :=
 (n_1 < (r_5.length : Int) → ((0 : Int) ≤ n_1 ∧ n_1 < (r_5.length : Int)) ∧ (loopW (fun (K_2 : ((List (Int × Int)) × Int × Int) → Prop) (s : (List (Int × Int)) × Int × Int) => tree_Depth_l2 r_3 r_5 n_1 K_1 (fun deep_2 most_2 n_2 => K_2 (deep_2, most_2, n_2)) s.1 s.2.1 s.2.2) (deep_1, most_1, 0))) ∧ (¬ (n_1 < (r_5.length : Int)) → Q most_1)
def tree_Depth_W (t_Root : Int) (t_Links : List T_api_Branch) (Q : Int → Prop) : Prop :=
 tree_nexts_W t_Root t_Links (fun r_3 => tree_walk_W t_Root t_Links t_Root (fun r_5 => loopW (fun (K_1 : ((List (Int × Int)) × Int × Int) → Prop) (s : (List (Int × Int)) × Int × Int) => tree_Depth_l1 Q r_3 r_5 (fun deep_1 most_1 n_1 => K_1 (deep_1, most_1, n_1)) s.1 s.2.1 s.2.2) ([], 0, 0)))
set_option maxHeartbeats 40000000 in
set_option maxRecDepth 100000 in
theorem tree_Depth_walk {F : Fz} {fr : List Ow} {h0 : Heap} (t_Root : Int) (t_Links : List T_api_Branch) (vt_Links : Value) (hS : St F (fr) h0) (hL_t_Links : SliceF F h0 2 e_api_Branch vt_Links t_Links) {Q : Int → Prop} (hM : tree_Depth_W t_Root t_Links Q) :
  HC Tryz.prog 29 #[.agg #[.int .i64 t_Root, vt_Links]] h0 fun u h' => ∃ (F' : Fz) (r_1 : Int), u = .int .i64 r_1 ∧ Kp F h0 F' h' ∧ St F' (fr) h' ∧ (SliceF F' h' 2 e_api_Branch vt_Links t_Links) ∧ Q r_1 := by
 unfold tree_Depth_W at hM
 have hK := Kp.refl F h0
 refine HC.of_HW (n := 44) Tryz.func29 rfl rfl (Nat.le_of_ble_eq_true rfl) ?_
 refine HW.seq ?_
 refine HW.region ?_
 refine HO.eff (want_none) rfl (st_box (c := #[.int .i64 t_Root, vt_Links]) (k' := 2) hS rfl rfl) ?_
 rintro _ h_1 ⟨b_1, rfl, hS, hk⟩
 replace hK := hK.trans hk
 replace hL_t_Links := hL_t_Links.kp hk
 refine oA (.int .i64 0) rfl rfl ?_
 refine HO.nil (thenQ_normal (?_))
 refine HW.seq ?_
 refine HW.region ?_
 refine HO.eff (want_none) rfl (st_makeMap (κ := Int) (ν := Int) kI kI hS) ?_
 rintro _ h_2 ⟨r_2, rfl, hS, hk⟩
 replace hK := hK.trans hk
 replace hL_t_Links := hL_t_Links.kp hk
 refine oA (.map (some r_2)) rfl rfl ?_
 refine HO.nil (thenQ_normal (?_))
 refine HW.seq ?_
 refine HW.region ?_
 refine oA (.int .i64 0) rfl rfl ?_
 refine HO.nil (thenQ_normal (?_))
 refine HW.seq ?_
 refine HW.region ?_
 refine oV (.agg #[.int .i64 t_Root, vt_Links]) (q_loadAgg (cs := [.int .i64 t_Root, vt_Links]) ta_24 rfl rfl (Blk.cells (k := 2) (hS.box 1 rfl) rfl)) rfl ?_
 refine HO.call (want_none) rfl (ec en_54 rfl rfl) (tree_nexts_walk (fr := (Ow.map r_2 kI kI ([] : List (Int × Int)) :: Ow.box b_1 24 #[.int .i64 t_Root, vt_Links] :: fr)) t_Root t_Links vt_Links hS hL_t_Links hM) ?_
 rintro _ h_3 ⟨F_1, r_3, r_4, rfl, hk, hS, _, hM⟩
 replace hK := hK.trans hk
 replace hL_t_Links := hL_t_Links.kp hk
 obtain ⟨F_2, hS, hk, hN_1⟩ := hS.bagOpen
 replace hK := hK.trans hk
 replace hL_t_Links := hL_t_Links.kp hk
 refine oA (.map (some r_4)) rfl rfl ?_
 refine HO.nil (thenQ_normal (?_))
 refine HW.seq ?_
 refine HW.seq ?_
 refine HW.region ?_
 refine oV (.agg #[.int .i64 t_Root, vt_Links]) (q_loadAgg (cs := [.int .i64 t_Root, vt_Links]) ta_24 rfl rfl (Blk.cells (k := 2) (hS.box 2 rfl) rfl)) rfl ?_
 refine oV (.pointer (some ⟨b_1, 0, none⟩)) (q_fieldAddr fa_24_0 rfl rfl) rfl ?_
 refine oV (.int .i64 t_Root) (q_load to_3 rfl (Blk.cell (hS.box 2 rfl) rfl)) rfl ?_
 refine HO.call (want_none) rfl (ec en_53 rfl rfl) (tree_walk_walk (fr := (Ow.map r_4 kI bagV r_3 :: Ow.map r_2 kI kI ([] : List (Int × Int)) :: Ow.box b_1 24 #[.int .i64 t_Root, vt_Links] :: fr)) t_Root t_Links t_Root vt_Links hS hL_t_Links hM) ?_
 rintro vr_1 h_4 ⟨F_3, r_5, _, rfl, hk, hS, _, hM⟩
 replace hK := hK.trans hk
 replace hL_t_Links := hL_t_Links.kp hk
 replace hN_1 := hN_1.kp hk
 refine oV (.int .i64 (r_5.length : Int)) (q_len ts_36 (shp (hS.own 0 rfl).slice) rfl rfl) rfl ?_
 refine oM (.int .i64 0) rfl rfl ?_
 refine HO.nil (thenQ_normal (?_))
 refine HW.block ?_
 obtain ⟨I_1, m_1, hI_1, hR_1⟩ := hM
 replace hS : St F_3 (Ow.map r_2 kI kI ([] : List (Int × Int)) :: Ow.map r_4 kI bagV r_3 :: Ow.own 3 1 encI vr_1 r_5 :: fr) h_4 := hS.perm2 [2, 1, 0] 4 rfl rfl
 refine HW.loop (S := (List (Int × Int)) × Int × Int) (fun s f h => match s with | (deep_1, most_1, n_1) => ∃ (F' : Fz), f 2 = .int .i64 0 ∧ f 3 = .map (some r_2) ∧ f 4 = .int .i64 most_1 ∧ f 5 = .map (some r_4) ∧ f 16 = vr_1 ∧ f 17 = .int .i64 (r_5.length : Int) ∧ f 18 = .int .i64 n_1 ∧ Kp F h0 F' h ∧ St F' (Ow.map r_2 kI kI deep_1 :: Ow.map r_4 kI bagV r_3 :: Ow.own 3 1 encI vr_1 r_5 :: fr) h ∧ (SliceF F' h 2 e_api_Branch vt_Links t_Links) ∧ (NfB 1 encI F' h r_3) ∧ I_1 (deep_1, most_1, n_1)) m_1 ([], 0, 0) ⟨F_3, rfl, rfl, rfl, rfl, rfl, rfl, rfl, hK, hS, hL_t_Links, hN_1, hI_1⟩ ?_
 rintro ⟨deep_1, most_1, n_1⟩ f_1 h_5 ⟨F_4, e2, e3, e4, e5, e16, e17, e18, hK, hS, hL_t_Links, hN_1, hI0⟩
 obtain ⟨K_1, hKe_1⟩ : ∃ K : (List (Int × Int)) → Int → Int → Prop, K = fun deep_1' most_1' n_1' => I_1 (deep_1', most_1', n_1') ∧ m_1 (deep_1', most_1', n_1') < m_1 (deep_1, most_1, n_1) := ⟨_, rfl⟩
 have hM : tree_Depth_l1 Q r_3 r_5 K_1 deep_1 most_1 n_1 := by rw [hKe_1]; exact hR_1 (deep_1, most_1, n_1) hI0
 unfold tree_Depth_l1 at hM
 refine HW.fr [(2, .int .i64 0), (3, .map (some r_2)), (4, .int .i64 most_1), (5, .map (some r_4)), (16, vr_1), (17, .int .i64 (r_5.length : Int)), (18, .int .i64 n_1)] ⟨e2, e3, e4, e5, e16, e17, e18, trivial⟩ ?_
 refine HW.seq ?_
 refine HW.region ?_
 refine oV (.bool (decide (n_1 < (r_5.length : Int)))) (q_lss rfl rfl) rfl ?_
 refine HO.nil (thenQ_normal (?_))
 refine HW.seq ?_
 refine HW.cond (decide (n_1 < (r_5.length : Int))) rfl (fun c_1 => ?_) (fun c_1 => ?_)
 ·
  replace hM := hM.1 (of_decide_eq_true c_1)
  refine HW.skip (thenQ_normal (?_))
  refine HW.seq ?_
  refine HW.block ?_
  refine HW.seq ?_
  refine HW.region ?_
  obtain ⟨ho_1, hM⟩ := hM
  refine oV (elemPtr 1 vr_1 (n_1).toNat) (q_idx ts_36 (hS.own 2 rfl).slice rfl rfl ho_1) rfl ?_
  refine oV (.int .i64 (gi r_5 n_1)) (q_ldElem to_3 (hS.own 2 rfl).slice rfl ho_1 rfl) rfl ?_
  refine oA (.int .i64 (gi r_5 n_1)) rfl rfl ?_
  refine HO.nil (thenQ_normal (?_))
  refine HW.seq ?_
  refine HW.region ?_
  refine oM (.map (some r_4)) rfl rfl ?_
  refine oM (.int .i64 (gi r_5 n_1)) rfl rfl ?_
  have hL_1 : SliceF F_4 h_5 1 encI ((bagAt r_3 (gi r_5 n_1)).1) ((bagAt r_3 (gi r_5 n_1)).2) := hN_1.at_ (gi r_5 n_1)
  refine oV ((bagAt r_3 (gi r_5 n_1)).1) ((q_lookup (k := (gi r_5 n_1)) ka_3 tmk_62 (hS.mp 1 rfl) rfl rfl).of_eq (bagAt_v _ _)) rfl ?_
  refine oV (.int .i64 (((bagAt r_3 (gi r_5 n_1)).2).length : Int)) (q_len ts_36 (shp hL_1.is) rfl rfl) rfl ?_
  refine oM (.int .i64 0) rfl rfl ?_
  refine HO.nil (thenQ_normal (?_))
  refine HW.block ?_
  obtain ⟨I_2, m_2, hI_2, hR_2⟩ := hM
  refine HW.loop (S := (List (Int × Int)) × Int × Int) (fun s f h => match s with | (deep_2, most_2, n_2) => ∃ (F' : Fz), f 2 = .int .i64 0 ∧ f 3 = .map (some r_2) ∧ f 4 = .int .i64 most_2 ∧ f 5 = .map (some r_4) ∧ f 7 = .int .i64 (gi r_5 n_1) ∧ f 16 = vr_1 ∧ f 17 = .int .i64 (r_5.length : Int) ∧ f 18 = .int .i64 n_1 ∧ f 24 = (bagAt r_3 (gi r_5 n_1)).1 ∧ f 25 = .int .i64 (((bagAt r_3 (gi r_5 n_1)).2).length : Int) ∧ f 26 = .int .i64 n_2 ∧ Kp F h0 F' h ∧ St F' (Ow.map r_2 kI kI deep_2 :: Ow.map r_4 kI bagV r_3 :: Ow.own 3 1 encI vr_1 r_5 :: fr) h ∧ (SliceF F' h 2 e_api_Branch vt_Links t_Links) ∧ (NfB 1 encI F' h r_3) ∧ (SliceF F' h 1 encI ((bagAt r_3 (gi r_5 n_1)).1) ((bagAt r_3 (gi r_5 n_1)).2)) ∧ I_2 (deep_2, most_2, n_2)) m_2 (deep_1, most_1, 0) ⟨F_4, rfl, rfl, rfl, rfl, rfl, rfl, rfl, rfl, rfl, rfl, rfl, hK, hS, hL_t_Links, hN_1, hL_1, hI_2⟩ ?_
  rintro ⟨deep_2, most_2, n_2⟩ f_2 h_6 ⟨F_5, e2, e3, e4, e5, e7, e16, e17, e18, e24, e25, e26, hK, hS, hL_t_Links, hN_1, hL_1, hI0⟩
  obtain ⟨K_2, hKe_2⟩ : ∃ K : (List (Int × Int)) → Int → Int → Prop, K = fun deep_2' most_2' n_2' => I_2 (deep_2', most_2', n_2') ∧ m_2 (deep_2', most_2', n_2') < m_2 (deep_2, most_2, n_2) := ⟨_, rfl⟩
  have hM : tree_Depth_l2 r_3 r_5 n_1 K_1 K_2 deep_2 most_2 n_2 := by rw [hKe_2]; exact hR_2 (deep_2, most_2, n_2) hI0
  unfold tree_Depth_l2 at hM
  refine HW.fr [(2, .int .i64 0), (3, .map (some r_2)), (4, .int .i64 most_2), (5, .map (some r_4)), (7, .int .i64 (gi r_5 n_1)), (16, vr_1), (17, .int .i64 (r_5.length : Int)), (18, .int .i64 n_1), (24, (bagAt r_3 (gi r_5 n_1)).1), (25, .int .i64 (((bagAt r_3 (gi r_5 n_1)).2).length : Int)), (26, .int .i64 n_2)] ⟨e2, e3, e4, e5, e7, e16, e17, e18, e24, e25, e26, trivial⟩ ?_
  refine HW.seq ?_
  refine HW.region ?_
  refine oV (.bool (decide (n_2 < (((bagAt r_3 (gi r_5 n_1)).2).length : Int)))) (q_lss rfl rfl) rfl ?_
  refine HO.nil (thenQ_normal (?_))
  refine HW.seq ?_
  refine HW.cond (decide (n_2 < (((bagAt r_3 (gi r_5 n_1)).2).length : Int))) rfl (fun c_2 => ?_) (fun c_2 => ?_)
  ·
   replace hM := hM.1 (of_decide_eq_true c_2)
   refine HW.skip (thenQ_normal (?_))
   refine HW.seq ?_
   refine HW.block ?_
   refine HW.seq ?_
   refine HW.region ?_
   obtain ⟨ho_2, hM⟩ := hM
   refine oV (elemPtr 1 ((bagAt r_3 (gi r_5 n_1)).1) (n_2).toNat) (q_idx ts_36 hL_1.is rfl rfl ho_2) rfl ?_
   refine oV (.int .i64 (gi ((bagAt r_3 (gi r_5 n_1)).2) n_2)) (q_ldElem to_3 hL_1.is rfl ho_2 rfl) rfl ?_
   refine oA (.int .i64 (gi ((bagAt r_3 (gi r_5 n_1)).2) n_2)) rfl rfl ?_
   refine HO.nil (thenQ_normal (?_))
   refine HW.seq ?_
   refine HW.region ?_
   refine oM (.map (some r_2)) rfl rfl ?_
   refine oM (.int .i64 (gi ((bagAt r_3 (gi r_5 n_1)).2) n_2)) rfl rfl ?_
   refine oM (.map (some r_2)) rfl rfl ?_
   refine oM (.int .i64 (gi r_5 n_1)) rfl rfl ?_
   refine oV (.int .i64 (mget0 deep_2 (gi r_5 n_1))) ((q_lookup (k := (gi r_5 n_1)) ka_3 tmk_64 (hS.mp 0 rfl) rfl rfl).of_eq (mval0 (z := .int .i64 0) rfl)) rfl ?_
   obtain ⟨ho_3, hM⟩ := hM
   refine oV (.int .i64 ((mget0 deep_2 (gi r_5 n_1)) + 1)) (q_addN _ rfl rfl rfl ho_3.1 ho_3.2) rfl ?_
   refine HO.sto (want_none) rfl (st_mapUpdateK (k := (gi ((bagAt r_3 (gi r_5 n_1)).2) n_2)) (v := (mget0 deep_2 (gi r_5 n_1)) + 1) hS (i := 0) rfl ka_3 tmk_64 rfl rfl rfl) ?_
   rintro h_7 ⟨hS, hk⟩
   replace hS : St F_5 (Ow.map r_2 kI kI (mset deep_2 (gi ((bagAt r_3 (gi r_5 n_1)).2) n_2) ((mget0 deep_2 (gi r_5 n_1)) + 1)) :: Ow.map r_4 kI bagV r_3 :: Ow.own 3 1 encI vr_1 r_5 :: fr) h_7 := hS
   replace hK := hK.trans hk
   replace hL_t_Links := hL_t_Links.kp hk
   replace hN_1 := hN_1.kp hk
   replace hL_1 := hL_1.kp hk
   refine HO.nil (thenQ_normal (?_))
   refine HW.region ?_
   refine oM (.int .i64 most_2) rfl rfl ?_
   refine oM (.map (some r_2)) rfl rfl ?_
   refine oM (.int .i64 (gi ((bagAt r_3 (gi r_5 n_1)).2) n_2)) rfl rfl ?_
   refine oV (.int .i64 (mget0 (mset deep_2 (gi ((bagAt r_3 (gi r_5 n_1)).2) n_2) ((mget0 deep_2 (gi r_5 n_1)) + 1)) (gi ((bagAt r_3 (gi r_5 n_1)).2) n_2))) ((q_lookup (k := (gi ((bagAt r_3 (gi r_5 n_1)).2) n_2)) ka_3 tmk_64 (hS.mp 0 rfl) rfl rfl).of_eq (mval0 (z := .int .i64 0) rfl)) rfl ?_
   refine oV (.int .i64 (max most_2 (mget0 (mset deep_2 (gi ((bagAt r_3 (gi r_5 n_1)).2) n_2) ((mget0 deep_2 (gi r_5 n_1)) + 1)) (gi ((bagAt r_3 (gi r_5 n_1)).2) n_2)))) (q_max rfl rfl) rfl ?_
   refine oA (.int .i64 (max most_2 (mget0 (mset deep_2 (gi ((bagAt r_3 (gi r_5 n_1)).2) n_2) ((mget0 deep_2 (gi r_5 n_1)) + 1)) (gi ((bagAt r_3 (gi r_5 n_1)).2) n_2)))) rfl rfl ?_
   refine HO.nil (blockQ_normal (thenQ_normal (?_)))
   refine HW.region ?_
   obtain ⟨ho_4, hM⟩ := hM
   refine oV (.int .i64 (n_2 + 1)) (q_addN _ rfl rfl rfl ho_4.1 ho_4.2) rfl ?_
   refine oM (.int .i64 (n_2 + 1)) rfl rfl ?_
   refine HO.nil (thenQ_normal (?_))
   rw [hKe_2] at hM
   exact ⟨(mset deep_2 (gi ((bagAt r_3 (gi r_5 n_1)).2) n_2) ((mget0 deep_2 (gi r_5 n_1)) + 1), max most_2 (mget0 (mset deep_2 (gi ((bagAt r_3 (gi r_5 n_1)).2) n_2) ((mget0 deep_2 (gi r_5 n_1)) + 1)) (gi ((bagAt r_3 (gi r_5 n_1)).2) n_2)), n_2 + 1), ⟨F_5, rfl, rfl, rfl, rfl, rfl, rfl, rfl, rfl, rfl, rfl, rfl, hK, hS, hL_t_Links, hN_1, hL_1, hM.1⟩, hM.2⟩
  ·
   replace hM := hM.2 (of_decide_eq_false c_2)
   refine HW.exit (thenQ_exit (thenQ_exit (blockQ_exit (blockQ_normal (thenQ_normal (?_))))))
   refine HW.region ?_
   obtain ⟨ho_5, hM⟩ := hM
   refine oV (.int .i64 (n_1 + 1)) (q_addN _ rfl rfl rfl ho_5.1 ho_5.2) rfl ?_
   refine oM (.int .i64 (n_1 + 1)) rfl rfl ?_
   refine HO.nil (thenQ_normal (?_))
   rw [hKe_1] at hM
   exact ⟨(deep_2, most_2, n_1 + 1), ⟨F_5, rfl, rfl, rfl, rfl, rfl, rfl, rfl, hK, hS, hL_t_Links, hN_1, hM.1⟩, hM.2⟩
 ·
  replace hM := hM.2 (of_decide_eq_false c_1)
  refine HW.exit (thenQ_exit (thenQ_exit (blockQ_exit (thenQ_normal (?_)))))
  refine HW.seq ?_
  refine HW.region ?_
  refine oM (.int .i64 most_1) rfl rfl ?_
  refine oA (.int .i64 most_1) rfl rfl ?_
  refine HO.nil (thenQ_normal (?_))
  refine HW.ret (?_)
  refine ⟨.inr rfl, .int .i64 most_1, res1 rfl (rt rfl), ?_⟩
  replace hS : St F_4 (fr) h_5 := hS.perm2 [] 3 rfl rfl
  exact ⟨F_4, most_1, rfl, hK, hS, hL_t_Links, hM⟩

def tree_Leaves_1_W (n : Int) (c0_Root : Int) (c0_Links : List T_api_Branch) (c1_v : List (Int × Value × List Int)) (Q : Bool → Prop) : Prop :=
 (n = c0_Root → Q true) ∧ (¬ (n = c0_Root) → Q (decide (0 < (((bagAt c1_v n).2).length : Int))))
set_option maxHeartbeats 40000000 in
set_option maxRecDepth 100000 in
theorem tree_Leaves_1_walk {F : Fz} {fr : List Ow} {h0 : Heap} (n : Int) (c0_Root : Int) (c0_Links : List T_api_Branch) (c1_v : List (Int × Value × List Int)) (bc0 : Nat) (vc0_Links : Value) (bc1 : Nat) (rc1_v : Nat) (hS : St F (fr) h0) (hL_c0_Links : SliceF F h0 2 e_api_Branch vc0_Links c0_Links) (hB_bc0 : RoF (Ow.box bc0 24 #[.int .i64 c0_Root, vc0_Links]) F h0) (hM_rc1_v : RoF (Ow.map rc1_v kI bagV c1_v) F h0) (hN_c1_v : NfB 1 encI F h0 c1_v) (hB_bc1 : RoF (Ow.box bc1 62 #[.map (some rc1_v)]) F h0) {Q : Bool → Prop} (hM : tree_Leaves_1_W n c0_Root c0_Links c1_v Q) :
  HC Tryz.prog 57 #[.int .i64 n, .pointer (some ⟨bc0, 0, none⟩), .pointer (some ⟨bc1, 0, none⟩)] h0 fun u h' => ∃ (F' : Fz) (r_1 : Bool), u = .bool r_1 ∧ Kp F h0 F' h' ∧ St F' (fr) h' ∧ (SliceF F' h' 2 e_api_Branch vc0_Links c0_Links) ∧ (RoF (Ow.box bc0 24 #[.int .i64 c0_Root, vc0_Links]) F' h') ∧ (RoF (Ow.map rc1_v kI bagV c1_v) F' h') ∧ (NfB 1 encI F' h' c1_v) ∧ (RoF (Ow.box bc1 62 #[.map (some rc1_v)]) F' h') ∧ Q r_1 := by
 unfold tree_Leaves_1_W at hM
 have hK := Kp.refl F h0
 refine HC.of_HW (n := 16) Tryz.func57 rfl rfl (Nat.le_of_ble_eq_true rfl) ?_
 refine HW.seq ?_
 refine HW.region ?_
 refine oA (.bool false) rfl rfl ?_
 refine HO.nil (thenQ_normal (?_))
 refine HW.seq ?_
 refine HW.region ?_
 refine oM (.int .i64 n) rfl rfl ?_
 refine oV (.pointer (some ⟨bc0, 0, none⟩)) (q_fieldAddr fa_24_0 rfl rfl) rfl ?_
 refine oV (.int .i64 c0_Root) (q_load to_3 rfl (Blk.cell hB_bc0.box rfl)) rfl ?_
 refine oV (.bool (decide (n = c0_Root))) (q_eql rfl rfl) rfl ?_
 refine oM (.bool (decide (n = c0_Root))) rfl rfl ?_
 rcases Bool.eq_false_or_eq_true (decide (n = c0_Root)) with c_1 | c_1
 ·
  replace hM := hM.1 (of_decide_eq_true c_1)
  refine HO.past (past_by rfl rfl c_1) rfl ?_
  refine HO.past (past_by rfl rfl c_1) rfl ?_
  refine HO.past (past_by rfl rfl c_1) rfl ?_
  refine HO.past (past_by rfl rfl c_1) rfl ?_
  refine HO.past (past_by rfl rfl c_1) rfl ?_
  refine oV (.bool true) (q_pickK true rfl c_1 rfl) rfl ?_
  refine oA (.bool true) rfl rfl ?_
  refine HO.nil (thenQ_normal (?_))
  refine HW.ret (?_)
  refine ⟨.inr rfl, .bool true, res1 rfl (rt rfl), ?_⟩
  exact ⟨F, true, rfl, hK, hS, hL_c0_Links, hB_bc0, hM_rc1_v, hN_c1_v, hB_bc1, hM⟩
 ·
  replace hM := hM.2 (of_decide_eq_false c_1)
  refine HO.val (v := .map (some rc1_v)) (want_by rfl rfl c_1) rfl (q_load to_62 rfl (Blk.cell hB_bc1.box rfl)) ?_
  refine HO.val (v := .int .i64 n) (want_by rfl rfl c_1) rfl (q_move rfl) ?_
  have hL_1 : SliceF F h0 1 encI ((bagAt c1_v n).1) ((bagAt c1_v n).2) := hN_c1_v.at_ n
  refine HO.val (v := (bagAt c1_v n).1) (want_by rfl rfl c_1) rfl ((q_lookup (k := n) ka_3 tmk_62 hM_rc1_v.mp rfl rfl).of_eq (bagAt_v _ _)) ?_
  refine HO.val (v := .int .i64 (((bagAt c1_v n).2).length : Int)) (want_by rfl rfl c_1) rfl (q_len ts_36 (shp hL_1.is) rfl rfl) ?_
  refine HO.val (v := .bool (decide (0 < (((bagAt c1_v n).2).length : Int)))) (want_by rfl rfl c_1) rfl (q_gtr rfl rfl) ?_
  refine oV (.bool (decide (0 < (((bagAt c1_v n).2).length : Int)))) (q_pickK false rfl c_1 rfl) rfl ?_
  refine oA (.bool (decide (0 < (((bagAt c1_v n).2).length : Int)))) rfl rfl ?_
  refine HO.nil (thenQ_normal (?_))
  refine HW.ret (?_)
  refine ⟨.inr rfl, .bool (decide (0 < (((bagAt c1_v n).2).length : Int))), res1 rfl (rt rfl), ?_⟩
  exact ⟨F, decide (0 < (((bagAt c1_v n).2).length : Int)), rfl, hK, hS, hL_c0_Links, hB_bc0, hM_rc1_v, hN_c1_v, hB_bc1, hM⟩

def slices_IndexFunc_s_int_int_l1 (s1 : List Int) (cf_f : Int → Bool) (Q : Int → Prop) (K_1 : Int → Prop) (n_1 : Int) : Prop :=
 (n_1 < (s1.length : Int) → ((0 : Int) ≤ n_1 ∧ n_1 < (s1.length : Int)) ∧ (((cf_f (gi s1 n_1)) = true → Q n_1) ∧ ((cf_f (gi s1 n_1)) = false → (I64 (n_1 + 1)) ∧ (K_1 (n_1 + 1))))) ∧ (¬ (n_1 < (s1.length : Int)) → Q (-1))
def slices_IndexFunc_s_int_int_W (s1 : List Int) (cf_f : Int → Bool) (Q : Int → Prop) : Prop :=
 loopW (fun (K_1 : Int → Prop) (s : Int) => slices_IndexFunc_s_int_int_l1 s1 cf_f Q K_1 s) 0
set_option maxHeartbeats 40000000 in
set_option maxRecDepth 100000 in
theorem slices_IndexFunc_s_int_int_walk {F : Fz} {fr : List Ow} {h0 : Heap} (s1 : List Int) (cf_f : Int → Bool) (vs : Value) (g_f : Nat) (fs_f : Array Value) (cs_f : Array Value) (hS : St F (fr) h0) (hL_s1 : SliceF F h0 1 encI vs s1) (hF_cf_f : FnP Tryz.prog F h0 g_f fs_f cs_f (fun x : Int => [.int .i64 x]) (fun x => .bool (cf_f x))) {Q : Int → Prop} (hM : slices_IndexFunc_s_int_int_W s1 cf_f Q) :
  HC Tryz.prog 77 #[vs, .func (.func g_f) fs_f cs_f] h0 fun u h' => ∃ (F' : Fz) (r_1 : Int), u = .int .i64 r_1 ∧ Kp F h0 F' h' ∧ St F' (fr) h' ∧ (SliceF F' h' 1 encI vs s1) ∧ (FnP Tryz.prog F' h' g_f fs_f cs_f (fun x : Int => [.int .i64 x]) (fun x => .bool (cf_f x))) ∧ Q r_1 := by
 unfold slices_IndexFunc_s_int_int_W at hM
 have hK := Kp.refl F h0
 refine HC.of_HW (n := 19) Tryz.func77 rfl rfl (Nat.le_of_ble_eq_true rfl) ?_
 refine HW.seq ?_
 refine HW.region ?_
 refine oA (.int .i64 0) rfl rfl ?_
 refine HO.nil (thenQ_normal (?_))
 refine HW.seq ?_
 refine HW.seq ?_
 refine HW.region ?_
 refine oM (vs) rfl rfl ?_
 refine oV (.int .i64 (s1.length : Int)) (q_len ts_36 (shp hL_s1.is) rfl rfl) rfl ?_
 refine oM (.int .i64 0) rfl rfl ?_
 refine HO.nil (thenQ_normal (?_))
 refine HW.block ?_
 obtain ⟨I_1, m_1, hI_1, hR_1⟩ := hM
 refine HW.loop (S := Int) (fun n_1 f h => ∃ (F' : Fz), f 0 = vs ∧ f 1 = .func (.func g_f) fs_f cs_f ∧ f 4 = .int .i64 0 ∧ f 7 = .int .i64 (s1.length : Int) ∧ f 8 = .int .i64 n_1 ∧ Kp F h0 F' h ∧ St F' (fr) h ∧ (SliceF F' h 1 encI vs s1) ∧ (FnP Tryz.prog F' h g_f fs_f cs_f (fun x : Int => [.int .i64 x]) (fun x => .bool (cf_f x))) ∧ I_1 n_1) m_1 0 ⟨F, rfl, rfl, rfl, rfl, rfl, hK, hS, hL_s1, hF_cf_f, hI_1⟩ ?_
 rintro n_1 f_1 h_1 ⟨F_1, e0, e1, e4, e7, e8, hK, hS, hL_s1, hF_cf_f, hI0⟩
 obtain ⟨K_1, hKe_1⟩ : ∃ K : Int → Prop, K = fun n_1' => I_1 n_1' ∧ m_1 n_1' < m_1 n_1 := ⟨_, rfl⟩
 have hM : slices_IndexFunc_s_int_int_l1 s1 cf_f Q K_1 n_1 := by rw [hKe_1]; exact hR_1 n_1 hI0
 unfold slices_IndexFunc_s_int_int_l1 at hM
 refine HW.fr [(0, vs), (1, .func (.func g_f) fs_f cs_f), (4, .int .i64 0), (7, .int .i64 (s1.length : Int)), (8, .int .i64 n_1)] ⟨e0, e1, e4, e7, e8, trivial⟩ ?_
 refine HW.seq ?_
 refine HW.region ?_
 refine oV (.bool (decide (n_1 < (s1.length : Int)))) (q_lss rfl rfl) rfl ?_
 refine HO.nil (thenQ_normal (?_))
 refine HW.seq ?_
 refine HW.cond (decide (n_1 < (s1.length : Int))) rfl (fun c_1 => ?_) (fun c_1 => ?_)
 ·
  replace hM := hM.1 (of_decide_eq_true c_1)
  refine HW.skip (thenQ_normal (?_))
  refine HW.seq ?_
  refine HW.block ?_
  refine HW.seq ?_
  refine HW.region ?_
  refine oM (.int .i64 n_1) rfl rfl ?_
  refine oA (.int .i64 n_1) rfl rfl ?_
  refine HO.nil (thenQ_normal (?_))
  refine HW.seq ?_
  refine HW.region ?_
  refine oM (.func (.func g_f) fs_f cs_f) rfl rfl ?_
  refine oM (vs) rfl rfl ?_
  refine oM (.int .i64 n_1) rfl rfl ?_
  obtain ⟨ho_1, hM⟩ := hM
  refine oV (elemPtr 1 vs (n_1).toNat) (q_idx ts_36 hL_s1.is rfl rfl ho_1) rfl ?_
  refine oV (.int .i64 (gi s1 n_1)) (q_ldElem to_3 hL_s1.is rfl ho_1 rfl) rfl ?_
  refine HO.call (want_none) rfl (hF_cf_f.ec (gi s1 n_1) rfl rfl) (hF_cf_f.hc (gi s1 n_1) hS) ?_
  rintro _ h_2 ⟨rfl, hS, hk⟩
  replace hK := hK.trans hk
  replace hL_s1 := hL_s1.kp hk
  replace hF_cf_f := hF_cf_f.kp hk
  refine HO.nil (thenQ_normal (?_))
  refine HW.cond (cf_f (gi s1 n_1)) rfl (fun c_2 => ?_) (fun c_2 => ?_)
  ·
   replace hM := hM.1 c_2
   refine HW.seq ?_
   refine HW.region ?_
   refine oM (.int .i64 n_1) rfl rfl ?_
   refine oA (.int .i64 n_1) rfl rfl ?_
   refine HO.nil (thenQ_normal (?_))
   refine HW.ret (blockQ_ret (thenQ_ret (thenQ_ret (blockQ_ret (thenQ_ret (?_))))))
   refine ⟨.inr rfl, .int .i64 n_1, res1 rfl (rt rfl), ?_⟩
   exact ⟨F_1, n_1, rfl, hK, hS, hL_s1, hF_cf_f, hM⟩
  ·
   replace hM := hM.2 c_2
   refine HW.skip (blockQ_normal (thenQ_normal (?_)))
   refine HW.region ?_
   obtain ⟨ho_2, hM⟩ := hM
   refine oV (.int .i64 (n_1 + 1)) (q_addN _ rfl rfl rfl ho_2.1 ho_2.2) rfl ?_
   refine oM (.int .i64 (n_1 + 1)) rfl rfl ?_
   refine HO.nil (thenQ_normal (?_))
   rw [hKe_1] at hM
   exact ⟨n_1 + 1, ⟨F_1, rfl, rfl, rfl, rfl, rfl, hK, hS, hL_s1, hF_cf_f, hM.1⟩, hM.2⟩
 ·
  replace hM := hM.2 (of_decide_eq_false c_1)
  refine HW.exit (thenQ_exit (thenQ_exit (blockQ_exit (thenQ_normal (?_)))))
  refine HW.seq ?_
  refine HW.region ?_
  refine oA (.int .i64 (-1)) rfl rfl ?_
  refine HO.nil (thenQ_normal (?_))
  refine HW.ret (?_)
  refine ⟨.inr rfl, .int .i64 (-1), res1 rfl (rt rfl), ?_⟩
  exact ⟨F_1, (-1), rfl, hK, hS, hL_s1, hF_cf_f, hM⟩

def slices_DeleteFunc_s_int_int_l2 (cf_del : Int → Bool) (Q : (List Int) → Prop) (K_1 : (List Int) → Int → Int → Prop) (l_1 : List Int) (i_1 : Int) (j_1 : Int) : Prop :=
 (j_1 < (l_1.length : Int) → ((0 : Int) ≤ j_1 ∧ j_1 < (l_1.length : Int)) ∧ (((!(cf_del (gi l_1 j_1))) = true → ((0 : Int) ≤ i_1 ∧ i_1 < (l_1.length : Int)) ∧ ((I64 (i_1 + 1)) ∧ ((I64 (j_1 + 1)) ∧ (K_1 (l_1.set (i_1).toNat (gi l_1 j_1)) (i_1 + 1) (j_1 + 1))))) ∧ ((!(cf_del (gi l_1 j_1))) = false → (I64 (j_1 + 1)) ∧ (K_1 l_1 i_1 (j_1 + 1))))) ∧ (¬ (j_1 < (l_1.length : Int)) → ((0 : Int) ≤ i_1 ∧ i_1 ≤ (l_1.length : Int)) ∧ (((0 : Int) ≤ i_1 ∧ i_1 ≤ (l_1.length : Int) ∧ (l_1.length : Int) ≤ (l_1.length : Int)) ∧ (((0 : Int) ≤ i_1 ∧ i_1 ≤ ((clr l_1 i_1 (l_1.length : Int)).length : Int)) ∧ (Q (cut (clr l_1 i_1 (l_1.length : Int)) 0 i_1)))))
def slices_DeleteFunc_s_int_int_W (s1 : List Int) (cf_del : Int → Bool) (Q : (List Int) → Prop) : Prop :=
 slices_IndexFunc_s_int_int_W s1 cf_del (fun r_2 => (r_2 = (-1) → Q s1) ∧ (¬ (r_2 = (-1)) → (I64 (r_2 + 1)) ∧ (loopW (fun (K_1 : (List Int × Int × Int) → Prop) (s : List Int × Int × Int) => slices_DeleteFunc_s_int_int_l2 cf_del Q (fun l_1 i_1 j_1 => K_1 (l_1, i_1, j_1)) s.1 s.2.1 s.2.2) (s1, r_2, r_2 + 1))))
set_option maxHeartbeats 40000000 in
set_option maxRecDepth 100000 in
theorem slices_DeleteFunc_s_int_int_walk {F : Fz} {fr : List Ow} {h0 : Heap} (s1 : List Int) (cf_del : Int → Bool) (vs : Value) (g_del : Nat) (fs_del : Array Value) (cs_del : Array Value) (hS : St F (Ow.own 3 1 encI vs s1 :: fr) h0) (hF_cf_del : FnP Tryz.prog F h0 g_del fs_del cs_del (fun x : Int => [.int .i64 x]) (fun x => .bool (cf_del x))) {Q : (List Int) → Prop} (hM : slices_DeleteFunc_s_int_int_W s1 cf_del Q) :
  HC Tryz.prog 56 #[vs, .func (.func g_del) fs_del cs_del] h0 fun u h' => ∃ (F' : Fz) (r_1 : List Int) (vr_1 : Value), u = vr_1 ∧ Kp F h0 F' h' ∧ St F' (Ow.own 3 1 encI vr_1 r_1 :: fr) h' ∧ (FnP Tryz.prog F' h' g_del fs_del cs_del (fun x : Int => [.int .i64 x]) (fun x => .bool (cf_del x))) ∧ Q r_1 := by
 unfold slices_DeleteFunc_s_int_int_W at hM
 have hK := Kp.refl F h0
 refine HC.of_HW (n := 42) Tryz.func56 rfl rfl (Nat.le_of_ble_eq_true rfl) ?_
 refine HW.seq ?_
 refine HW.region ?_
 refine oA (.slice none 0 0) rfl rfl ?_
 refine HO.nil (thenQ_normal (?_))
 refine HW.seq ?_
 refine HW.region ?_
 refine oM (vs) rfl rfl ?_
 refine oM (.func (.func g_del) fs_del cs_del) rfl rfl ?_
 have hZ_1 := hS
 have hkz_1 := (hS.freeze).2
 replace hS := hS.freeze.1
 have hL_1 : SliceF (fun bz_ => F bz_ ∨ (Ow.own 3 1 encI vs s1).foot bz_) h0 1 encI vs s1 := ⟨(hZ_1.own 0 rfl).slice, fun _ b hb => .inr hb⟩
 refine HO.call (want_none) rfl (ec en_77 rfl rfl) (slices_IndexFunc_s_int_int_walk (fr := (fr)) s1 cf_del vs g_del fs_del cs_del hS hL_1 (hF_cf_del.kp hkz_1) hM) ?_
 rintro _ h_1 ⟨F_1, r_2, rfl, hk, hS, _, _, hM⟩
 obtain ⟨hS, hk⟩ := hZ_1.back hk hS
 generalize (fun bz_ => F_1 bz_ ∧ ¬ (Ow.own 3 1 encI vs s1).foot bz_) = F_2 at hS hk
 replace hK := hK.trans hk
 replace hF_cf_del := hF_cf_del.kp hk
 refine oA (.int .i64 r_2) rfl rfl ?_
 refine HO.nil (thenQ_normal (?_))
 refine HW.seq ?_
 refine HW.seq ?_
 refine HW.region ?_
 refine oM (.int .i64 r_2) rfl rfl ?_
 refine oV (.bool (decide (r_2 = (-1)))) (q_eql rfl rfl) rfl ?_
 refine HO.nil (thenQ_normal (?_))
 refine HW.cond (decide (r_2 = (-1))) rfl (fun c_1 => ?_) (fun c_1 => ?_)
 ·
  replace hM := hM.1 (of_decide_eq_true c_1)
  refine HW.seq ?_
  refine HW.region ?_
  refine oM (vs) rfl rfl ?_
  refine oA (vs) rfl rfl ?_
  refine HO.nil (thenQ_normal (?_))
  refine HW.ret (thenQ_ret (?_))
  refine ⟨.inr rfl, vs, res1 rfl (rt rfl), ?_⟩
  exact ⟨F_2, s1, vs, rfl, hK, hS, hF_cf_del, hM⟩
 ·
  replace hM := hM.2 (of_decide_eq_false c_1)
  refine HW.skip (thenQ_normal (?_))
  refine HW.seq ?_
  refine HW.seq ?_
  refine HW.region ?_
  refine oM (.int .i64 r_2) rfl rfl ?_
  obtain ⟨ho_1, hM⟩ := hM
  refine oV (.int .i64 (r_2 + 1)) (q_addN _ rfl rfl rfl ho_1.1 ho_1.2) rfl ?_
  refine oA (.int .i64 (r_2 + 1)) rfl rfl ?_
  refine HO.nil (thenQ_normal (?_))
  refine HW.block ?_
  obtain ⟨I_1, m_1, hI_1, hR_1⟩ := hM
  refine HW.loop (S := List Int × Int × Int) (fun s f h => match s with | (l_1, i_1, j_1) => ∃ (F' : Fz), f 0 = vs ∧ f 1 = .func (.func g_del) fs_del cs_del ∧ f 4 = .slice none 0 0 ∧ f 5 = .int .i64 i_1 ∧ f 6 = .int .i64 j_1 ∧ Kp F h0 F' h ∧ St F' (Ow.own 3 1 encI vs l_1 :: fr) h ∧ (FnP Tryz.prog F' h g_del fs_del cs_del (fun x : Int => [.int .i64 x]) (fun x => .bool (cf_del x))) ∧ I_1 (l_1, i_1, j_1)) m_1 (s1, r_2, r_2 + 1) ⟨F_2, rfl, rfl, rfl, rfl, rfl, hK, hS, hF_cf_del, hI_1⟩ ?_
  rintro ⟨l_1, i_1, j_1⟩ f_1 h_2 ⟨F_3, e0, e1, e4, e5, e6, hK, hS, hF_cf_del, hI0⟩
  obtain ⟨K_1, hKe_1⟩ : ∃ K : (List Int) → Int → Int → Prop, K = fun l_1' i_1' j_1' => I_1 (l_1', i_1', j_1') ∧ m_1 (l_1', i_1', j_1') < m_1 (l_1, i_1, j_1) := ⟨_, rfl⟩
  have hM : slices_DeleteFunc_s_int_int_l2 cf_del Q K_1 l_1 i_1 j_1 := by rw [hKe_1]; exact hR_1 (l_1, i_1, j_1) hI0
  unfold slices_DeleteFunc_s_int_int_l2 at hM
  refine HW.fr [(0, vs), (1, .func (.func g_del) fs_del cs_del), (4, .slice none 0 0), (5, .int .i64 i_1), (6, .int .i64 j_1)] ⟨e0, e1, e4, e5, e6, trivial⟩ ?_
  refine HW.seq ?_
  refine HW.seq ?_
  refine HW.region ?_
  refine oM (.int .i64 j_1) rfl rfl ?_
  refine oM (vs) rfl rfl ?_
  refine oV (.int .i64 (l_1.length : Int)) (q_len ts_36 (shp (hS.own 0 rfl).slice) rfl rfl) rfl ?_
  refine oV (.bool (decide (j_1 < (l_1.length : Int)))) (q_lss rfl rfl) rfl ?_
  refine HO.nil (thenQ_normal (?_))
  refine HW.cond (decide (j_1 < (l_1.length : Int))) rfl (fun c_2 => ?_) (fun c_2 => ?_)
  ·
   replace hM := hM.1 (of_decide_eq_true c_2)
   refine HW.skip (thenQ_normal (?_))
   refine HW.seq ?_
   refine HW.block ?_
   refine HW.seq ?_
   refine HW.region ?_
   refine oM (vs) rfl rfl ?_
   refine oM (.int .i64 j_1) rfl rfl ?_
   obtain ⟨ho_2, hM⟩ := hM
   refine oV (elemPtr 1 vs (j_1).toNat) (q_idx ts_36 (hS.own 0 rfl).slice rfl rfl ho_2) rfl ?_
   refine oV (.int .i64 (gi l_1 j_1)) (q_ldElem to_3 (hS.own 0 rfl).slice rfl ho_2 rfl) rfl ?_
   refine oA (.int .i64 (gi l_1 j_1)) rfl rfl ?_
   refine HO.nil (thenQ_normal (?_))
   refine HW.seq ?_
   refine HW.region ?_
   refine oM (.func (.func g_del) fs_del cs_del) rfl rfl ?_
   refine oM (.int .i64 (gi l_1 j_1)) rfl rfl ?_
   refine HO.call (want_none) rfl (hF_cf_del.ec (gi l_1 j_1) rfl rfl) (hF_cf_del.hc (gi l_1 j_1) hS) ?_
   rintro _ h_3 ⟨rfl, hS, hk⟩
   replace hK := hK.trans hk
   replace hF_cf_del := hF_cf_del.kp hk
   refine oV (.bool (!(cf_del (gi l_1 j_1)))) (q_not rfl) rfl ?_
   refine HO.nil (thenQ_normal (?_))
   refine HW.cond (!(cf_del (gi l_1 j_1))) rfl (fun c_3 => ?_) (fun c_3 => ?_)
   ·
    replace hM := hM.1 c_3
    refine HW.seq ?_
    refine HW.region ?_
    refine oM (vs) rfl rfl ?_
    refine oM (.int .i64 i_1) rfl rfl ?_
    refine oM (.int .i64 (gi l_1 j_1)) rfl rfl ?_
    obtain ⟨ho_3, hM⟩ := hM
    refine oV (elemPtr 1 vs (i_1).toNat) (q_idx ts_36 (hS.own 0 rfl).slice rfl rfl ho_3) rfl ?_
    refine HO.sto (want_none) rfl (st_storeField (a := (gi l_1 j_1)) (n := (i_1).toNat) (j := 0) hS (i := 0) rfl to_3 (elem_field _ _ _) (by omega) (by decide) rfl (by rw [← gi_lt ho_3.1 ho_3.2]; rfl) rfl rfl) ?_
    rintro h_4 ⟨hS, hk⟩
    replace hS : St F_3 (Ow.own 3 1 encI vs (l_1.set (i_1).toNat (gi l_1 j_1)) :: fr) h_4 := hS
    replace hK := hK.trans hk
    replace hF_cf_del := hF_cf_del.kp hk
    refine HO.nil (thenQ_normal (?_))
    refine HW.region ?_
    refine oM (.int .i64 i_1) rfl rfl ?_
    obtain ⟨ho_4, hM⟩ := hM
    refine oV (.int .i64 (i_1 + 1)) (q_addN _ rfl rfl rfl ho_4.1 ho_4.2) rfl ?_
    refine oA (.int .i64 (i_1 + 1)) rfl rfl ?_
    refine HO.nil (blockQ_normal (thenQ_normal (?_)))
    refine HW.region ?_
    refine oM (.int .i64 j_1) rfl rfl ?_
    obtain ⟨ho_5, hM⟩ := hM
    refine oV (.int .i64 (j_1 + 1)) (q_addN _ rfl rfl rfl ho_5.1 ho_5.2) rfl ?_
    refine oA (.int .i64 (j_1 + 1)) rfl rfl ?_
    refine HO.nil (thenQ_normal (?_))
    rw [hKe_1] at hM
    exact ⟨(l_1.set (i_1).toNat (gi l_1 j_1), i_1 + 1, j_1 + 1), ⟨F_3, rfl, rfl, rfl, rfl, rfl, hK, hS, hF_cf_del, hM.1⟩, hM.2⟩
   ·
    replace hM := hM.2 c_3
    refine HW.skip (blockQ_normal (thenQ_normal (?_)))
    refine HW.region ?_
    refine oM (.int .i64 j_1) rfl rfl ?_
    obtain ⟨ho_6, hM⟩ := hM
    refine oV (.int .i64 (j_1 + 1)) (q_addN _ rfl rfl rfl ho_6.1 ho_6.2) rfl ?_
    refine oA (.int .i64 (j_1 + 1)) rfl rfl ?_
    refine HO.nil (thenQ_normal (?_))
    rw [hKe_1] at hM
    exact ⟨(l_1, i_1, j_1 + 1), ⟨F_3, rfl, rfl, rfl, rfl, rfl, hK, hS, hF_cf_del, hM.1⟩, hM.2⟩
  ·
   replace hM := hM.2 (of_decide_eq_false c_2)
   refine HW.exit (thenQ_exit (thenQ_exit (blockQ_exit (thenQ_normal (?_)))))
   refine HW.seq ?_
   refine HW.region ?_
   refine oM (vs) rfl rfl ?_
   refine oM (.int .i64 i_1) rfl rfl ?_
   obtain ⟨ho_7, hM⟩ := hM
   refine oV (cutV 1 vs (i_1).toNat ((l_1.length : Int)).toNat) (q_slL ts_36 (hS.own 0 rfl).slice rfl rfl ho_7) rfl ?_
   obtain ⟨ho_8, hM⟩ := hM
   refine HO.eff (want_none) rfl (st_clearS (lo := i_1) (hi := (l_1.length : Int)) (z := .int .i64 0) hS (i := 0) rfl te_36 tz_3 rfl (by intro u hu; simp [encI, encI, encN, encB, encT, default] at hu; subst hu; rfl) rfl ho_8 rfl) ?_
   rintro _ h_5 ⟨rfl, hS, hk⟩
   replace hS : St F_3 (Ow.own 3 1 encI vs (clr l_1 i_1 (l_1.length : Int)) :: fr) h_5 := hS
   replace hK := hK.trans hk
   replace hF_cf_del := hF_cf_del.kp hk
   refine HO.nil (thenQ_normal (?_))
   refine HW.seq ?_
   refine HW.region ?_
   refine oM (vs) rfl rfl ?_
   refine oM (.int .i64 i_1) rfl rfl ?_
   obtain ⟨ho_9, hM⟩ := hM
   refine oV (cutV 1 vs (0 : Int).toNat (i_1).toNat) (q_slH ts_36 (hS.own 0 rfl).slice rfl rfl ho_9) rfl ?_
   refine oA (cutV 1 vs (0 : Int).toNat (i_1).toNat) rfl rfl ?_
   refine HO.nil (thenQ_normal (?_))
   refine HW.ret (?_)
   refine ⟨.inr rfl, cutV 1 vs (0 : Int).toNat (i_1).toNat, res1 rfl (rt rfl), ?_⟩
   replace hS := hS.shrink 0 rfl i_1 ho_9.1 ho_9.2
   replace hS : St F_3 (Ow.own 3 1 encI (cutV 1 vs (0 : Int).toNat (i_1).toNat) (cut (clr l_1 i_1 (l_1.length : Int)) 0 i_1) :: fr) h_5 := hS
   exact ⟨F_3, cut (clr l_1 i_1 (l_1.length : Int)) 0 i_1, cutV 1 vs (0 : Int).toNat (i_1).toNat, rfl, hK, hS, hF_cf_del, hM⟩

def tree_rising_W (l : List Int) (Q : (List Int) → Prop) : Prop :=
 ((l).length < 4611686018427387904) ∧ (Q (isort l))
set_option maxHeartbeats 40000000 in
set_option maxRecDepth 100000 in
theorem tree_rising_walk {F : Fz} {fr : List Ow} {h0 : Heap} (l : List Int) (vl : Value) (hS : St F (Ow.own 3 1 encI vl l :: fr) h0)  {Q : (List Int) → Prop} (hM : tree_rising_W l Q) :
  HC Tryz.prog 52 #[vl] h0 fun u h' => ∃ (F' : Fz) (r_1 : List Int) (vr_1 : Value), u = vr_1 ∧ Kp F h0 F' h' ∧ St F' (Ow.own 3 1 encI vr_1 r_1 :: fr) h' ∧ Q r_1 := by
 unfold tree_rising_W at hM
 have hK := Kp.refl F h0
 refine HC.of_HW (n := 6) Tryz.func52 rfl rfl (Nat.le_of_ble_eq_true rfl) ?_
 refine HW.seq ?_
 refine HW.region ?_
 refine oA (.slice none 0 0) rfl rfl ?_
 refine HO.nil (thenQ_normal (?_))
 refine HW.seq ?_
 refine HW.region ?_
 refine oM (vl) rfl rfl ?_
 obtain ⟨ho_1, hM⟩ := hM
 refine HO.call (want_none) rfl (ec en_75 rfl rfl) (sortInt_own Tryz.sortI hS ho_1) ?_
 rintro _ h_1 ⟨rfl, hk, hS⟩
 replace hS : St F (Ow.own 3 1 encI vl (isort l) :: fr) h_1 := hS
 replace hK := hK.trans hk
 refine HO.nil (thenQ_normal (?_))
 refine HW.seq ?_
 refine HW.region ?_
 refine oM (vl) rfl rfl ?_
 refine oA (vl) rfl rfl ?_
 refine HO.nil (thenQ_normal (?_))
 refine HW.ret (?_)
 refine ⟨.inr rfl, vl, res1 rfl (rt rfl), ?_⟩
 exact ⟨F, isort l, vl, rfl, hK, hS, hM⟩

def tree_Leaves_W (t_Root : Int) (t_Links : List T_api_Branch) (Q : (List Int) → Prop) : Prop :=
 tree_nexts_W t_Root t_Links (fun r_2 => tree_walk_W t_Root t_Links t_Root (fun r_4 => ∃ cf_1 : Int → Bool, (∀ x0, tree_Leaves_1_W x0 t_Root t_Links r_2 (fun r => r = cf_1 x0)) ∧ (slices_DeleteFunc_s_int_int_W r_4 cf_1 (fun r_5 => tree_rising_W r_5 (fun r_6 => Q r_6)))))
set_option maxHeartbeats 40000000 in
set_option maxRecDepth 100000 in
theorem tree_Leaves_walk {F : Fz} {fr : List Ow} {h0 : Heap} (t_Root : Int) (t_Links : List T_api_Branch) (vt_Links : Value) (hS : St F (fr) h0) (hL_t_Links : SliceF F h0 2 e_api_Branch vt_Links t_Links) {Q : (List Int) → Prop} (hM : tree_Leaves_W t_Root t_Links Q) :
  HC Tryz.prog 31 #[.agg #[.int .i64 t_Root, vt_Links]] h0 fun u h' => ∃ (F' : Fz) (r_1 : List Int) (vr_1 : Value), u = vr_1 ∧ Kp F h0 F' h' ∧ St F' (Ow.own 3 1 encI vr_1 r_1 :: fr) h' ∧ (SliceF F' h' 2 e_api_Branch vt_Links t_Links) ∧ Q r_1 := by
 unfold tree_Leaves_W at hM
 have hK := Kp.refl F h0
 refine HC.of_HW (n := 13) Tryz.func31 rfl rfl (Nat.le_of_ble_eq_true rfl) ?_
 refine HW.seq ?_
 refine HW.region ?_
 refine HO.eff (want_none) rfl (st_box (c := #[.int .i64 t_Root, vt_Links]) (k' := 2) hS rfl rfl) ?_
 rintro _ h_1 ⟨b_1, rfl, hS, hk⟩
 replace hK := hK.trans hk
 replace hL_t_Links := hL_t_Links.kp hk
 refine oA (.slice none 0 0) rfl rfl ?_
 refine HO.nil (thenQ_normal (?_))
 refine HW.seq ?_
 refine HW.region ?_
 refine oV (.agg #[.int .i64 t_Root, vt_Links]) (q_loadAgg (cs := [.int .i64 t_Root, vt_Links]) ta_24 rfl rfl (Blk.cells (k := 2) (hS.box 0 rfl) rfl)) rfl ?_
 refine HO.call (want_none) rfl (ec en_54 rfl rfl) (tree_nexts_walk (fr := (Ow.box b_1 24 #[.int .i64 t_Root, vt_Links] :: fr)) t_Root t_Links vt_Links hS hL_t_Links hM) ?_
 rintro _ h_2 ⟨F_1, r_2, r_3, rfl, hk, hS, _, hM⟩
 replace hK := hK.trans hk
 replace hL_t_Links := hL_t_Links.kp hk
 obtain ⟨F_2, hS, hk, hN_1⟩ := hS.bagOpen
 replace hK := hK.trans hk
 replace hL_t_Links := hL_t_Links.kp hk
 refine HO.eff (want_none) rfl (st_alloc (c := #[.map none]) hS tz_62 rfl) ?_
 rintro _ h_3 ⟨b_2, rfl, hS, hk⟩
 replace hK := hK.trans hk
 replace hL_t_Links := hL_t_Links.kp hk
 replace hN_1 := hN_1.kp hk
 refine HO.sto (want_none) rfl (st_store (c' := #[.map (some r_3)]) hS (i := 0) rfl to_62 rfl rfl rfl rfl (Nat.le_of_ble_eq_true rfl) rfl) ?_
 rintro h_4 ⟨hS, hk⟩
 replace hS : St F_2 (Ow.box b_2 62 #[.map (some r_3)] :: Ow.map r_3 kI bagV r_2 :: Ow.box b_1 24 #[.int .i64 t_Root, vt_Links] :: fr) h_4 := hS
 replace hK := hK.trans hk
 replace hL_t_Links := hL_t_Links.kp hk
 replace hN_1 := hN_1.kp hk
 refine HO.nil (thenQ_normal (?_))
 refine HW.seq ?_
 refine HW.region ?_
 refine oV (.agg #[.int .i64 t_Root, vt_Links]) (q_loadAgg (cs := [.int .i64 t_Root, vt_Links]) ta_24 rfl rfl (Blk.cells (k := 2) (hS.box 2 rfl) rfl)) rfl ?_
 refine oV (.pointer (some ⟨b_1, 0, none⟩)) (q_fieldAddr fa_24_0 rfl rfl) rfl ?_
 refine oV (.int .i64 t_Root) (q_load to_3 rfl (Blk.cell (hS.box 2 rfl) rfl)) rfl ?_
 refine HO.call (want_none) rfl (ec en_53 rfl rfl) (tree_walk_walk (fr := (Ow.box b_2 62 #[.map (some r_3)] :: Ow.map r_3 kI bagV r_2 :: Ow.box b_1 24 #[.int .i64 t_Root, vt_Links] :: fr)) t_Root t_Links t_Root vt_Links hS hL_t_Links hM) ?_
 rintro vr_2 h_5 ⟨F_3, r_4, _, rfl, hk, hS, _, hM⟩
 replace hK := hK.trans hk
 replace hL_t_Links := hL_t_Links.kp hk
 replace hN_1 := hN_1.kp hk
 refine oV (.func (.func 57) #[] #[.pointer (some ⟨b_1, 0, none⟩), .pointer (some ⟨b_2, 0, none⟩)]) (q_makeFunc rfl rfl) rfl ?_
 replace hS : St F_3 (Ow.box b_1 24 #[.int .i64 t_Root, vt_Links] :: Ow.own 3 1 encI vr_2 r_4 :: Ow.box b_2 62 #[.map (some r_3)] :: Ow.map r_3 kI bagV r_2 :: fr) h_5 := hS.perm2 [3, 0, 1, 2] 4 rfl rfl
 have hZ_1 := hS
 have hkz_1 := (hS.freeze).2
 replace hS := hS.freeze.1
 have hL_1 := hZ_1.lent
 replace hS : St (fun bz_ => F_3 bz_ ∨ (Ow.box b_1 24 #[.int .i64 t_Root, vt_Links]).foot bz_) (Ow.box b_2 62 #[.map (some r_3)] :: Ow.own 3 1 encI vr_2 r_4 :: Ow.map r_3 kI bagV r_2 :: fr) h_5 := hS.perm2 [1, 0, 2] 3 rfl rfl
 have hZ_2 := hS
 have hkz_2 := (hS.freeze).2
 replace hS := hS.freeze.1
 have hL_2 := hZ_2.lent
 replace hL_1 := hL_1.kp hkz_2
 replace hS : St (fun bz_ => (fun bz_ => F_3 bz_ ∨ (Ow.box b_1 24 #[.int .i64 t_Root, vt_Links]).foot bz_) bz_ ∨ (Ow.box b_2 62 #[.map (some r_3)]).foot bz_) (Ow.map r_3 kI bagV r_2 :: Ow.own 3 1 encI vr_2 r_4 :: fr) h_5 := hS.perm2 [1, 0] 2 rfl rfl
 have hZ_3 := hS
 have hkz_3 := (hS.freeze).2
 replace hS := hS.freeze.1
 have hL_3 := hZ_3.lent
 replace hL_1 := hL_1.kp hkz_3
 replace hL_2 := hL_2.kp hkz_3
 obtain ⟨cf_1, hc_1, hM⟩ := hM
 have hF_1 : FnP Tryz.prog (fun bz_ => (fun bz_ => (fun bz_ => F_3 bz_ ∨ (Ow.box b_1 24 #[.int .i64 t_Root, vt_Links]).foot bz_) bz_ ∨ (Ow.box b_2 62 #[.map (some r_3)]).foot bz_) bz_ ∨ (Ow.map r_3 kI bagV r_2).foot bz_) h_5 57 #[] #[.pointer (some ⟨b_1, 0, none⟩), .pointer (some ⟨b_2, 0, none⟩)] (fun x : Int => [.int .i64 x]) (fun x => .bool (cf_1 x)) := FnP.of en_57 (fun x h' hk_ => @HC.mono ⟨true⟩ _ _ _ _ _ _ (@tree_Leaves_1_walk ⟨true⟩ (allF h') [] h' x t_Root t_Links r_2 b_1 vt_Links b_2 r_3 (St.init h') ((((hL_t_Links.kp hkz_1).kp hkz_2).kp hkz_3).kp hk_) (hL_1.kp hk_) (hL_3.kp hk_) ((((hN_1.kp hkz_1).kp hkz_2).kp hkz_3).kp hk_) (hL_2.kp hk_) (fun r => r = cf_1 x) (hc_1 x)) (fun u h'' ⟨F', r, hu, k_, _, _, _, _, _, _, hr⟩ => ⟨by rw [hu, hr], F', k_⟩))
 refine HO.call (want_none) rfl (ec en_56 rfl rfl) (slices_DeleteFunc_s_int_int_walk (fr := (fr)) r_4 cf_1 vr_2 57 (#[]) (#[.pointer (some ⟨b_1, 0, none⟩), .pointer (some ⟨b_2, 0, none⟩)]) hS hF_1 hM) ?_
 rintro vr_3 h_6 ⟨F_4, r_5, _, rfl, hk, hS, _, hM⟩
 obtain ⟨hS, hk⟩ := hZ_3.back hk hS
 obtain ⟨hS, hk⟩ := hZ_2.back hk hS
 obtain ⟨hS, hk⟩ := hZ_1.back hk hS
 generalize (fun bz_ => (fun bz_ => (fun bz_ => F_4 bz_ ∧ ¬ (Ow.map r_3 kI bagV r_2).foot bz_) bz_ ∧ ¬ (Ow.box b_2 62 #[.map (some r_3)]).foot bz_) bz_ ∧ ¬ (Ow.box b_1 24 #[.int .i64 t_Root, vt_Links]).foot bz_) = F_5 at hS hk
 replace hK := hK.trans hk
 replace hL_t_Links := hL_t_Links.kp hk
 replace hS : St F_5 (Ow.own 3 1 encI vr_3 r_5 :: Ow.box b_1 24 #[.int .i64 t_Root, vt_Links] :: Ow.box b_2 62 #[.map (some r_3)] :: Ow.map r_3 kI bagV r_2 :: fr) h_6 := hS.perm2 [3, 0, 1, 2] 4 rfl rfl
 refine HO.call (want_none) rfl (ec en_52 rfl rfl) (tree_rising_walk (fr := (Ow.box b_1 24 #[.int .i64 t_Root, vt_Links] :: Ow.box b_2 62 #[.map (some r_3)] :: Ow.map r_3 kI bagV r_2 :: fr)) r_5 vr_3 hS hM) ?_
 rintro vr_4 h_7 ⟨F_6, r_6, _, rfl, hk, hS, hM⟩
 replace hK := hK.trans hk
 replace hL_t_Links := hL_t_Links.kp hk
 refine oA (vr_4) rfl rfl ?_
 refine HO.nil (thenQ_normal (?_))
 refine HW.ret (?_)
 refine ⟨.inr rfl, vr_4, res1 rfl (rt rfl), ?_⟩
 replace hS : St F_6 (Ow.own 3 1 encI vr_4 r_6 :: fr) h_7 := hS.perm2 [0] 4 rfl rfl
 exact ⟨F_6, r_6, vr_4, rfl, hK, hS, hL_t_Links, hM⟩

def ref32_SameInts_l1 (a : List Int) (b : List Int) (Q : Bool → Prop) (K_1 : Int → Prop) (i_1 : Int) : Prop :=
 (i_1 < (a.length : Int) → ((0 : Int) ≤ i_1 ∧ i_1 < (a.length : Int)) ∧ (((0 : Int) ≤ i_1 ∧ i_1 < (b.length : Int)) ∧ ((¬ ((gi a i_1) = (gi b i_1)) → Q false) ∧ ((gi a i_1) = (gi b i_1) → (I64 (i_1 + 1)) ∧ (K_1 (i_1 + 1)))))) ∧ (¬ (i_1 < (a.length : Int)) → Q true)
def ref32_SameInts_W (a : List Int) (b : List Int) (Q : Bool → Prop) : Prop :=
 (¬ ((a.length : Int) = (b.length : Int)) → Q false) ∧ ((a.length : Int) = (b.length : Int) → loopW (fun (K_1 : Int → Prop) (s : Int) => ref32_SameInts_l1 a b Q K_1 s) 0)
set_option maxHeartbeats 40000000 in
set_option maxRecDepth 100000 in
theorem ref32_SameInts_walk {F : Fz} {fr : List Ow} {h0 : Heap} (a : List Int) (b : List Int) (va : Value) (vb : Value) (hS : St F (fr) h0) (hL_a : SliceF F h0 1 encI va a) (hL_b : SliceF F h0 1 encI vb b) {Q : Bool → Prop} (hM : ref32_SameInts_W a b Q) :
  HC Tryz.prog 22 #[va, vb] h0 fun u h' => ∃ (F' : Fz) (r_1 : Bool), u = .bool r_1 ∧ Kp F h0 F' h' ∧ St F' (fr) h' ∧ (SliceF F' h' 1 encI va a) ∧ (SliceF F' h' 1 encI vb b) ∧ Q r_1 := by
 unfold ref32_SameInts_W at hM
 have hK := Kp.refl F h0
 refine HC.of_HW (n := 26) Tryz.func22 rfl rfl (Nat.le_of_ble_eq_true rfl) ?_
 refine HW.seq ?_
 refine HW.region ?_
 refine oA (.bool false) rfl rfl ?_
 refine HO.nil (thenQ_normal (?_))
 refine HW.seq ?_
 refine HW.seq ?_
 refine HW.region ?_
 refine oM (va) rfl rfl ?_
 refine oV (.int .i64 (a.length : Int)) (q_len ts_36 (shp hL_a.is) rfl rfl) rfl ?_
 refine oM (vb) rfl rfl ?_
 refine oV (.int .i64 (b.length : Int)) (q_len ts_36 (shp hL_b.is) rfl rfl) rfl ?_
 refine oV (.bool (!decide ((a.length : Int) = (b.length : Int)))) (q_neq rfl rfl) rfl ?_
 refine HO.nil (thenQ_normal (?_))
 refine HW.cond (!decide ((a.length : Int) = (b.length : Int))) rfl (fun c_1 => ?_) (fun c_1 => ?_)
 ·
  replace hM := hM.1 (nd_true c_1)
  refine HW.seq ?_
  refine HW.region ?_
  refine oA (.bool false) rfl rfl ?_
  refine HO.nil (thenQ_normal (?_))
  refine HW.ret (thenQ_ret (?_))
  refine ⟨.inr rfl, .bool false, res1 rfl (rt rfl), ?_⟩
  exact ⟨F, false, rfl, hK, hS, hL_a, hL_b, hM⟩
 ·
  replace hM := hM.2 (nd_false c_1)
  refine HW.skip (thenQ_normal (?_))
  refine HW.seq ?_
  refine HW.seq ?_
  refine HW.region ?_
  refine oA (.int .i64 0) rfl rfl ?_
  refine HO.nil (thenQ_normal (?_))
  refine HW.block ?_
  obtain ⟨I_1, m_1, hI_1, hR_1⟩ := hM
  refine HW.loop (S := Int) (fun i_1 f h => ∃ (F' : Fz), f 0 = va ∧ f 1 = vb ∧ f 4 = .bool false ∧ f 5 = .int .i64 i_1 ∧ Kp F h0 F' h ∧ St F' (fr) h ∧ (SliceF F' h 1 encI va a) ∧ (SliceF F' h 1 encI vb b) ∧ I_1 i_1) m_1 0 ⟨F, rfl, rfl, rfl, rfl, hK, hS, hL_a, hL_b, hI_1⟩ ?_
  rintro i_1 f_1 h_1 ⟨F_1, e0, e1, e4, e5, hK, hS, hL_a, hL_b, hI0⟩
  obtain ⟨K_1, hKe_1⟩ : ∃ K : Int → Prop, K = fun i_1' => I_1 i_1' ∧ m_1 i_1' < m_1 i_1 := ⟨_, rfl⟩
  have hM : ref32_SameInts_l1 a b Q K_1 i_1 := by rw [hKe_1]; exact hR_1 i_1 hI0
  unfold ref32_SameInts_l1 at hM
  refine HW.fr [(0, va), (1, vb), (4, .bool false), (5, .int .i64 i_1)] ⟨e0, e1, e4, e5, trivial⟩ ?_
  refine HW.seq ?_
  refine HW.seq ?_
  refine HW.region ?_
  refine oM (.int .i64 i_1) rfl rfl ?_
  refine oM (va) rfl rfl ?_
  refine oV (.int .i64 (a.length : Int)) (q_len ts_36 (shp hL_a.is) rfl rfl) rfl ?_
  refine oV (.bool (decide (i_1 < (a.length : Int)))) (q_lss rfl rfl) rfl ?_
  refine HO.nil (thenQ_normal (?_))
  refine HW.cond (decide (i_1 < (a.length : Int))) rfl (fun c_2 => ?_) (fun c_2 => ?_)
  ·
   replace hM := hM.1 (of_decide_eq_true c_2)
   refine HW.skip (thenQ_normal (?_))
   refine HW.seq ?_
   refine HW.block ?_
   refine HW.seq ?_
   refine HW.regionA 9 mixed (fun h => (SliceIs h 1 encI va a) ∧ (SliceIs h 1 encI vb b)) [] (by kernel_rfl) ?_
   refine HA.val (k := 0) (v := va) rfl rfl (by kernel_rfl) (by kernel_rfl) (want_none) rfl (fun _ ⟨hL_a, hL_b⟩ => q_move rfl) ?_
   refine HA.val (k := 1) (v := .int .i64 i_1) rfl rfl (by kernel_rfl) (by kernel_rfl) (want_none) rfl (fun _ ⟨hL_a, hL_b⟩ => q_move rfl) ?_
   obtain ⟨ho_1, hM⟩ := hM
   refine HA.val (k := 2) (v := elemPtr 1 va (i_1).toNat) rfl rfl (by kernel_rfl) (by kernel_rfl) (want_none) rfl (fun _ ⟨hL_a, hL_b⟩ => q_idx ts_36 hL_a rfl rfl ho_1) ?_
   refine HA.val (k := 3) (v := .int .i64 (gi a i_1)) rfl rfl (by kernel_rfl) (by kernel_rfl) (want_none) rfl (fun _ ⟨hL_a, hL_b⟩ => q_ldElem to_3 hL_a rfl ho_1 rfl) ?_
   refine HA.val (k := 4) (v := vb) rfl rfl (by kernel_rfl) (by kernel_rfl) (want_none) rfl (fun _ ⟨hL_a, hL_b⟩ => q_move rfl) ?_
   refine HA.val (k := 5) (v := .int .i64 i_1) rfl rfl (by kernel_rfl) (by kernel_rfl) (want_none) rfl (fun _ ⟨hL_a, hL_b⟩ => q_move rfl) ?_
   obtain ⟨ho_2, hM⟩ := hM
   refine HA.val (k := 6) (v := elemPtr 1 vb (i_1).toNat) rfl rfl (by kernel_rfl) (by kernel_rfl) (want_none) rfl (fun _ ⟨hL_a, hL_b⟩ => q_idx ts_36 hL_b rfl rfl ho_2) ?_
   refine HA.val (k := 7) (v := .int .i64 (gi b i_1)) rfl rfl (by kernel_rfl) (by kernel_rfl) (want_none) rfl (fun _ ⟨hL_a, hL_b⟩ => q_ldElem to_3 hL_b rfl ho_2 rfl) ?_
   refine HA.val (k := 8) (v := .bool (!decide ((gi a i_1) = (gi b i_1)))) rfl rfl (by kernel_rfl) (by kernel_rfl) (want_none) rfl (fun _ ⟨hL_a, hL_b⟩ => q_neq rfl rfl) ?_
   refine HA.nil ⟨⟨hL_a.is, hL_b.is⟩, (Go.Wk.at_nil _ _)⟩ (by kernel_rfl) (thenQ_normal (?_))
   refine HW.cond (!decide ((gi a i_1) = (gi b i_1))) rfl (fun c_3 => ?_) (fun c_3 => ?_)
   ·
    replace hM := hM.1 (nd_true c_3)
    refine HW.seq ?_
    refine HW.region ?_
    refine oA (.bool false) rfl rfl ?_
    refine HO.nil (thenQ_normal (?_))
    refine HW.ret (blockQ_ret (thenQ_ret (thenQ_ret (blockQ_ret (thenQ_ret (?_))))))
    refine ⟨.inr rfl, .bool false, res1 rfl (rt rfl), ?_⟩
    exact ⟨F_1, false, rfl, hK, hS, hL_a, hL_b, hM⟩
   ·
    replace hM := hM.2 (nd_false c_3)
    refine HW.skip (blockQ_normal (thenQ_normal (?_)))
    refine HW.region ?_
    refine oM (.int .i64 i_1) rfl rfl ?_
    obtain ⟨ho_3, hM⟩ := hM
    refine oV (.int .i64 (i_1 + 1)) (q_addN _ rfl rfl rfl ho_3.1 ho_3.2) rfl ?_
    refine oA (.int .i64 (i_1 + 1)) rfl rfl ?_
    refine HO.nil (thenQ_normal (?_))
    rw [hKe_1] at hM
    exact ⟨i_1 + 1, ⟨F_1, rfl, rfl, rfl, rfl, hK, hS, hL_a, hL_b, hM.1⟩, hM.2⟩
  ·
   replace hM := hM.2 (of_decide_eq_false c_2)
   refine HW.exit (thenQ_exit (thenQ_exit (blockQ_exit (thenQ_normal (?_)))))
   refine HW.seq ?_
   refine HW.region ?_
   refine oA (.bool true) rfl rfl ?_
   refine HO.nil (thenQ_normal (?_))
   refine HW.ret (?_)
   refine ⟨.inr rfl, .bool true, res1 rfl (rt rfl), ?_⟩
   exact ⟨F_1, true, rfl, hK, hS, hL_a, hL_b, hM⟩

def tree_has_1_W (l : T_api_Branch) (c0_v : Int) (Q : Bool → Prop) : Prop :=
 Q (decide (l.2 = c0_v))
set_option maxHeartbeats 40000000 in
set_option maxRecDepth 100000 in
theorem tree_has_1_walk {F : Fz} {fr : List Ow} {h0 : Heap} (l : T_api_Branch) (c0_v : Int) (bc0 : Nat) (hS : St F (fr) h0) (hB_bc0 : RoF (Ow.box bc0 3 #[.int .i64 c0_v]) F h0) {Q : Bool → Prop} (hM : tree_has_1_W l c0_v Q) :
  HC Tryz.prog 74 #[.agg #[.int .i64 l.1, .int .i64 l.2], .pointer (some ⟨bc0, 0, none⟩)] h0 fun u h' => ∃ (F' : Fz) (r_1 : Bool), u = .bool r_1 ∧ Kp F h0 F' h' ∧ St F' (fr) h' ∧ (RoF (Ow.box bc0 3 #[.int .i64 c0_v]) F' h') ∧ Q r_1 := by
 unfold tree_has_1_W at hM
 have hK := Kp.refl F h0
 refine HC.of_HW (n := 8) Tryz.func74 rfl rfl (Nat.le_of_ble_eq_true rfl) ?_
 refine HW.seq ?_
 refine HW.region ?_
 refine HO.eff (want_none) rfl (st_box (c := #[.int .i64 l.1, .int .i64 l.2]) (k' := 2) hS rfl rfl) ?_
 rintro _ h_1 ⟨b_1, rfl, hS, hk⟩
 replace hK := hK.trans hk
 replace hB_bc0 := hB_bc0.kp hk
 refine oA (.bool false) rfl rfl ?_
 refine HO.nil (thenQ_normal (?_))
 refine HW.seq ?_
 refine HW.region ?_
 refine oV (.pointer (some ⟨b_1, 1, none⟩)) (q_fieldAddr fa_46_1 rfl rfl) rfl ?_
 refine oV (.int .i64 l.2) (q_load to_3 rfl (Blk.cell (hS.box 0 rfl) rfl)) rfl ?_
 refine oV (.int .i64 c0_v) (q_load to_3 rfl (Blk.cell hB_bc0.box rfl)) rfl ?_
 refine oV (.bool (decide (l.2 = c0_v))) (q_eql rfl rfl) rfl ?_
 refine oA (.bool (decide (l.2 = c0_v))) rfl rfl ?_
 refine HO.nil (thenQ_normal (?_))
 refine HW.ret (?_)
 refine ⟨.inr rfl, .bool (decide (l.2 = c0_v)), res1 rfl (rt rfl), ?_⟩
 replace hS : St F (fr) h_1 := hS.perm2 [] 1 rfl rfl
 exact ⟨F, decide (l.2 = c0_v), rfl, hK, hS, hB_bc0, hM⟩

def slices_IndexFunc_s_api_Branch_api_Branch_l1 (s1 : List T_api_Branch) (cf_f : T_api_Branch → Bool) (Q : Int → Prop) (K_1 : Int → Prop) (n_1 : Int) : Prop :=
 (n_1 < (s1.length : Int) → ((0 : Int) ≤ n_1 ∧ n_1 < (s1.length : Int)) ∧ (((cf_f (gi s1 n_1)) = true → Q n_1) ∧ ((cf_f (gi s1 n_1)) = false → (I64 (n_1 + 1)) ∧ (K_1 (n_1 + 1))))) ∧ (¬ (n_1 < (s1.length : Int)) → Q (-1))
def slices_IndexFunc_s_api_Branch_api_Branch_W (s1 : List T_api_Branch) (cf_f : T_api_Branch → Bool) (Q : Int → Prop) : Prop :=
 loopW (fun (K_1 : Int → Prop) (s : Int) => slices_IndexFunc_s_api_Branch_api_Branch_l1 s1 cf_f Q K_1 s) 0
set_option maxHeartbeats 40000000 in
set_option maxRecDepth 100000 in
theorem slices_IndexFunc_s_api_Branch_api_Branch_walk {F : Fz} {fr : List Ow} {h0 : Heap} (s1 : List T_api_Branch) (cf_f : T_api_Branch → Bool) (vs : Value) (g_f : Nat) (fs_f : Array Value) (cs_f : Array Value) (hS : St F (fr) h0) (hL_s1 : SliceF F h0 2 e_api_Branch vs s1) (hF_cf_f : FnP Tryz.prog F h0 g_f fs_f cs_f (fun x : T_api_Branch => [.agg #[.int .i64 x.1, .int .i64 x.2]]) (fun x => .bool (cf_f x))) {Q : Int → Prop} (hM : slices_IndexFunc_s_api_Branch_api_Branch_W s1 cf_f Q) :
  HC Tryz.prog 71 #[vs, .func (.func g_f) fs_f cs_f] h0 fun u h' => ∃ (F' : Fz) (r_1 : Int), u = .int .i64 r_1 ∧ Kp F h0 F' h' ∧ St F' (fr) h' ∧ (SliceF F' h' 2 e_api_Branch vs s1) ∧ (FnP Tryz.prog F' h' g_f fs_f cs_f (fun x : T_api_Branch => [.agg #[.int .i64 x.1, .int .i64 x.2]]) (fun x => .bool (cf_f x))) ∧ Q r_1 := by
 unfold slices_IndexFunc_s_api_Branch_api_Branch_W at hM
 have hK := Kp.refl F h0
 refine HC.of_HW (n := 19) Tryz.func71 rfl rfl (Nat.le_of_ble_eq_true rfl) ?_
 refine HW.seq ?_
 refine HW.region ?_
 refine oA (.int .i64 0) rfl rfl ?_
 refine HO.nil (thenQ_normal (?_))
 refine HW.seq ?_
 refine HW.seq ?_
 refine HW.region ?_
 refine oM (vs) rfl rfl ?_
 refine oV (.int .i64 (s1.length : Int)) (q_len ts_22 (shp hL_s1.is) rfl rfl) rfl ?_
 refine oM (.int .i64 0) rfl rfl ?_
 refine HO.nil (thenQ_normal (?_))
 refine HW.block ?_
 obtain ⟨I_1, m_1, hI_1, hR_1⟩ := hM
 refine HW.loop (S := Int) (fun n_1 f h => ∃ (F' : Fz), f 0 = vs ∧ f 1 = .func (.func g_f) fs_f cs_f ∧ f 4 = .int .i64 0 ∧ f 7 = .int .i64 (s1.length : Int) ∧ f 8 = .int .i64 n_1 ∧ Kp F h0 F' h ∧ St F' (fr) h ∧ (SliceF F' h 2 e_api_Branch vs s1) ∧ (FnP Tryz.prog F' h g_f fs_f cs_f (fun x : T_api_Branch => [.agg #[.int .i64 x.1, .int .i64 x.2]]) (fun x => .bool (cf_f x))) ∧ I_1 n_1) m_1 0 ⟨F, rfl, rfl, rfl, rfl, rfl, hK, hS, hL_s1, hF_cf_f, hI_1⟩ ?_
 rintro n_1 f_1 h_1 ⟨F_1, e0, e1, e4, e7, e8, hK, hS, hL_s1, hF_cf_f, hI0⟩
 obtain ⟨K_1, hKe_1⟩ : ∃ K : Int → Prop, K = fun n_1' => I_1 n_1' ∧ m_1 n_1' < m_1 n_1 := ⟨_, rfl⟩
 have hM : slices_IndexFunc_s_api_Branch_api_Branch_l1 s1 cf_f Q K_1 n_1 := by rw [hKe_1]; exact hR_1 n_1 hI0
 unfold slices_IndexFunc_s_api_Branch_api_Branch_l1 at hM
 refine HW.fr [(0, vs), (1, .func (.func g_f) fs_f cs_f), (4, .int .i64 0), (7, .int .i64 (s1.length : Int)), (8, .int .i64 n_1)] ⟨e0, e1, e4, e7, e8, trivial⟩ ?_
 refine HW.seq ?_
 refine HW.region ?_
 refine oV (.bool (decide (n_1 < (s1.length : Int)))) (q_lss rfl rfl) rfl ?_
 refine HO.nil (thenQ_normal (?_))
 refine HW.seq ?_
 refine HW.cond (decide (n_1 < (s1.length : Int))) rfl (fun c_1 => ?_) (fun c_1 => ?_)
 ·
  replace hM := hM.1 (of_decide_eq_true c_1)
  refine HW.skip (thenQ_normal (?_))
  refine HW.seq ?_
  refine HW.block ?_
  refine HW.seq ?_
  refine HW.region ?_
  refine oM (.int .i64 n_1) rfl rfl ?_
  refine oA (.int .i64 n_1) rfl rfl ?_
  refine HO.nil (thenQ_normal (?_))
  refine HW.seq ?_
  refine HW.region ?_
  refine oM (.func (.func g_f) fs_f cs_f) rfl rfl ?_
  refine oM (vs) rfl rfl ?_
  refine oM (.int .i64 n_1) rfl rfl ?_
  obtain ⟨ho_1, hM⟩ := hM
  refine oV (elemPtr 2 vs (n_1).toNat) (q_idx ts_22 hL_s1.is rfl rfl ho_1) rfl ?_
  refine oV (.agg #[.int .i64 ((gi s1 n_1).1), .int .i64 ((gi s1 n_1).2)]) (q_ldElemAgg (cs := [.int .i64 ((gi s1 n_1).1), .int .i64 ((gi s1 n_1).2)]) ta_46 hL_s1.is rfl ho_1 rfl) rfl ?_
  refine HO.call (want_none) rfl (hF_cf_f.ec (gi s1 n_1) rfl rfl) (hF_cf_f.hc (gi s1 n_1) hS) ?_
  rintro _ h_2 ⟨rfl, hS, hk⟩
  replace hK := hK.trans hk
  replace hL_s1 := hL_s1.kp hk
  replace hF_cf_f := hF_cf_f.kp hk
  refine HO.nil (thenQ_normal (?_))
  refine HW.cond (cf_f (gi s1 n_1)) rfl (fun c_2 => ?_) (fun c_2 => ?_)
  ·
   replace hM := hM.1 c_2
   refine HW.seq ?_
   refine HW.region ?_
   refine oM (.int .i64 n_1) rfl rfl ?_
   refine oA (.int .i64 n_1) rfl rfl ?_
   refine HO.nil (thenQ_normal (?_))
   refine HW.ret (blockQ_ret (thenQ_ret (thenQ_ret (blockQ_ret (thenQ_ret (?_))))))
   refine ⟨.inr rfl, .int .i64 n_1, res1 rfl (rt rfl), ?_⟩
   exact ⟨F_1, n_1, rfl, hK, hS, hL_s1, hF_cf_f, hM⟩
  ·
   replace hM := hM.2 c_2
   refine HW.skip (blockQ_normal (thenQ_normal (?_)))
   refine HW.region ?_
   obtain ⟨ho_2, hM⟩ := hM
   refine oV (.int .i64 (n_1 + 1)) (q_addN _ rfl rfl rfl ho_2.1 ho_2.2) rfl ?_
   refine oM (.int .i64 (n_1 + 1)) rfl rfl ?_
   refine HO.nil (thenQ_normal (?_))
   rw [hKe_1] at hM
   exact ⟨n_1 + 1, ⟨F_1, rfl, rfl, rfl, rfl, rfl, hK, hS, hL_s1, hF_cf_f, hM.1⟩, hM.2⟩
 ·
  replace hM := hM.2 (of_decide_eq_false c_1)
  refine HW.exit (thenQ_exit (thenQ_exit (blockQ_exit (thenQ_normal (?_)))))
  refine HW.seq ?_
  refine HW.region ?_
  refine oA (.int .i64 (-1)) rfl rfl ?_
  refine HO.nil (thenQ_normal (?_))
  refine HW.ret (?_)
  refine ⟨.inr rfl, .int .i64 (-1), res1 rfl (rt rfl), ?_⟩
  exact ⟨F_1, (-1), rfl, hK, hS, hL_s1, hF_cf_f, hM⟩

def slices_ContainsFunc_s_api_Branch_api_Branch_W (s1 : List T_api_Branch) (cf_f : T_api_Branch → Bool) (Q : Bool → Prop) : Prop :=
 slices_IndexFunc_s_api_Branch_api_Branch_W s1 cf_f (fun r_2 => Q (decide (0 ≤ r_2)))
set_option maxHeartbeats 40000000 in
set_option maxRecDepth 100000 in
theorem slices_ContainsFunc_s_api_Branch_api_Branch_walk {F : Fz} {fr : List Ow} {h0 : Heap} (s1 : List T_api_Branch) (cf_f : T_api_Branch → Bool) (vs : Value) (g_f : Nat) (fs_f : Array Value) (cs_f : Array Value) (hS : St F (fr) h0) (hL_s1 : SliceF F h0 2 e_api_Branch vs s1) (hF_cf_f : FnP Tryz.prog F h0 g_f fs_f cs_f (fun x : T_api_Branch => [.agg #[.int .i64 x.1, .int .i64 x.2]]) (fun x => .bool (cf_f x))) {Q : Bool → Prop} (hM : slices_ContainsFunc_s_api_Branch_api_Branch_W s1 cf_f Q) :
  HC Tryz.prog 73 #[vs, .func (.func g_f) fs_f cs_f] h0 fun u h' => ∃ (F' : Fz) (r_1 : Bool), u = .bool r_1 ∧ Kp F h0 F' h' ∧ St F' (fr) h' ∧ (SliceF F' h' 2 e_api_Branch vs s1) ∧ (FnP Tryz.prog F' h' g_f fs_f cs_f (fun x : T_api_Branch => [.agg #[.int .i64 x.1, .int .i64 x.2]]) (fun x => .bool (cf_f x))) ∧ Q r_1 := by
 unfold slices_ContainsFunc_s_api_Branch_api_Branch_W at hM
 have hK := Kp.refl F h0
 refine HC.of_HW (n := 9) Tryz.func73 rfl rfl (Nat.le_of_ble_eq_true rfl) ?_
 refine HW.seq ?_
 refine HW.region ?_
 refine oA (.bool false) rfl rfl ?_
 refine HO.nil (thenQ_normal (?_))
 refine HW.seq ?_
 refine HW.region ?_
 refine oM (vs) rfl rfl ?_
 refine oM (.func (.func g_f) fs_f cs_f) rfl rfl ?_
 refine HO.call (want_none) rfl (ec en_71 rfl rfl) (slices_IndexFunc_s_api_Branch_api_Branch_walk (fr := (fr)) s1 cf_f vs g_f fs_f cs_f hS hL_s1 hF_cf_f hM) ?_
 rintro _ h_1 ⟨F_1, r_2, rfl, hk, hS, _, _, hM⟩
 replace hK := hK.trans hk
 replace hL_s1 := hL_s1.kp hk
 replace hF_cf_f := hF_cf_f.kp hk
 refine oV (.bool (decide (0 ≤ r_2))) (q_geq rfl rfl) rfl ?_
 refine oA (.bool (decide (0 ≤ r_2))) rfl rfl ?_
 refine HO.nil (thenQ_normal (?_))
 refine HW.ret (?_)
 refine ⟨.inr rfl, .bool (decide (0 ≤ r_2)), res1 rfl (rt rfl), ?_⟩
 exact ⟨F_1, decide (0 ≤ r_2), rfl, hK, hS, hL_s1, hF_cf_f, hM⟩

def tree_has_W (t_Root : Int) (t_Links : List T_api_Branch) (n : Int) (Q : Bool → Prop) : Prop :=
 (n = t_Root → Q true) ∧ (¬ (n = t_Root) → ∃ cf_1 : T_api_Branch → Bool, (∀ x0, tree_has_1_W x0 n (fun r => r = cf_1 x0)) ∧ (slices_ContainsFunc_s_api_Branch_api_Branch_W t_Links cf_1 (fun r_2 => Q r_2)))
set_option maxHeartbeats 40000000 in
set_option maxRecDepth 100000 in
theorem tree_has_walk {F : Fz} {fr : List Ow} {h0 : Heap} (t_Root : Int) (t_Links : List T_api_Branch) (n : Int) (vt_Links : Value) (hS : St F (fr) h0) (hL_t_Links : SliceF F h0 2 e_api_Branch vt_Links t_Links) {Q : Bool → Prop} (hM : tree_has_W t_Root t_Links n Q) :
  HC Tryz.prog 51 #[.agg #[.int .i64 t_Root, vt_Links], .int .i64 n] h0 fun u h' => ∃ (F' : Fz) (r_1 : Bool), u = .bool r_1 ∧ Kp F h0 F' h' ∧ St F' (fr) h' ∧ (SliceF F' h' 2 e_api_Branch vt_Links t_Links) ∧ Q r_1 := by
 unfold tree_has_W at hM
 have hK := Kp.refl F h0
 refine HC.of_HW (n := 15) Tryz.func51 rfl rfl (Nat.le_of_ble_eq_true rfl) ?_
 refine HW.seq ?_
 refine HW.region ?_
 refine HO.eff (want_none) rfl (st_box (c := #[.int .i64 t_Root, vt_Links]) (k' := 2) hS rfl rfl) ?_
 rintro _ h_1 ⟨b_1, rfl, hS, hk⟩
 replace hK := hK.trans hk
 replace hL_t_Links := hL_t_Links.kp hk
 refine HO.eff (want_none) rfl (st_box (c := #[.int .i64 n]) (k' := 1) hS rfl rfl) ?_
 rintro _ h_2 ⟨b_2, rfl, hS, hk⟩
 replace hK := hK.trans hk
 replace hL_t_Links := hL_t_Links.kp hk
 refine oA (.bool false) rfl rfl ?_
 refine HO.nil (thenQ_normal (?_))
 refine HW.seq ?_
 refine HW.region ?_
 refine oV (.int .i64 n) (q_load to_3 rfl (Blk.cell (hS.box 0 rfl) rfl)) rfl ?_
 refine oV (.pointer (some ⟨b_1, 0, none⟩)) (q_fieldAddr fa_24_0 rfl rfl) rfl ?_
 refine oV (.int .i64 t_Root) (q_load to_3 rfl (Blk.cell (hS.box 1 rfl) rfl)) rfl ?_
 refine oV (.bool (decide (n = t_Root))) (q_eql rfl rfl) rfl ?_
 refine oM (.bool (decide (n = t_Root))) rfl rfl ?_
 rcases Bool.eq_false_or_eq_true (decide (n = t_Root)) with c_1 | c_1
 ·
  replace hM := hM.1 (of_decide_eq_true c_1)
  refine HO.past (past_by rfl rfl c_1) rfl ?_
  refine HO.past (past_by rfl rfl c_1) rfl ?_
  refine HO.past (past_by rfl rfl c_1) rfl ?_
  refine HO.past (past_by rfl rfl c_1) rfl ?_
  refine oV (.bool true) (q_pickK true rfl c_1 rfl) rfl ?_
  refine oA (.bool true) rfl rfl ?_
  refine HO.nil (thenQ_normal (?_))
  refine HW.ret (?_)
  refine ⟨.inr rfl, .bool true, res1 rfl (rt rfl), ?_⟩
  replace hS : St F (fr) h_2 := hS.perm2 [] 2 rfl rfl
  exact ⟨F, true, rfl, hK, hS, hL_t_Links, hM⟩
 ·
  replace hM := hM.2 (of_decide_eq_false c_1)
  refine HO.val (v := .pointer (some ⟨b_1, 1, none⟩)) (want_by rfl rfl c_1) rfl (q_fieldAddr fa_24_1 rfl rfl) ?_
  refine HO.val (v := vt_Links) (want_by rfl rfl c_1) rfl (q_load to_22 rfl (Blk.cell (hS.box 1 rfl) rfl)) ?_
  refine HO.val (v := .func (.func 74) #[] #[.pointer (some ⟨b_2, 0, none⟩)]) (want_by rfl rfl c_1) rfl (q_makeFunc rfl rfl) ?_
  have hZ_1 := hS
  have hkz_1 := (hS.freeze).2
  replace hS := hS.freeze.1
  have hL_1 := hZ_1.lent
  obtain ⟨cf_1, hc_1, hM⟩ := hM
  have hF_1 : FnP Tryz.prog (fun bz_ => F bz_ ∨ (Ow.box b_2 3 #[.int .i64 n]).foot bz_) h_2 74 #[] #[.pointer (some ⟨b_2, 0, none⟩)] (fun x : T_api_Branch => [.agg #[.int .i64 x.1, .int .i64 x.2]]) (fun x => .bool (cf_1 x)) := FnP.of en_74 (fun x h' hk_ => @HC.mono ⟨true⟩ _ _ _ _ _ _ (@tree_has_1_walk ⟨true⟩ (allF h') [] h' x n b_2 (St.init h') (hL_1.kp hk_) (fun r => r = cf_1 x) (hc_1 x)) (fun u h'' ⟨F', r, hu, k_, _, _, hr⟩ => ⟨by rw [hu, hr], F', k_⟩))
  refine HO.call (want_by rfl rfl c_1) rfl (ec en_73 rfl rfl) (slices_ContainsFunc_s_api_Branch_api_Branch_walk (fr := (Ow.box b_1 24 #[.int .i64 t_Root, vt_Links] :: fr)) t_Links cf_1 vt_Links 74 (#[]) (#[.pointer (some ⟨b_2, 0, none⟩)]) hS (hL_t_Links.kp hkz_1) hF_1 hM) ?_
  rintro _ h_3 ⟨F_1, r_2, rfl, hk, hS, _, _, hM⟩
  obtain ⟨hS, hk⟩ := hZ_1.back hk hS
  generalize (fun bz_ => F_1 bz_ ∧ ¬ (Ow.box b_2 3 #[.int .i64 n]).foot bz_) = F_2 at hS hk
  replace hK := hK.trans hk
  replace hL_t_Links := hL_t_Links.kp hk
  refine oV (.bool r_2) (q_pickK false rfl c_1 rfl) rfl ?_
  refine oA (.bool r_2) rfl rfl ?_
  refine HO.nil (thenQ_normal (?_))
  refine HW.ret (?_)
  refine ⟨.inr rfl, .bool r_2, res1 rfl (rt rfl), ?_⟩
  replace hS : St F_2 (fr) h_3 := hS.perm2 [] 2 rfl rfl
  exact ⟨F_2, r_2, rfl, hK, hS, hL_t_Links, hM⟩

def tree_parent_1_W (l : T_api_Branch) (c0_v : Int) (Q : Bool → Prop) : Prop :=
 Q (decide (l.2 = c0_v))
set_option maxHeartbeats 40000000 in
set_option maxRecDepth 100000 in
theorem tree_parent_1_walk {F : Fz} {fr : List Ow} {h0 : Heap} (l : T_api_Branch) (c0_v : Int) (bc0 : Nat) (hS : St F (fr) h0) (hB_bc0 : RoF (Ow.box bc0 3 #[.int .i64 c0_v]) F h0) {Q : Bool → Prop} (hM : tree_parent_1_W l c0_v Q) :
  HC Tryz.prog 72 #[.agg #[.int .i64 l.1, .int .i64 l.2], .pointer (some ⟨bc0, 0, none⟩)] h0 fun u h' => ∃ (F' : Fz) (r_1 : Bool), u = .bool r_1 ∧ Kp F h0 F' h' ∧ St F' (fr) h' ∧ (RoF (Ow.box bc0 3 #[.int .i64 c0_v]) F' h') ∧ Q r_1 := by
 unfold tree_parent_1_W at hM
 have hK := Kp.refl F h0
 refine HC.of_HW (n := 8) Tryz.func72 rfl rfl (Nat.le_of_ble_eq_true rfl) ?_
 refine HW.seq ?_
 refine HW.region ?_
 refine HO.eff (want_none) rfl (st_box (c := #[.int .i64 l.1, .int .i64 l.2]) (k' := 2) hS rfl rfl) ?_
 rintro _ h_1 ⟨b_1, rfl, hS, hk⟩
 replace hK := hK.trans hk
 replace hB_bc0 := hB_bc0.kp hk
 refine oA (.bool false) rfl rfl ?_
 refine HO.nil (thenQ_normal (?_))
 refine HW.seq ?_
 refine HW.region ?_
 refine oV (.pointer (some ⟨b_1, 1, none⟩)) (q_fieldAddr fa_46_1 rfl rfl) rfl ?_
 refine oV (.int .i64 l.2) (q_load to_3 rfl (Blk.cell (hS.box 0 rfl) rfl)) rfl ?_
 refine oV (.int .i64 c0_v) (q_load to_3 rfl (Blk.cell hB_bc0.box rfl)) rfl ?_
 refine oV (.bool (decide (l.2 = c0_v))) (q_eql rfl rfl) rfl ?_
 refine oA (.bool (decide (l.2 = c0_v))) rfl rfl ?_
 refine HO.nil (thenQ_normal (?_))
 refine HW.ret (?_)
 refine ⟨.inr rfl, .bool (decide (l.2 = c0_v)), res1 rfl (rt rfl), ?_⟩
 replace hS : St F (fr) h_1 := hS.perm2 [] 1 rfl rfl
 exact ⟨F, decide (l.2 = c0_v), rfl, hK, hS, hB_bc0, hM⟩

def tree_parent_W (t_Root : Int) (t_Links : List T_api_Branch) (n : Int) (Q : Int → Bool → Prop) : Prop :=
 ∃ cf_1 : T_api_Branch → Bool, (∀ x0, tree_parent_1_W x0 n (fun r => r = cf_1 x0)) ∧ (slices_IndexFunc_s_api_Branch_api_Branch_W t_Links cf_1 (fun r_1 => (r_1 < 0 → Q 0 false) ∧ (¬ (r_1 < 0) → ((0 : Int) ≤ r_1 ∧ r_1 < (t_Links.length : Int)) ∧ (Q ((gi t_Links r_1).1) true))))
set_option maxHeartbeats 40000000 in
set_option maxRecDepth 100000 in
theorem tree_parent_walk {F : Fz} {fr : List Ow} {h0 : Heap} (t_Root : Int) (t_Links : List T_api_Branch) (n : Int) (vt_Links : Value) (hS : St F (fr) h0) (hL_t_Links : SliceF F h0 2 e_api_Branch vt_Links t_Links) {Q : Int → Bool → Prop} (hM : tree_parent_W t_Root t_Links n Q) :
  HC Tryz.prog 49 #[.agg #[.int .i64 t_Root, vt_Links], .int .i64 n] h0 fun u h' => ∃ (F' : Fz) (r0_1 : Int) (r1_1 : Bool), u = .tuple #[.int .i64 r0_1, .bool r1_1] ∧ Kp F h0 F' h' ∧ St F' (fr) h' ∧ (SliceF F' h' 2 e_api_Branch vt_Links t_Links) ∧ Q r0_1 r1_1 := by
 unfold tree_parent_W at hM
 have hK := Kp.refl F h0
 refine HC.of_HW (n := 19) Tryz.func49 rfl rfl (Nat.le_of_ble_eq_true rfl) ?_
 refine HW.seq ?_
 refine HW.region ?_
 refine HO.eff (want_none) rfl (st_box (c := #[.int .i64 t_Root, vt_Links]) (k' := 2) hS rfl rfl) ?_
 rintro _ h_1 ⟨b_1, rfl, hS, hk⟩
 replace hK := hK.trans hk
 replace hL_t_Links := hL_t_Links.kp hk
 refine HO.eff (want_none) rfl (st_box (c := #[.int .i64 n]) (k' := 1) hS rfl rfl) ?_
 rintro _ h_2 ⟨b_2, rfl, hS, hk⟩
 replace hK := hK.trans hk
 replace hL_t_Links := hL_t_Links.kp hk
 refine oA (.int .i64 0) rfl rfl ?_
 refine oA (.bool false) rfl rfl ?_
 refine HO.nil (thenQ_normal (?_))
 refine HW.seq ?_
 refine HW.region ?_
 refine oV (.pointer (some ⟨b_1, 1, none⟩)) (q_fieldAddr fa_24_1 rfl rfl) rfl ?_
 refine oV (vt_Links) (q_load to_22 rfl (Blk.cell (hS.box 1 rfl) rfl)) rfl ?_
 refine oV (.func (.func 72) #[] #[.pointer (some ⟨b_2, 0, none⟩)]) (q_makeFunc rfl rfl) rfl ?_
 have hZ_1 := hS
 have hkz_1 := (hS.freeze).2
 replace hS := hS.freeze.1
 have hL_1 := hZ_1.lent
 obtain ⟨cf_1, hc_1, hM⟩ := hM
 have hF_1 : FnP Tryz.prog (fun bz_ => F bz_ ∨ (Ow.box b_2 3 #[.int .i64 n]).foot bz_) h_2 72 #[] #[.pointer (some ⟨b_2, 0, none⟩)] (fun x : T_api_Branch => [.agg #[.int .i64 x.1, .int .i64 x.2]]) (fun x => .bool (cf_1 x)) := FnP.of en_72 (fun x h' hk_ => @HC.mono ⟨true⟩ _ _ _ _ _ _ (@tree_parent_1_walk ⟨true⟩ (allF h') [] h' x n b_2 (St.init h') (hL_1.kp hk_) (fun r => r = cf_1 x) (hc_1 x)) (fun u h'' ⟨F', r, hu, k_, _, _, hr⟩ => ⟨by rw [hu, hr], F', k_⟩))
 refine HO.call (want_none) rfl (ec en_71 rfl rfl) (slices_IndexFunc_s_api_Branch_api_Branch_walk (fr := (Ow.box b_1 24 #[.int .i64 t_Root, vt_Links] :: fr)) t_Links cf_1 vt_Links 72 (#[]) (#[.pointer (some ⟨b_2, 0, none⟩)]) hS (hL_t_Links.kp hkz_1) hF_1 hM) ?_
 rintro _ h_3 ⟨F_1, r_1, rfl, hk, hS, _, _, hM⟩
 obtain ⟨hS, hk⟩ := hZ_1.back hk hS
 generalize (fun bz_ => F_1 bz_ ∧ ¬ (Ow.box b_2 3 #[.int .i64 n]).foot bz_) = F_2 at hS hk
 replace hK := hK.trans hk
 replace hL_t_Links := hL_t_Links.kp hk
 refine oA (.int .i64 r_1) rfl rfl ?_
 refine HO.nil (thenQ_normal (?_))
 refine HW.seq ?_
 refine HW.seq ?_
 refine HW.region ?_
 refine oM (.int .i64 r_1) rfl rfl ?_
 refine oV (.bool (decide (r_1 < 0))) (q_lss rfl rfl) rfl ?_
 refine HO.nil (thenQ_normal (?_))
 refine HW.cond (decide (r_1 < 0)) rfl (fun c_1 => ?_) (fun c_1 => ?_)
 ·
  replace hM := hM.1 (of_decide_eq_true c_1)
  refine HW.seq ?_
  refine HW.region ?_
  refine oA (.int .i64 0) rfl rfl ?_
  refine oA (.bool false) rfl rfl ?_
  refine HO.nil (thenQ_normal (?_))
  refine HW.ret (thenQ_ret (?_))
  refine ⟨.inr rfl, .tuple #[.int .i64 0, .bool false], res2 rfl (rt rfl) (rt rfl), ?_⟩
  replace hS : St F_2 (fr) h_3 := hS.perm2 [] 2 rfl rfl
  exact ⟨F_2, 0, false, rfl, hK, hS, hL_t_Links, hM⟩
 ·
  replace hM := hM.2 (of_decide_eq_false c_1)
  refine HW.skip (thenQ_normal (?_))
  refine HW.seq ?_
  refine HW.region ?_
  refine oV (.pointer (some ⟨b_1, 1, none⟩)) (q_fieldAddr fa_24_1 rfl rfl) rfl ?_
  refine oV (vt_Links) (q_load to_22 rfl (Blk.cell (hS.box 1 rfl) rfl)) rfl ?_
  refine oM (.int .i64 r_1) rfl rfl ?_
  obtain ⟨ho_1, hM⟩ := hM
  refine oV (elemPtr 2 vt_Links (r_1).toNat) (q_idx ts_22 hL_t_Links.is rfl rfl ho_1) rfl ?_
  refine oV (fieldPtr 2 vt_Links (r_1).toNat 0) (q_fldElem fa_46_0 hL_t_Links.is rfl ho_1) rfl ?_
  refine oV (.int .i64 ((gi t_Links r_1).1)) (q_ldField to_3 hL_t_Links.is rfl ho_1 (by decide) rfl) rfl ?_
  refine oA (.int .i64 ((gi t_Links r_1).1)) rfl rfl ?_
  refine oA (.bool true) rfl rfl ?_
  refine HO.nil (thenQ_normal (?_))
  refine HW.ret (?_)
  refine ⟨.inr rfl, .tuple #[.int .i64 ((gi t_Links r_1).1), .bool true], res2 rfl (rt rfl) (rt rfl), ?_⟩
  replace hS : St F_2 (fr) h_3 := hS.perm2 [] 2 rfl rfl
  exact ⟨F_2, (gi t_Links r_1).1, true, rfl, hK, hS, hL_t_Links, hM⟩

def slices_Reverse_s_int_int_l1 (Q : (List Int) → Prop) (K_1 : (List Int) → Int → Int → Prop) (a0_2 : List Int) (i_1 : Int) (j_1 : Int) : Prop :=
 (i_1 < j_1 → ((0 : Int) ≤ j_1 ∧ j_1 < (a0_2.length : Int)) ∧ (((0 : Int) ≤ i_1 ∧ i_1 < (a0_2.length : Int)) ∧ (((0 : Int) ≤ j_1 ∧ j_1 < ((a0_2.set (i_1).toNat (gi a0_2 j_1)).length : Int)) ∧ ((I64 (i_1 + 1)) ∧ ((I64 (j_1 - 1)) ∧ (K_1 ((a0_2.set (i_1).toNat (gi a0_2 j_1)).set (j_1).toNat (gi a0_2 i_1)) (i_1 + 1) (j_1 - 1))))))) ∧ (¬ (i_1 < j_1) → Q a0_2)
def slices_Reverse_s_int_int_W (s1 : List Int) (Q : (List Int) → Prop) : Prop :=
 (I64 ((s1.length : Int) - 1)) ∧ (loopW (fun (K_1 : (List Int × Int × Int) → Prop) (s : List Int × Int × Int) => slices_Reverse_s_int_int_l1 Q (fun a0_2 i_1 j_1 => K_1 (a0_2, i_1, j_1)) s.1 s.2.1 s.2.2) (s1, 0, (s1.length : Int) - 1))
set_option maxHeartbeats 40000000 in
set_option maxRecDepth 100000 in
theorem slices_Reverse_s_int_int_walk {F : Fz} {fr : List Ow} {h0 : Heap} (s1 : List Int) (vs : Value) (hS : St F (Ow.own 3 1 encI vs s1 :: fr) h0)  {Q : (List Int) → Prop} (hM : slices_Reverse_s_int_int_W s1 Q) :
  HC Tryz.prog 76 #[vs] h0 fun u h' => ∃ (F' : Fz) (a0_1 : List Int), u = .tuple #[] ∧ Kp F h0 F' h' ∧ St F' (Ow.own 3 1 encI vs a0_1 :: fr) h' ∧ Q a0_1 := by
 unfold slices_Reverse_s_int_int_W at hM
 have hK := Kp.refl F h0
 refine HC.of_HW (n := 28) Tryz.func76 rfl rfl (Nat.le_of_ble_eq_true rfl) ?_
 refine HW.seq ?_
 refine HW.region ?_
 refine oM (vs) rfl rfl ?_
 refine oV (.int .i64 (s1.length : Int)) (q_len ts_36 (shp (hS.own 0 rfl).slice) rfl rfl) rfl ?_
 obtain ⟨ho_1, hM⟩ := hM
 refine oV (.int .i64 ((s1.length : Int) - 1)) (q_subN _ rfl rfl rfl ho_1.1 ho_1.2) rfl ?_
 refine oA (.int .i64 0) rfl rfl ?_
 refine oA (.int .i64 ((s1.length : Int) - 1)) rfl rfl ?_
 refine HO.nil (thenQ_normal (?_))
 refine HW.block ?_
 obtain ⟨I_1, m_1, hI_1, hR_1⟩ := hM
 refine HW.loop (S := List Int × Int × Int) (fun s f h => match s with | (a0_2, i_1, j_1) => ∃ (F' : Fz), f 0 = vs ∧ f 2 = .int .i64 i_1 ∧ f 3 = .int .i64 j_1 ∧ Kp F h0 F' h ∧ St F' (Ow.own 3 1 encI vs a0_2 :: fr) h ∧ I_1 (a0_2, i_1, j_1)) m_1 (s1, 0, (s1.length : Int) - 1) ⟨F, rfl, rfl, rfl, hK, hS, hI_1⟩ ?_
 rintro ⟨a0_2, i_1, j_1⟩ f_1 h_1 ⟨F_1, e0, e2, e3, hK, hS, hI0⟩
 obtain ⟨K_1, hKe_1⟩ : ∃ K : (List Int) → Int → Int → Prop, K = fun a0_2' i_1' j_1' => I_1 (a0_2', i_1', j_1') ∧ m_1 (a0_2', i_1', j_1') < m_1 (a0_2, i_1, j_1) := ⟨_, rfl⟩
 have hM : slices_Reverse_s_int_int_l1 Q K_1 a0_2 i_1 j_1 := by rw [hKe_1]; exact hR_1 (a0_2, i_1, j_1) hI0
 unfold slices_Reverse_s_int_int_l1 at hM
 refine HW.fr [(0, vs), (2, .int .i64 i_1), (3, .int .i64 j_1)] ⟨e0, e2, e3, trivial⟩ ?_
 refine HW.seq ?_
 refine HW.seq ?_
 refine HW.region ?_
 refine oM (.int .i64 i_1) rfl rfl ?_
 refine oM (.int .i64 j_1) rfl rfl ?_
 refine oV (.bool (decide (i_1 < j_1))) (q_lss rfl rfl) rfl ?_
 refine HO.nil (thenQ_normal (?_))
 refine HW.cond (decide (i_1 < j_1)) rfl (fun c_1 => ?_) (fun c_1 => ?_)
 ·
  replace hM := hM.1 (of_decide_eq_true c_1)
  refine HW.skip (thenQ_normal (?_))
  refine HW.seq ?_
  refine HW.block ?_
  refine HW.regionA 16 mixed (fun h => True) [(13, fun h => (OwnIs h 0 3 1 encI vs a0_2))] (by kernel_rfl) ?_
  refine HA.val (k := 0) (v := vs) rfl rfl (by kernel_rfl) (by kernel_rfl) (want_none) rfl (fun _ _ => q_move rfl) ?_
  refine HA.val (k := 1) (v := .int .i64 i_1) rfl rfl (by kernel_rfl) (by kernel_rfl) (want_none) rfl (fun _ _ => q_move rfl) ?_
  refine HA.val (k := 2) (v := vs) rfl rfl (by kernel_rfl) (by kernel_rfl) (want_none) rfl (fun _ _ => q_move rfl) ?_
  refine HA.val (k := 3) (v := .int .i64 j_1) rfl rfl (by kernel_rfl) (by kernel_rfl) (want_none) rfl (fun _ _ => q_move rfl) ?_
  refine HA.val (k := 4) (v := vs) rfl rfl (by kernel_rfl) (by kernel_rfl) (want_none) rfl (fun _ _ => q_move rfl) ?_
  refine HA.val (k := 5) (v := .int .i64 j_1) rfl rfl (by kernel_rfl) (by kernel_rfl) (want_none) rfl (fun _ _ => q_move rfl) ?_
  obtain ⟨ho_2, hM⟩ := hM
  refine Go.Wk.HA.valN (k := 6) (v := elemPtr 1 vs (j_1).toNat) 0 13 (fun h => (OwnIs h 0 3 1 encI vs a0_2)) rfl rfl (by kernel_rfl) (by kernel_rfl) (want_none) rfl rfl (by kernel_rfl) (fun _ _ c353 => q_idx ts_36 c353.slice rfl rfl ho_2) ?_
  refine Go.Wk.HA.valN (k := 7) (v := .int .i64 (gi a0_2 j_1)) 0 13 (fun h => (OwnIs h 0 3 1 encI vs a0_2)) rfl rfl (by kernel_rfl) (by kernel_rfl) (want_none) rfl rfl (by kernel_rfl) (fun _ _ c353 => q_ldElem to_3 c353.slice rfl ho_2 rfl) ?_
  refine HA.val (k := 8) (v := vs) rfl rfl (by kernel_rfl) (by kernel_rfl) (want_none) rfl (fun _ _ => q_move rfl) ?_
  refine HA.val (k := 9) (v := .int .i64 i_1) rfl rfl (by kernel_rfl) (by kernel_rfl) (want_none) rfl (fun _ _ => q_move rfl) ?_
  obtain ⟨ho_3, hM⟩ := hM
  refine Go.Wk.HA.valN (k := 10) (v := elemPtr 1 vs (i_1).toNat) 0 13 (fun h => (OwnIs h 0 3 1 encI vs a0_2)) rfl rfl (by kernel_rfl) (by kernel_rfl) (want_none) rfl rfl (by kernel_rfl) (fun _ _ c353 => q_idx ts_36 c353.slice rfl rfl ho_3) ?_
  refine Go.Wk.HA.valN (k := 11) (v := .int .i64 (gi a0_2 i_1)) 0 13 (fun h => (OwnIs h 0 3 1 encI vs a0_2)) rfl rfl (by kernel_rfl) (by kernel_rfl) (want_none) rfl rfl (by kernel_rfl) (fun _ _ c353 => q_ldElem to_3 c353.slice rfl ho_3 rfl) ?_
  refine Go.Wk.HA.valN (k := 12) (v := elemPtr 1 vs (i_1).toNat) 0 13 (fun h => (OwnIs h 0 3 1 encI vs a0_2)) rfl rfl (by kernel_rfl) (by kernel_rfl) (want_none) rfl rfl (by kernel_rfl) (fun _ _ c353 => q_idx ts_36 c353.slice rfl rfl ho_3) ?_
  refine HA.one (k := 13) ⟨trivial, (at_now (hS.own 0 rfl) (Go.Wk.at_nil _ _))⟩ (by kernel_rfl) ?_
  refine HS.sto rfl (want_none) rfl (st_storeField (a := (gi a0_2 j_1)) (n := (i_1).toNat) (j := 0) hS (i := 0) rfl to_3 (elem_field _ _ _) (by omega) (by decide) rfl (by rw [← gi_lt ho_3.1 ho_3.2]; rfl) rfl rfl) ?_
  rintro h_2 ⟨hS, hk⟩
  replace hS : St F_1 (Ow.own 3 1 encI vs (a0_2.set (i_1).toNat (gi a0_2 j_1)) :: fr) h_2 := hS
  replace hK := hK.trans hk
  refine Go.Wk.HA.re (fun h => True) [(15, fun h => (OwnIs h 0 3 1 encI vs (a0_2.set (i_1).toNat (gi a0_2 j_1))))] (fun L_ h_ hL_ _ hs_ => ⟨trivial, (at_gone hL_ (by kernel_rfl) (Go.Wk.at_nil _ _))⟩) ?_
  obtain ⟨ho_4, hM⟩ := hM
  refine Go.Wk.HA.valN (k := 14) (v := elemPtr 1 vs (j_1).toNat) 0 15 (fun h => (OwnIs h 0 3 1 encI vs (a0_2.set (i_1).toNat (gi a0_2 j_1)))) rfl rfl (by kernel_rfl) (by kernel_rfl) (want_none) rfl rfl (by kernel_rfl) (fun _ _ c353 => q_idx ts_36 c353.slice rfl rfl ho_4) ?_
  refine HA.one (k := 15) ⟨trivial, (at_now (hS.own 0 rfl) (Go.Wk.at_nil _ _))⟩ (by kernel_rfl) ?_
  refine HS.sto rfl (want_none) rfl (st_storeField (a := (gi a0_2 i_1)) (n := (j_1).toNat) (j := 0) hS (i := 0) rfl to_3 (elem_field _ _ _) (by omega) (by decide) rfl (by rw [← gi_lt ho_4.1 ho_4.2]; rfl) rfl rfl) ?_
  rintro h_3 ⟨hS, hk⟩
  replace hS : St F_1 (Ow.own 3 1 encI vs ((a0_2.set (i_1).toNat (gi a0_2 j_1)).set (j_1).toNat (gi a0_2 i_1)) :: fr) h_3 := hS
  replace hK := hK.trans hk
  refine HA.nil ⟨trivial, (at_done (by kernel_rfl) (Go.Wk.at_nil _ _))⟩ (by kernel_rfl) (blockQ_normal (thenQ_normal (?_)))
  refine HW.region ?_
  refine oM (.int .i64 i_1) rfl rfl ?_
  obtain ⟨ho_5, hM⟩ := hM
  refine oV (.int .i64 (i_1 + 1)) (q_addN _ rfl rfl rfl ho_5.1 ho_5.2) rfl ?_
  refine oM (.int .i64 j_1) rfl rfl ?_
  obtain ⟨ho_6, hM⟩ := hM
  refine oV (.int .i64 (j_1 - 1)) (q_subN _ rfl rfl rfl ho_6.1 ho_6.2) rfl ?_
  refine oA (.int .i64 (i_1 + 1)) rfl rfl ?_
  refine oA (.int .i64 (j_1 - 1)) rfl rfl ?_
  refine HO.nil (thenQ_normal (?_))
  rw [hKe_1] at hM
  exact ⟨((a0_2.set (i_1).toNat (gi a0_2 j_1)).set (j_1).toNat (gi a0_2 i_1), i_1 + 1, j_1 - 1), ⟨F_1, rfl, rfl, rfl, hK, hS, hM.1⟩, hM.2⟩
 ·
  replace hM := hM.2 (of_decide_eq_false c_1)
  refine HW.exit (thenQ_exit (thenQ_exit (blockQ_exit (?_))))
  refine ⟨.inl rfl, .tuple #[], res0 rfl , ?_⟩
  exact ⟨F_1, a0_2, rfl, hK, hS, hM⟩

def tree_path_l1 (t_Root : Int) (t_Links : List T_api_Branch) (Q : (List Int) → Prop) (K_1 : (List Int) → Int → Bool → Prop) (out_1 : List Int) (p_1 : Int) (ok_1 : Bool) : Prop :=
 (ok_1 = true → ((out_1.length + ([p_1] : List Int).length) * 8 ≤ 140737488355328) ∧ (tree_parent_W t_Root t_Links p_1 (fun r0_2 r1_2 => K_1 (out_1 ++ ([p_1] : List Int)) r0_2 r1_2))) ∧ (ok_1 = false → slices_Reverse_s_int_int_W out_1 (fun a0_1 => Q a0_1))
def tree_path_W (t_Root : Int) (t_Links : List T_api_Branch) (n : Int) (Q : (List Int) → Prop) : Prop :=
 tree_has_W t_Root t_Links n (fun r_2 => ((!r_2) = true → Q []) ∧ ((!r_2) = false → tree_parent_W t_Root t_Links n (fun r0_1 r1_1 => loopW (fun (K_1 : (List Int × Int × Bool) → Prop) (s : List Int × Int × Bool) => tree_path_l1 t_Root t_Links Q (fun out_1 p_1 ok_1 => K_1 (out_1, p_1, ok_1)) s.1 s.2.1 s.2.2) (([n] : List Int), r0_1, r1_1))))
set_option maxHeartbeats 40000000 in
set_option maxRecDepth 100000 in
theorem tree_path_walk {F : Fz} {fr : List Ow} {h0 : Heap} (t_Root : Int) (t_Links : List T_api_Branch) (n : Int) (vt_Links : Value) (hS : St F (fr) h0) (hL_t_Links : SliceF F h0 2 e_api_Branch vt_Links t_Links) {Q : (List Int) → Prop} (hM : tree_path_W t_Root t_Links n Q) :
  HC Tryz.prog 55 #[.agg #[.int .i64 t_Root, vt_Links], .int .i64 n] h0 fun u h' => ∃ (F' : Fz) (r_1 : List Int) (vr_1 : Value), u = vr_1 ∧ Kp F h0 F' h' ∧ St F' (Ow.own 3 1 encI vr_1 r_1 :: fr) h' ∧ (SliceF F' h' 2 e_api_Branch vt_Links t_Links) ∧ Q r_1 := by
 unfold tree_path_W at hM
 have hK := Kp.refl F h0
 refine HC.of_HW (n := 34) Tryz.func55 rfl rfl (Nat.le_of_ble_eq_true rfl) ?_
 refine HW.seq ?_
 refine HW.region ?_
 refine HO.eff (want_none) rfl (st_box (c := #[.int .i64 t_Root, vt_Links]) (k' := 2) hS rfl rfl) ?_
 rintro _ h_1 ⟨b_1, rfl, hS, hk⟩
 replace hK := hK.trans hk
 replace hL_t_Links := hL_t_Links.kp hk
 refine oA (.slice none 0 0) rfl rfl ?_
 refine HO.nil (thenQ_normal (?_))
 refine HW.seq ?_
 refine HW.region ?_
 refine oM (.int .i64 n) rfl rfl ?_
 refine HO.eff (want_none) rfl (st_lit (enc := encI) (cells := #[.int .i64 n]) #[.int .i64 0] ([n] : List Int) hS tl_36 (by decide) (by decide) (by kernel_rfl) (by kernel_rfl) rfl (by intro x hx; rfl) rfl) ?_
 rintro _ h_2 ⟨b_2, rfl, hS, hk⟩
 replace hK := hK.trans hk
 replace hL_t_Links := hL_t_Links.kp hk
 refine oA (.slice (some ⟨b_2, 0, none⟩) 1 1) rfl rfl ?_
 refine HO.nil (thenQ_normal (?_))
 refine HW.seq ?_
 refine HW.seq ?_
 refine HW.region ?_
 refine oV (.agg #[.int .i64 t_Root, vt_Links]) (q_loadAgg (cs := [.int .i64 t_Root, vt_Links]) ta_24 rfl rfl (Blk.cells (k := 2) (hS.box 1 rfl) rfl)) rfl ?_
 refine oM (.int .i64 n) rfl rfl ?_
 refine HO.call (want_none) rfl (ec en_51 rfl rfl) (tree_has_walk (fr := (Ow.own 3 1 encI (.slice (some ⟨b_2, 0, none⟩) 1 1) ([n] : List Int) :: Ow.box b_1 24 #[.int .i64 t_Root, vt_Links] :: fr)) t_Root t_Links n vt_Links hS hL_t_Links hM) ?_
 rintro _ h_3 ⟨F_1, r_2, rfl, hk, hS, _, hM⟩
 replace hK := hK.trans hk
 replace hL_t_Links := hL_t_Links.kp hk
 refine oV (.bool (!r_2)) (q_not rfl) rfl ?_
 refine HO.nil (thenQ_normal (?_))
 refine HW.cond (!r_2) rfl (fun c_1 => ?_) (fun c_1 => ?_)
 ·
  replace hM := hM.1 c_1
  refine HW.seq ?_
  refine HW.region ?_
  refine oA (.slice none 0 0) rfl rfl ?_
  refine HO.nil (thenQ_normal (?_))
  refine HW.ret (thenQ_ret (?_))
  refine ⟨.inr rfl, .slice none 0 0, res1 rfl (rt rfl), ?_⟩
  replace hS := hS.nilOwn 3 1 encI
  replace hS : St F_1 (Ow.own 3 1 encI (.slice none 0 0) ([] : List Int) :: fr) h_3 := hS.perm2 [0] 3 rfl rfl
  exact ⟨F_1, [], .slice none 0 0, rfl, hK, hS, hL_t_Links, hM⟩
 ·
  replace hM := hM.2 c_1
  refine HW.skip (thenQ_normal (?_))
  refine HW.seq ?_
  refine HW.seq ?_
  refine HW.region ?_
  refine oV (.agg #[.int .i64 t_Root, vt_Links]) (q_loadAgg (cs := [.int .i64 t_Root, vt_Links]) ta_24 rfl rfl (Blk.cells (k := 2) (hS.box 1 rfl) rfl)) rfl ?_
  refine oM (.int .i64 n) rfl rfl ?_
  refine HO.call (want_none) rfl (ec en_49 rfl rfl) (tree_parent_walk (fr := (Ow.own 3 1 encI (.slice (some ⟨b_2, 0, none⟩) 1 1) ([n] : List Int) :: Ow.box b_1 24 #[.int .i64 t_Root, vt_Links] :: fr)) t_Root t_Links n vt_Links hS hL_t_Links hM) ?_
  rintro _ h_4 ⟨F_2, r0_1, r1_1, rfl, hk, hS, _, hM⟩
  replace hK := hK.trans hk
  replace hL_t_Links := hL_t_Links.kp hk
  refine oM (.tuple #[.int .i64 r0_1, .bool r1_1]) rfl rfl ?_
  refine oV (.int .i64 r0_1) (q_extract rfl rfl) rfl ?_
  refine oV (.bool r1_1) (q_extract rfl rfl) rfl ?_
  refine oA (.int .i64 r0_1) rfl rfl ?_
  refine oA (.bool r1_1) rfl rfl ?_
  refine HO.nil (thenQ_normal (?_))
  refine HW.block ?_
  obtain ⟨I_1, m_1, hI_1, hR_1⟩ := hM
  replace hS : St F_2 (Ow.box b_1 24 #[.int .i64 t_Root, vt_Links] :: Ow.own 3 1 encI (.slice (some ⟨b_2, 0, none⟩) 1 1) ([n] : List Int) :: fr) h_4 := hS.perm2 [1, 0] 2 rfl rfl
  refine HW.loop (S := List Int × Int × Bool) (fun s f h => match s with | (out_1, p_1, ok_1) => ∃ (F' : Fz) (vout_1 : Value), f 2 = .pointer (some ⟨b_1, 0, none⟩) ∧ f 4 = .slice none 0 0 ∧ f 5 = vout_1 ∧ f 6 = .int .i64 p_1 ∧ f 7 = .bool ok_1 ∧ Kp F h0 F' h ∧ St F' (Ow.box b_1 24 #[.int .i64 t_Root, vt_Links] :: Ow.own 3 1 encI vout_1 out_1 :: fr) h ∧ (SliceF F' h 2 e_api_Branch vt_Links t_Links) ∧ I_1 (out_1, p_1, ok_1)) m_1 (([n] : List Int), r0_1, r1_1) ⟨F_2, .slice (some ⟨b_2, 0, none⟩) 1 1, rfl, rfl, rfl, rfl, rfl, hK, hS, hL_t_Links, hI_1⟩ ?_
  rintro ⟨out_1, p_1, ok_1⟩ f_1 h_5 ⟨F_3, vout_1, e2, e4, e5, e6, e7, hK, hS, hL_t_Links, hI0⟩
  obtain ⟨K_1, hKe_1⟩ : ∃ K : (List Int) → Int → Bool → Prop, K = fun out_1' p_1' ok_1' => I_1 (out_1', p_1', ok_1') ∧ m_1 (out_1', p_1', ok_1') < m_1 (out_1, p_1, ok_1) := ⟨_, rfl⟩
  have hM : tree_path_l1 t_Root t_Links Q K_1 out_1 p_1 ok_1 := by rw [hKe_1]; exact hR_1 (out_1, p_1, ok_1) hI0
  unfold tree_path_l1 at hM
  refine HW.fr [(2, .pointer (some ⟨b_1, 0, none⟩)), (4, .slice none 0 0), (5, vout_1), (6, .int .i64 p_1), (7, .bool ok_1)] ⟨e2, e4, e5, e6, e7, trivial⟩ ?_
  refine HW.seq ?_
  refine HW.seq ?_
  refine HW.region ?_
  refine oM (.bool ok_1) rfl rfl ?_
  refine HO.nil (thenQ_normal (?_))
  refine HW.cond ok_1 rfl (fun c_2 => ?_) (fun c_2 => ?_)
  ·
   replace hM := hM.1 c_2
   refine HW.skip (thenQ_normal (?_))
   refine HW.seq ?_
   refine HW.block ?_
   refine HW.region ?_
   refine oM (vout_1) rfl rfl ?_
   refine oM (.int .i64 p_1) rfl rfl ?_
   refine HO.eff (want_none) rfl (st_lit (enc := encI) (cells := #[.int .i64 p_1]) #[.int .i64 0] ([p_1] : List Int) hS tl_36 (by decide) (by decide) (by kernel_rfl) (by kernel_rfl) rfl (by intro x hx; rfl) rfl) ?_
   rintro _ h_6 ⟨b_3, rfl, hS, hk⟩
   replace hK := hK.trans hk
   replace hL_t_Links := hL_t_Links.kp hk
   obtain ⟨ho_1, hM⟩ := hM
   refine HO.eff (want_none) rfl (st_append te_36 hS (i := 2) rfl (hS.own 0 rfl).slice rfl rfl rfl (by intro a _ u hu; simp [encI, encI, encN, encB, encT] at hu; subst hu; rfl) ho_1 (by omega)) ?_
   rintro v_1 h_7 ⟨hS, hk⟩
   replace hS : St F_3 (Ow.own 3 1 encI (.slice (some ⟨b_3, 0, none⟩) 1 1) ([p_1] : List Int) :: Ow.box b_1 24 #[.int .i64 t_Root, vt_Links] :: Ow.own 3 1 encI v_1 (out_1 ++ ([p_1] : List Int)) :: fr) h_7 := hS
   replace hK := hK.trans hk
   replace hL_t_Links := hL_t_Links.kp hk
   refine oA (v_1) rfl rfl ?_
   refine HO.nil (blockQ_normal (thenQ_normal (?_)))
   refine HW.region ?_
   refine oV (.agg #[.int .i64 t_Root, vt_Links]) (q_loadAgg (cs := [.int .i64 t_Root, vt_Links]) ta_24 rfl rfl (Blk.cells (k := 2) (hS.box 1 rfl) rfl)) rfl ?_
   refine oM (.int .i64 p_1) rfl rfl ?_
   refine HO.call (want_none) rfl (ec en_49 rfl rfl) (tree_parent_walk (fr := (Ow.own 3 1 encI (.slice (some ⟨b_3, 0, none⟩) 1 1) ([p_1] : List Int) :: Ow.box b_1 24 #[.int .i64 t_Root, vt_Links] :: Ow.own 3 1 encI v_1 (out_1 ++ ([p_1] : List Int)) :: fr)) t_Root t_Links p_1 vt_Links hS hL_t_Links hM) ?_
   rintro _ h_8 ⟨F_4, r0_2, r1_2, rfl, hk, hS, _, hM⟩
   replace hK := hK.trans hk
   replace hL_t_Links := hL_t_Links.kp hk
   refine oM (.tuple #[.int .i64 r0_2, .bool r1_2]) rfl rfl ?_
   refine oV (.int .i64 r0_2) (q_extract rfl rfl) rfl ?_
   refine oV (.bool r1_2) (q_extract rfl rfl) rfl ?_
   refine oA (.int .i64 r0_2) rfl rfl ?_
   refine oA (.bool r1_2) rfl rfl ?_
   refine HO.nil (thenQ_normal (?_))
   replace hS : St F_4 (Ow.box b_1 24 #[.int .i64 t_Root, vt_Links] :: Ow.own 3 1 encI v_1 (out_1 ++ ([p_1] : List Int)) :: fr) h_8 := hS.perm2 [1, 2] 3 rfl rfl
   rw [hKe_1] at hM
   exact ⟨(out_1 ++ ([p_1] : List Int), r0_2, r1_2), ⟨F_4, v_1, rfl, rfl, rfl, rfl, rfl, hK, hS, hL_t_Links, hM.1⟩, hM.2⟩
  ·
   replace hM := hM.2 c_2
   refine HW.exit (thenQ_exit (thenQ_exit (blockQ_exit (thenQ_normal (?_)))))
   refine HW.seq ?_
   refine HW.region ?_
   refine oM (vout_1) rfl rfl ?_
   replace hS : St F_3 (Ow.own 3 1 encI vout_1 out_1 :: Ow.box b_1 24 #[.int .i64 t_Root, vt_Links] :: fr) h_5 := hS.perm2 [1, 0] 2 rfl rfl
   refine HO.call (want_none) rfl (ec en_76 rfl rfl) (slices_Reverse_s_int_int_walk (fr := (Ow.box b_1 24 #[.int .i64 t_Root, vt_Links] :: fr)) out_1 vout_1 hS hM) ?_
   rintro _ h_9 ⟨F_5, a0_1, rfl, hk, hS, hM⟩
   replace hK := hK.trans hk
   replace hL_t_Links := hL_t_Links.kp hk
   refine HO.nil (thenQ_normal (?_))
   refine HW.seq ?_
   refine HW.region ?_
   refine oM (vout_1) rfl rfl ?_
   refine oA (vout_1) rfl rfl ?_
   refine HO.nil (thenQ_normal (?_))
   refine HW.ret (?_)
   refine ⟨.inr rfl, vout_1, res1 rfl (rt rfl), ?_⟩
   replace hS : St F_5 (Ow.own 3 1 encI vout_1 a0_1 :: fr) h_9 := hS.perm2 [0] 2 rfl rfl
   exact ⟨F_5, a0_1, vout_1, rfl, hK, hS, hL_t_Links, hM⟩

def tree_Path_W (t_Root : Int) (t_Links : List T_api_Branch) (n : Int) (Q : (List Int) → Prop) : Prop :=
 tree_path_W t_Root t_Links n (fun r_2 => Q r_2)
set_option maxHeartbeats 40000000 in
set_option maxRecDepth 100000 in
theorem tree_Path_walk {F : Fz} {fr : List Ow} {h0 : Heap} (t_Root : Int) (t_Links : List T_api_Branch) (n : Int) (vt_Links : Value) (hS : St F (fr) h0) (hL_t_Links : SliceF F h0 2 e_api_Branch vt_Links t_Links) {Q : (List Int) → Prop} (hM : tree_Path_W t_Root t_Links n Q) :
  HC Tryz.prog 26 #[.agg #[.int .i64 t_Root, vt_Links], .int .i64 n] h0 fun u h' => ∃ (F' : Fz) (r_1 : List Int) (vr_1 : Value), u = vr_1 ∧ Kp F h0 F' h' ∧ St F' (Ow.own 3 1 encI vr_1 r_1 :: fr) h' ∧ (SliceF F' h' 2 e_api_Branch vt_Links t_Links) ∧ Q r_1 := by
 unfold tree_Path_W at hM
 have hK := Kp.refl F h0
 refine HC.of_HW (n := 8) Tryz.func26 rfl rfl (Nat.le_of_ble_eq_true rfl) ?_
 refine HW.seq ?_
 refine HW.region ?_
 refine HO.eff (want_none) rfl (st_box (c := #[.int .i64 t_Root, vt_Links]) (k' := 2) hS rfl rfl) ?_
 rintro _ h_1 ⟨b_1, rfl, hS, hk⟩
 replace hK := hK.trans hk
 replace hL_t_Links := hL_t_Links.kp hk
 refine oA (.slice none 0 0) rfl rfl ?_
 refine HO.nil (thenQ_normal (?_))
 refine HW.seq ?_
 refine HW.region ?_
 refine oV (.agg #[.int .i64 t_Root, vt_Links]) (q_loadAgg (cs := [.int .i64 t_Root, vt_Links]) ta_24 rfl rfl (Blk.cells (k := 2) (hS.box 0 rfl) rfl)) rfl ?_
 refine oM (.int .i64 n) rfl rfl ?_
 refine HO.call (want_none) rfl (ec en_55 rfl rfl) (tree_path_walk (fr := (Ow.box b_1 24 #[.int .i64 t_Root, vt_Links] :: fr)) t_Root t_Links n vt_Links hS hL_t_Links hM) ?_
 rintro vr_2 h_2 ⟨F_1, r_2, _, rfl, hk, hS, _, hM⟩
 replace hK := hK.trans hk
 replace hL_t_Links := hL_t_Links.kp hk
 refine oA (vr_2) rfl rfl ?_
 refine HO.nil (thenQ_normal (?_))
 refine HW.ret (?_)
 refine ⟨.inr rfl, vr_2, res1 rfl (rt rfl), ?_⟩
 replace hS : St F_1 (Ow.own 3 1 encI vr_2 r_2 :: fr) h_2 := hS.perm2 [0] 2 rfl rfl
 exact ⟨F_1, r_2, vr_2, rfl, hK, hS, hL_t_Links, hM⟩

def law32_lives_W (Q : Bool → Prop) : Prop :=
 tree_Parse_W [49, 32, 49, 62, 50, 32, 49, 62, 51, 32, 51, 62, 52] (fun r0_0_1 r0_1_1 r1_1 => (r1_1 = 0 → tree_Depth_W r0_0_1 r0_1_1 (fun r_2 => (r_2 = 2 → tree_Leaves_W r0_0_1 r0_1_1 (fun r_3 => ref32_SameInts_W r_3 ([2, 4] : List Int) (fun r_4 => (r_4 = true → tree_Path_W r0_0_1 r0_1_1 4 (fun r_5 => ref32_SameInts_W r_5 ([1, 3, 4] : List Int) (fun r_6 => Q r_6))) ∧ (r_4 = false → Q false)))) ∧ (¬ (r_2 = 2) → Q false))) ∧ (¬ (r1_1 = 0) → Q false))
set_option maxHeartbeats 40000000 in
set_option maxRecDepth 100000 in
theorem law32_lives_walk {F : Fz} {fr : List Ow} {h0 : Heap} (gvS : Value) (gbS : Bool) (gvR : Value) (gbR : Bool) (gm : Int) (hS : St F (fr) h0) (hG_0 : RoF (Ow.box 0 53 #[gvS]) F h0) (hE_gvS : ErrF gbS gvS F h0) (hG_1 : RoF (Ow.box 1 53 #[gvR]) F h0) (hE_gvR : ErrF gbR gvR F h0) (hG_2 : RoF (Ow.box 2 3 #[.int .i64 gm]) F h0) (hG_5 : RoF (Ow.box 5 163 (tab10 ()).toArray) F h0) (hD : DM.on = false) {Q : Bool → Prop} (hM : law32_lives_W Q) :
  HC Tryz.prog 14 #[] h0 fun u h' => ∃ (F' : Fz) (r_1 : Bool), u = .bool r_1 ∧ Kp F h0 F' h' ∧ St F' (fr) h' ∧ (RoF (Ow.box 0 53 #[gvS]) F' h') ∧ (ErrF gbS gvS F' h') ∧ (RoF (Ow.box 1 53 #[gvR]) F' h') ∧ (ErrF gbR gvR F' h') ∧ (RoF (Ow.box 2 3 #[.int .i64 gm]) F' h') ∧ (RoF (Ow.box 5 163 (tab10 ()).toArray) F' h') ∧ Q r_1 := by
 unfold law32_lives_W at hM
 have hK := Kp.refl F h0
 refine HC.of_HW (n := 26) Tryz.func14 rfl rfl (Nat.le_of_ble_eq_true rfl) ?_
 refine HW.seq ?_
 refine HW.region ?_
 refine oA (.bool false) rfl rfl ?_
 refine HO.nil (thenQ_normal (?_))
 refine HW.seq ?_
 refine HW.region ?_
 refine HO.call (want_none) rfl (ec en_10 rfl rfl) (tree_Parse_walk (fr := (fr)) [49, 32, 49, 62, 50, 32, 49, 62, 51, 32, 51, 62, 52] gvS gbS gvR gbR gm hS hG_0 hE_gvS hG_1 hE_gvR hG_2 hG_5 hD hM) ?_
 rintro _ h_1 ⟨F_1, r0_0_1, r0_1_1, r1_1, vr0_1_1, rfl, hk, hS, _, _, _, _, _, _, hM⟩
 replace hK := hK.trans hk
 replace hG_0 := hG_0.kp hk
 replace hE_gvS := hE_gvS.kp hk
 replace hG_1 := hG_1.kp hk
 replace hE_gvR := hE_gvR.kp hk
 replace hG_2 := hG_2.kp hk
 replace hG_5 := hG_5.kp hk
 refine oM (.tuple #[.agg #[.int .i64 r0_0_1, vr0_1_1], .int .i64 r1_1]) rfl rfl ?_
 refine oV (.agg #[.int .i64 r0_0_1, vr0_1_1]) (q_extract rfl rfl) rfl ?_
 refine oV (.int .i64 r1_1) (q_extract rfl rfl) rfl ?_
 refine HO.eff (want_none) rfl (st_alloc (c := #[.int .i64 0, .slice none 0 0]) hS tz_24 rfl) ?_
 rintro _ h_2 ⟨b_1, rfl, hS, hk⟩
 replace hK := hK.trans hk
 replace hG_0 := hG_0.kp hk
 replace hE_gvS := hE_gvS.kp hk
 replace hG_1 := hG_1.kp hk
 replace hE_gvR := hE_gvR.kp hk
 replace hG_2 := hG_2.kp hk
 replace hG_5 := hG_5.kp hk
 refine HO.sto (want_none) rfl (st_storeAgg (c' := #[.int .i64 r0_0_1, vr0_1_1]) hS (i := 0) rfl ta_24 rfl rfl rfl (List.forall_mem_cons.2 ⟨rfl, (List.forall_mem_cons.2 ⟨(shp (hS.own 1 rfl).slice).one, (fun _ h => by cases h)⟩)⟩) (Nat.le_of_ble_eq_true rfl) rfl) ?_
 rintro h_3 ⟨hS, hk⟩
 replace hS : St F_1 (Ow.box b_1 24 #[.int .i64 r0_0_1, vr0_1_1] :: Ow.own 46 2 e_api_Branch vr0_1_1 r0_1_1 :: fr) h_3 := hS
 replace hK := hK.trans hk
 replace hG_0 := hG_0.kp hk
 replace hE_gvS := hE_gvS.kp hk
 replace hG_1 := hG_1.kp hk
 replace hE_gvR := hE_gvR.kp hk
 replace hG_2 := hG_2.kp hk
 replace hG_5 := hG_5.kp hk
 refine oA (.int .i64 r1_1) rfl rfl ?_
 refine HO.nil (thenQ_normal (?_))
 refine HW.seq ?_
 refine HW.region ?_
 refine oM (.int .i64 r1_1) rfl rfl ?_
 refine oV (.bool (decide (r1_1 = 0))) (q_eql rfl rfl) rfl ?_
 refine oM (.bool (decide (r1_1 = 0))) rfl rfl ?_
 rcases Bool.eq_false_or_eq_true (decide (r1_1 = 0)) with c_1 | c_1
 ·
  replace hM := hM.1 (of_decide_eq_true c_1)
  refine HO.val (v := .agg #[.int .i64 r0_0_1, vr0_1_1]) (want_by rfl rfl c_1) rfl (q_loadAgg (cs := [.int .i64 r0_0_1, vr0_1_1]) ta_24 rfl rfl (Blk.cells (k := 2) (hS.box 0 rfl) rfl)) ?_
  replace hS : St F_1 (Ow.own 46 2 e_api_Branch vr0_1_1 r0_1_1 :: Ow.box b_1 24 #[.int .i64 r0_0_1, vr0_1_1] :: fr) h_3 := hS.perm2 [1, 0] 2 rfl rfl
  have hZ_1 := hS
  have hkz_1 := (hS.freeze).2
  replace hS := hS.freeze.1
  have hL_1 : SliceF (fun bz_ => F_1 bz_ ∨ (Ow.own 46 2 e_api_Branch vr0_1_1 r0_1_1).foot bz_) h_3 2 e_api_Branch vr0_1_1 r0_1_1 := ⟨(hZ_1.own 0 rfl).slice, fun _ b hb => .inr hb⟩
  refine HO.call (want_by rfl rfl c_1) rfl (ec en_29 rfl rfl) (tree_Depth_walk (fr := (Ow.box b_1 24 #[.int .i64 r0_0_1, vr0_1_1] :: fr)) r0_0_1 r0_1_1 vr0_1_1 hS hL_1 hM) ?_
  rintro _ h_4 ⟨F_2, r_2, rfl, hk, hS, _, hM⟩
  obtain ⟨hS, hk⟩ := hZ_1.back hk hS
  generalize (fun bz_ => F_2 bz_ ∧ ¬ (Ow.own 46 2 e_api_Branch vr0_1_1 r0_1_1).foot bz_) = F_3 at hS hk
  replace hK := hK.trans hk
  replace hG_0 := hG_0.kp hk
  replace hE_gvS := hE_gvS.kp hk
  replace hG_1 := hG_1.kp hk
  replace hE_gvR := hE_gvR.kp hk
  replace hG_2 := hG_2.kp hk
  replace hG_5 := hG_5.kp hk
  refine HO.val (v := .bool (decide (r_2 = 2))) (want_by rfl rfl c_1) rfl (q_eql rfl rfl) ?_
  refine oV (.bool (decide (r_2 = 2))) (q_pickK true rfl c_1 rfl) rfl ?_
  refine oM (.bool (decide (r_2 = 2))) rfl rfl ?_
  rcases Bool.eq_false_or_eq_true (decide (r_2 = 2)) with c_2 | c_2
  ·
   replace hM := hM.1 (of_decide_eq_true c_2)
   refine HO.val (v := .agg #[.int .i64 r0_0_1, vr0_1_1]) (want_by rfl rfl c_2) rfl (q_loadAgg (cs := [.int .i64 r0_0_1, vr0_1_1]) ta_24 rfl rfl (Blk.cells (k := 2) (hS.box 1 rfl) rfl)) ?_
   have hZ_2 := hS
   have hkz_2 := (hS.freeze).2
   replace hS := hS.freeze.1
   have hL_2 : SliceF (fun bz_ => F_3 bz_ ∨ (Ow.own 46 2 e_api_Branch vr0_1_1 r0_1_1).foot bz_) h_4 2 e_api_Branch vr0_1_1 r0_1_1 := ⟨(hZ_2.own 0 rfl).slice, fun _ b hb => .inr hb⟩
   refine HO.call (want_by rfl rfl c_2) rfl (ec en_31 rfl rfl) (tree_Leaves_walk (fr := (Ow.box b_1 24 #[.int .i64 r0_0_1, vr0_1_1] :: fr)) r0_0_1 r0_1_1 vr0_1_1 hS hL_2 hM) ?_
   rintro vr_1 h_5 ⟨F_4, r_3, _, rfl, hk, hS, _, hM⟩
   obtain ⟨hS, hk⟩ := hZ_2.back hk hS
   generalize (fun bz_ => F_4 bz_ ∧ ¬ (Ow.own 46 2 e_api_Branch vr0_1_1 r0_1_1).foot bz_) = F_5 at hS hk
   replace hK := hK.trans hk
   replace hG_0 := hG_0.kp hk
   replace hE_gvS := hE_gvS.kp hk
   replace hG_1 := hG_1.kp hk
   replace hE_gvR := hE_gvR.kp hk
   replace hG_2 := hG_2.kp hk
   replace hG_5 := hG_5.kp hk
   refine HO.eff (want_by rfl rfl c_2) rfl (st_lit (enc := encI) (cells := #[.int .i64 2, .int .i64 4]) #[.int .i64 0, .int .i64 0] ([2, 4] : List Int) hS tl_36 (by decide) (by decide) (by kernel_rfl) (by kernel_rfl) rfl (by intro x hx; rfl) rfl) ?_
   rintro _ h_6 ⟨b_2, rfl, hS, hk⟩
   replace hK := hK.trans hk
   replace hG_0 := hG_0.kp hk
   replace hE_gvS := hE_gvS.kp hk
   replace hG_1 := hG_1.kp hk
   replace hE_gvR := hE_gvR.kp hk
   replace hG_2 := hG_2.kp hk
   replace hG_5 := hG_5.kp hk
   replace hS : St F_5 (Ow.own 3 1 encI vr_1 r_3 :: Ow.own 3 1 encI (.slice (some ⟨b_2, 0, none⟩) 2 2) ([2, 4] : List Int) :: Ow.own 46 2 e_api_Branch vr0_1_1 r0_1_1 :: Ow.box b_1 24 #[.int .i64 r0_0_1, vr0_1_1] :: fr) h_6 := hS.perm2 [2, 0, 1, 3] 4 rfl rfl
   have hZ_3 := hS
   have hkz_3 := (hS.freeze).2
   replace hS := hS.freeze.1
   have hL_3 : SliceF (fun bz_ => F_5 bz_ ∨ (Ow.own 3 1 encI vr_1 r_3).foot bz_) h_6 1 encI vr_1 r_3 := ⟨(hZ_3.own 0 rfl).slice, fun _ b hb => .inr hb⟩
   have hZ_4 := hS
   have hkz_4 := (hS.freeze).2
   replace hS := hS.freeze.1
   have hL_4 : SliceF (fun bz_ => (fun bz_ => F_5 bz_ ∨ (Ow.own 3 1 encI vr_1 r_3).foot bz_) bz_ ∨ (Ow.own 3 1 encI (.slice (some ⟨b_2, 0, none⟩) 2 2) ([2, 4] : List Int)).foot bz_) h_6 1 encI (.slice (some ⟨b_2, 0, none⟩) 2 2) ([2, 4] : List Int) := ⟨(hZ_4.own 0 rfl).slice, fun _ b hb => .inr hb⟩
   refine HO.call (want_by rfl rfl c_2) rfl (ec en_22 rfl rfl) (ref32_SameInts_walk (fr := (Ow.own 46 2 e_api_Branch vr0_1_1 r0_1_1 :: Ow.box b_1 24 #[.int .i64 r0_0_1, vr0_1_1] :: fr)) r_3 ([2, 4] : List Int) vr_1 (.slice (some ⟨b_2, 0, none⟩) 2 2) hS (hL_3.kp hkz_4) hL_4 hM) ?_
   rintro _ h_7 ⟨F_6, r_4, rfl, hk, hS, _, _, hM⟩
   obtain ⟨hS, hk⟩ := hZ_4.back hk hS
   obtain ⟨hS, hk⟩ := hZ_3.back hk hS
   generalize (fun bz_ => (fun bz_ => F_6 bz_ ∧ ¬ (Ow.own 3 1 encI (.slice (some ⟨b_2, 0, none⟩) 2 2) ([2, 4] : List Int)).foot bz_) bz_ ∧ ¬ (Ow.own 3 1 encI vr_1 r_3).foot bz_) = F_7 at hS hk
   replace hK := hK.trans hk
   replace hG_0 := hG_0.kp hk
   replace hE_gvS := hE_gvS.kp hk
   replace hG_1 := hG_1.kp hk
   replace hE_gvR := hE_gvR.kp hk
   replace hG_2 := hG_2.kp hk
   replace hG_5 := hG_5.kp hk
   refine oV (.bool r_4) (q_pickK true rfl c_2 rfl) rfl ?_
   refine oM (.bool r_4) rfl rfl ?_
   rcases Bool.eq_false_or_eq_true r_4 with c_3 | c_3
   ·
    replace hM := hM.1 c_3
    refine HO.val (v := .agg #[.int .i64 r0_0_1, vr0_1_1]) (want_by rfl rfl c_3) rfl (q_loadAgg (cs := [.int .i64 r0_0_1, vr0_1_1]) ta_24 rfl rfl (Blk.cells (k := 2) (hS.box 3 rfl) rfl)) ?_
    replace hS : St F_7 (Ow.own 46 2 e_api_Branch vr0_1_1 r0_1_1 :: Ow.own 3 1 encI vr_1 r_3 :: Ow.own 3 1 encI (.slice (some ⟨b_2, 0, none⟩) 2 2) ([2, 4] : List Int) :: Ow.box b_1 24 #[.int .i64 r0_0_1, vr0_1_1] :: fr) h_7 := hS.perm2 [2, 0, 1, 3] 4 rfl rfl
    have hZ_5 := hS
    have hkz_5 := (hS.freeze).2
    replace hS := hS.freeze.1
    have hL_5 : SliceF (fun bz_ => F_7 bz_ ∨ (Ow.own 46 2 e_api_Branch vr0_1_1 r0_1_1).foot bz_) h_7 2 e_api_Branch vr0_1_1 r0_1_1 := ⟨(hZ_5.own 0 rfl).slice, fun _ b hb => .inr hb⟩
    refine HO.call (want_by rfl rfl c_3) rfl (ec en_26 rfl rfl) (tree_Path_walk (fr := (Ow.own 3 1 encI vr_1 r_3 :: Ow.own 3 1 encI (.slice (some ⟨b_2, 0, none⟩) 2 2) ([2, 4] : List Int) :: Ow.box b_1 24 #[.int .i64 r0_0_1, vr0_1_1] :: fr)) r0_0_1 r0_1_1 4 vr0_1_1 hS hL_5 hM) ?_
    rintro vr_2 h_8 ⟨F_8, r_5, _, rfl, hk, hS, _, hM⟩
    obtain ⟨hS, hk⟩ := hZ_5.back hk hS
    generalize (fun bz_ => F_8 bz_ ∧ ¬ (Ow.own 46 2 e_api_Branch vr0_1_1 r0_1_1).foot bz_) = F_9 at hS hk
    replace hK := hK.trans hk
    replace hG_0 := hG_0.kp hk
    replace hE_gvS := hE_gvS.kp hk
    replace hG_1 := hG_1.kp hk
    replace hE_gvR := hE_gvR.kp hk
    replace hG_2 := hG_2.kp hk
    replace hG_5 := hG_5.kp hk
    refine HO.eff (want_by rfl rfl c_3) rfl (st_lit (enc := encI) (cells := #[.int .i64 1, .int .i64 3, .int .i64 4]) #[.int .i64 0, .int .i64 0, .int .i64 0] ([1, 3, 4] : List Int) hS tl_36 (by decide) (by decide) (by kernel_rfl) (by kernel_rfl) rfl (by intro x hx; rfl) rfl) ?_
    rintro _ h_9 ⟨b_3, rfl, hS, hk⟩
    replace hK := hK.trans hk
    replace hG_0 := hG_0.kp hk
    replace hE_gvS := hE_gvS.kp hk
    replace hG_1 := hG_1.kp hk
    replace hE_gvR := hE_gvR.kp hk
    replace hG_2 := hG_2.kp hk
    replace hG_5 := hG_5.kp hk
    replace hS : St F_9 (Ow.own 3 1 encI vr_2 r_5 :: Ow.own 3 1 encI (.slice (some ⟨b_3, 0, none⟩) 3 3) ([1, 3, 4] : List Int) :: Ow.own 46 2 e_api_Branch vr0_1_1 r0_1_1 :: Ow.own 3 1 encI vr_1 r_3 :: Ow.own 3 1 encI (.slice (some ⟨b_2, 0, none⟩) 2 2) ([2, 4] : List Int) :: Ow.box b_1 24 #[.int .i64 r0_0_1, vr0_1_1] :: fr) h_9 := hS.perm2 [2, 0, 1, 3, 4, 5] 6 rfl rfl
    have hZ_6 := hS
    have hkz_6 := (hS.freeze).2
    replace hS := hS.freeze.1
    have hL_6 : SliceF (fun bz_ => F_9 bz_ ∨ (Ow.own 3 1 encI vr_2 r_5).foot bz_) h_9 1 encI vr_2 r_5 := ⟨(hZ_6.own 0 rfl).slice, fun _ b hb => .inr hb⟩
    have hZ_7 := hS
    have hkz_7 := (hS.freeze).2
    replace hS := hS.freeze.1
    have hL_7 : SliceF (fun bz_ => (fun bz_ => F_9 bz_ ∨ (Ow.own 3 1 encI vr_2 r_5).foot bz_) bz_ ∨ (Ow.own 3 1 encI (.slice (some ⟨b_3, 0, none⟩) 3 3) ([1, 3, 4] : List Int)).foot bz_) h_9 1 encI (.slice (some ⟨b_3, 0, none⟩) 3 3) ([1, 3, 4] : List Int) := ⟨(hZ_7.own 0 rfl).slice, fun _ b hb => .inr hb⟩
    refine HO.call (want_by rfl rfl c_3) rfl (ec en_22 rfl rfl) (ref32_SameInts_walk (fr := (Ow.own 46 2 e_api_Branch vr0_1_1 r0_1_1 :: Ow.own 3 1 encI vr_1 r_3 :: Ow.own 3 1 encI (.slice (some ⟨b_2, 0, none⟩) 2 2) ([2, 4] : List Int) :: Ow.box b_1 24 #[.int .i64 r0_0_1, vr0_1_1] :: fr)) r_5 ([1, 3, 4] : List Int) vr_2 (.slice (some ⟨b_3, 0, none⟩) 3 3) hS (hL_6.kp hkz_7) hL_7 hM) ?_
    rintro _ h_10 ⟨F_10, r_6, rfl, hk, hS, _, _, hM⟩
    obtain ⟨hS, hk⟩ := hZ_7.back hk hS
    obtain ⟨hS, hk⟩ := hZ_6.back hk hS
    generalize (fun bz_ => (fun bz_ => F_10 bz_ ∧ ¬ (Ow.own 3 1 encI (.slice (some ⟨b_3, 0, none⟩) 3 3) ([1, 3, 4] : List Int)).foot bz_) bz_ ∧ ¬ (Ow.own 3 1 encI vr_2 r_5).foot bz_) = F_11 at hS hk
    replace hK := hK.trans hk
    replace hG_0 := hG_0.kp hk
    replace hE_gvS := hE_gvS.kp hk
    replace hG_1 := hG_1.kp hk
    replace hE_gvR := hE_gvR.kp hk
    replace hG_2 := hG_2.kp hk
    replace hG_5 := hG_5.kp hk
    refine oV (.bool r_6) (q_pickK true rfl c_3 rfl) rfl ?_
    refine oA (.bool r_6) rfl rfl ?_
    refine HO.nil (thenQ_normal (?_))
    refine HW.ret (?_)
    refine ⟨.inr rfl, .bool r_6, res1 rfl (rt rfl), ?_⟩
    replace hS : St F_11 (fr) h_10 := hS.perm2 [] 6 rfl rfl
    exact ⟨F_11, r_6, rfl, hK, hS, hG_0, hE_gvS, hG_1, hE_gvR, hG_2, hG_5, hM⟩
   ·
    replace hM := hM.2 c_3
    refine HO.past (past_by rfl rfl c_3) rfl ?_
    refine HO.past (past_by rfl rfl c_3) rfl ?_
    refine HO.past (past_by rfl rfl c_3) rfl ?_
    refine HO.past (past_by rfl rfl c_3) rfl ?_
    refine oV (.bool false) (q_pickK false rfl c_3 rfl) rfl ?_
    refine oA (.bool false) rfl rfl ?_
    refine HO.nil (thenQ_normal (?_))
    refine HW.ret (?_)
    refine ⟨.inr rfl, .bool false, res1 rfl (rt rfl), ?_⟩
    replace hS : St F_7 (fr) h_7 := hS.perm2 [] 4 rfl rfl
    exact ⟨F_7, false, rfl, hK, hS, hG_0, hE_gvS, hG_1, hE_gvR, hG_2, hG_5, hM⟩
  ·
   replace hM := hM.2 (of_decide_eq_false c_2)
   refine HO.past (past_by rfl rfl c_2) rfl ?_
   refine HO.past (past_by rfl rfl c_2) rfl ?_
   refine HO.past (past_by rfl rfl c_2) rfl ?_
   refine HO.past (past_by rfl rfl c_2) rfl ?_
   refine oV (.bool false) (q_pickK false rfl c_2 rfl) rfl ?_
   refine oM (.bool false) rfl rfl ?_
   refine HO.past (past_some rfl rfl) rfl ?_
   refine HO.past (past_some rfl rfl) rfl ?_
   refine HO.past (past_some rfl rfl) rfl ?_
   refine HO.past (past_some rfl rfl) rfl ?_
   refine oV (.bool false) (q_pick rfl rfl) rfl ?_
   refine oA (.bool false) rfl rfl ?_
   refine HO.nil (thenQ_normal (?_))
   refine HW.ret (?_)
   refine ⟨.inr rfl, .bool false, res1 rfl (rt rfl), ?_⟩
   replace hS : St F_3 (fr) h_4 := hS.perm2 [] 2 rfl rfl
   exact ⟨F_3, false, rfl, hK, hS, hG_0, hE_gvS, hG_1, hE_gvR, hG_2, hG_5, hM⟩
 ·
  replace hM := hM.2 (of_decide_eq_false c_1)
  refine HO.past (past_by rfl rfl c_1) rfl ?_
  refine HO.past (past_by rfl rfl c_1) rfl ?_
  refine HO.past (past_by rfl rfl c_1) rfl ?_
  refine oV (.bool false) (q_pickK false rfl c_1 rfl) rfl ?_
  refine oM (.bool false) rfl rfl ?_
  refine HO.past (past_some rfl rfl) rfl ?_
  refine HO.past (past_some rfl rfl) rfl ?_
  refine HO.past (past_some rfl rfl) rfl ?_
  refine HO.past (past_some rfl rfl) rfl ?_
  refine oV (.bool false) (q_pick rfl rfl) rfl ?_
  refine oM (.bool false) rfl rfl ?_
  refine HO.past (past_some rfl rfl) rfl ?_
  refine HO.past (past_some rfl rfl) rfl ?_
  refine HO.past (past_some rfl rfl) rfl ?_
  refine HO.past (past_some rfl rfl) rfl ?_
  refine oV (.bool false) (q_pick rfl rfl) rfl ?_
  refine oA (.bool false) rfl rfl ?_
  refine HO.nil (thenQ_normal (?_))
  refine HW.ret (?_)
  refine ⟨.inr rfl, .bool false, res1 rfl (rt rfl), ?_⟩
  replace hS : St F_1 (fr) h_3 := hS.perm2 [] 2 rfl rfl
  exact ⟨F_1, false, rfl, hK, hS, hG_0, hE_gvS, hG_1, hE_gvR, hG_2, hG_5, hM⟩

def ref32_less_W (a : T_api_Branch) (b : T_api_Branch) (Q : Bool → Prop) : Prop :=
 (a.1 < b.1 → Q true) ∧ (¬ (a.1 < b.1) → (a.1 = b.1 → Q (decide (a.2 < b.2))) ∧ (¬ (a.1 = b.1) → Q false))
set_option maxHeartbeats 40000000 in
set_option maxRecDepth 100000 in
theorem ref32_less_walk {F : Fz} {fr : List Ow} {h0 : Heap} (a : T_api_Branch) (b : T_api_Branch) (hS : St F (fr) h0)  {Q : Bool → Prop} (hM : ref32_less_W a b Q) :
  HC Tryz.prog 47 #[.agg #[.int .i64 a.1, .int .i64 a.2], .agg #[.int .i64 b.1, .int .i64 b.2]] h0 fun u h' => ∃ (F' : Fz) (r_1 : Bool), u = .bool r_1 ∧ Kp F h0 F' h' ∧ St F' (fr) h' ∧ Q r_1 := by
 unfold ref32_less_W at hM
 have hK := Kp.refl F h0
 refine HC.of_HW (n := 24) Tryz.func47 rfl rfl (Nat.le_of_ble_eq_true rfl) ?_
 refine HW.seq ?_
 refine HW.region ?_
 refine HO.eff (want_none) rfl (st_box (c := #[.int .i64 a.1, .int .i64 a.2]) (k' := 2) hS rfl rfl) ?_
 rintro _ h_1 ⟨b_1, rfl, hS, hk⟩
 replace hK := hK.trans hk
 refine HO.eff (want_none) rfl (st_box (c := #[.int .i64 b.1, .int .i64 b.2]) (k' := 2) hS rfl rfl) ?_
 rintro _ h_2 ⟨b_2, rfl, hS, hk⟩
 replace hK := hK.trans hk
 refine oA (.bool false) rfl rfl ?_
 refine HO.nil (thenQ_normal (?_))
 refine HW.seq ?_
 refine HW.region ?_
 refine oV (.pointer (some ⟨b_1, 0, none⟩)) (q_fieldAddr fa_46_0 rfl rfl) rfl ?_
 refine oV (.int .i64 a.1) (q_load to_3 rfl (Blk.cell (hS.box 1 rfl) rfl)) rfl ?_
 refine oV (.pointer (some ⟨b_2, 0, none⟩)) (q_fieldAddr fa_46_0 rfl rfl) rfl ?_
 refine oV (.int .i64 b.1) (q_load to_3 rfl (Blk.cell (hS.box 0 rfl) rfl)) rfl ?_
 refine oV (.bool (decide (a.1 < b.1))) (q_lss rfl rfl) rfl ?_
 refine oM (.bool (decide (a.1 < b.1))) rfl rfl ?_
 rcases Bool.eq_false_or_eq_true (decide (a.1 < b.1)) with c_1 | c_1
 ·
  replace hM := hM.1 (of_decide_eq_true c_1)
  refine HO.past (past_by rfl rfl c_1) rfl ?_
  refine HO.past (past_by rfl rfl c_1) rfl ?_
  refine HO.past (past_by rfl rfl c_1) rfl ?_
  refine HO.past (past_by rfl rfl c_1) rfl ?_
  refine HO.past (past_by rfl rfl c_1) rfl ?_
  refine HO.past (past_by rfl rfl c_1) rfl ?_
  refine HO.past (past_undef rfl rfl) rfl ?_
  refine HO.past (past_undef rfl rfl) rfl ?_
  refine HO.past (past_undef rfl rfl) rfl ?_
  refine HO.past (past_undef rfl rfl) rfl ?_
  refine HO.past (past_undef rfl rfl) rfl ?_
  refine HO.past (past_by rfl rfl c_1) rfl ?_
  refine oV (.bool true) (q_pickK true rfl c_1 rfl) rfl ?_
  refine oA (.bool true) rfl rfl ?_
  refine HO.nil (thenQ_normal (?_))
  refine HW.ret (?_)
  refine ⟨.inr rfl, .bool true, res1 rfl (rt rfl), ?_⟩
  replace hS : St F (fr) h_2 := hS.perm2 [] 2 rfl rfl
  exact ⟨F, true, rfl, hK, hS, hM⟩
 ·
  replace hM := hM.2 (of_decide_eq_false c_1)
  refine HO.val (v := .pointer (some ⟨b_1, 0, none⟩)) (want_by rfl rfl c_1) rfl (q_fieldAddr fa_46_0 rfl rfl) ?_
  refine HO.val (v := .int .i64 a.1) (want_by rfl rfl c_1) rfl (q_load to_3 rfl (Blk.cell (hS.box 1 rfl) rfl)) ?_
  refine HO.val (v := .pointer (some ⟨b_2, 0, none⟩)) (want_by rfl rfl c_1) rfl (q_fieldAddr fa_46_0 rfl rfl) ?_
  refine HO.val (v := .int .i64 b.1) (want_by rfl rfl c_1) rfl (q_load to_3 rfl (Blk.cell (hS.box 0 rfl) rfl)) ?_
  refine HO.val (v := .bool (decide (a.1 = b.1))) (want_by rfl rfl c_1) rfl (q_eql rfl rfl) ?_
  refine HO.val (v := .bool (decide (a.1 = b.1))) (want_by rfl rfl c_1) rfl (q_move rfl) ?_
  rcases Bool.eq_false_or_eq_true (decide (a.1 = b.1)) with c_2 | c_2
  ·
   replace hM := hM.1 (of_decide_eq_true c_2)
   refine HO.val (v := .pointer (some ⟨b_1, 1, none⟩)) (want_by rfl rfl c_2) rfl (q_fieldAddr fa_46_1 rfl rfl) ?_
   refine HO.val (v := .int .i64 a.2) (want_by rfl rfl c_2) rfl (q_load to_3 rfl (Blk.cell (hS.box 1 rfl) rfl)) ?_
   refine HO.val (v := .pointer (some ⟨b_2, 1, none⟩)) (want_by rfl rfl c_2) rfl (q_fieldAddr fa_46_1 rfl rfl) ?_
   refine HO.val (v := .int .i64 b.2) (want_by rfl rfl c_2) rfl (q_load to_3 rfl (Blk.cell (hS.box 0 rfl) rfl)) ?_
   refine HO.val (v := .bool (decide (a.2 < b.2))) (want_by rfl rfl c_2) rfl (q_lss rfl rfl) ?_
   refine HO.val (v := .bool (decide (a.2 < b.2))) (want_by rfl rfl c_1) rfl (q_pickK true rfl c_2 rfl) ?_
   refine oV (.bool (decide (a.2 < b.2))) (q_pickK false rfl c_1 rfl) rfl ?_
   refine oA (.bool (decide (a.2 < b.2))) rfl rfl ?_
   refine HO.nil (thenQ_normal (?_))
   refine HW.ret (?_)
   refine ⟨.inr rfl, .bool (decide (a.2 < b.2)), res1 rfl (rt rfl), ?_⟩
   replace hS : St F (fr) h_2 := hS.perm2 [] 2 rfl rfl
   exact ⟨F, decide (a.2 < b.2), rfl, hK, hS, hM⟩
  ·
   replace hM := hM.2 (of_decide_eq_false c_2)
   refine HO.past (past_by rfl rfl c_2) rfl ?_
   refine HO.past (past_by rfl rfl c_2) rfl ?_
   refine HO.past (past_by rfl rfl c_2) rfl ?_
   refine HO.past (past_by rfl rfl c_2) rfl ?_
   refine HO.past (past_by rfl rfl c_2) rfl ?_
   refine HO.val (v := .bool false) (want_by rfl rfl c_1) rfl (q_pickK false rfl c_2 rfl) ?_
   refine oV (.bool false) (q_pickK false rfl c_1 rfl) rfl ?_
   refine oA (.bool false) rfl rfl ?_
   refine HO.nil (thenQ_normal (?_))
   refine HW.ret (?_)
   refine ⟨.inr rfl, .bool false, res1 rfl (rt rfl), ?_⟩
   replace hS : St F (fr) h_2 := hS.perm2 [] 2 rfl rfl
   exact ⟨F, false, rfl, hK, hS, hM⟩

def ref32_Has_l1 (l : List Int) (n : Int) (Q : Bool → Prop) (K_1 : Int → Prop) (i_1 : Int) : Prop :=
 (i_1 < (l.length : Int) → ((0 : Int) ≤ i_1 ∧ i_1 < (l.length : Int)) ∧ (((gi l i_1) = n → Q true) ∧ (¬ ((gi l i_1) = n) → (I64 (i_1 + 1)) ∧ (K_1 (i_1 + 1))))) ∧ (¬ (i_1 < (l.length : Int)) → Q false)
def ref32_Has_W (l : List Int) (n : Int) (Q : Bool → Prop) : Prop :=
 loopW (fun (K_1 : Int → Prop) (s : Int) => ref32_Has_l1 l n Q K_1 s) 0
set_option maxHeartbeats 40000000 in
set_option maxRecDepth 100000 in
theorem ref32_Has_walk {F : Fz} {fr : List Ow} {h0 : Heap} (l : List Int) (n : Int) (vl : Value) (hS : St F (fr) h0) (hL_l : SliceF F h0 1 encI vl l) {Q : Bool → Prop} (hM : ref32_Has_W l n Q) :
  HC Tryz.prog 16 #[vl, .int .i64 n] h0 fun u h' => ∃ (F' : Fz) (r_1 : Bool), u = .bool r_1 ∧ Kp F h0 F' h' ∧ St F' (fr) h' ∧ (SliceF F' h' 1 encI vl l) ∧ Q r_1 := by
 unfold ref32_Has_W at hM
 have hK := Kp.refl F h0
 refine HC.of_HW (n := 18) Tryz.func16 rfl rfl (Nat.le_of_ble_eq_true rfl) ?_
 refine HW.seq ?_
 refine HW.region ?_
 refine oA (.bool false) rfl rfl ?_
 refine HO.nil (thenQ_normal (?_))
 refine HW.seq ?_
 refine HW.seq ?_
 refine HW.region ?_
 refine oA (.int .i64 0) rfl rfl ?_
 refine HO.nil (thenQ_normal (?_))
 refine HW.block ?_
 obtain ⟨I_1, m_1, hI_1, hR_1⟩ := hM
 refine HW.loop (S := Int) (fun i_1 f h => ∃ (F' : Fz), f 0 = vl ∧ f 1 = .int .i64 n ∧ f 4 = .bool false ∧ f 5 = .int .i64 i_1 ∧ Kp F h0 F' h ∧ St F' (fr) h ∧ (SliceF F' h 1 encI vl l) ∧ I_1 i_1) m_1 0 ⟨F, rfl, rfl, rfl, rfl, hK, hS, hL_l, hI_1⟩ ?_
 rintro i_1 f_1 h_1 ⟨F_1, e0, e1, e4, e5, hK, hS, hL_l, hI0⟩
 obtain ⟨K_1, hKe_1⟩ : ∃ K : Int → Prop, K = fun i_1' => I_1 i_1' ∧ m_1 i_1' < m_1 i_1 := ⟨_, rfl⟩
 have hM : ref32_Has_l1 l n Q K_1 i_1 := by rw [hKe_1]; exact hR_1 i_1 hI0
 unfold ref32_Has_l1 at hM
 refine HW.fr [(0, vl), (1, .int .i64 n), (4, .bool false), (5, .int .i64 i_1)] ⟨e0, e1, e4, e5, trivial⟩ ?_
 refine HW.seq ?_
 refine HW.seq ?_
 refine HW.region ?_
 refine oM (.int .i64 i_1) rfl rfl ?_
 refine oM (vl) rfl rfl ?_
 refine oV (.int .i64 (l.length : Int)) (q_len ts_36 (shp hL_l.is) rfl rfl) rfl ?_
 refine oV (.bool (decide (i_1 < (l.length : Int)))) (q_lss rfl rfl) rfl ?_
 refine HO.nil (thenQ_normal (?_))
 refine HW.cond (decide (i_1 < (l.length : Int))) rfl (fun c_1 => ?_) (fun c_1 => ?_)
 ·
  replace hM := hM.1 (of_decide_eq_true c_1)
  refine HW.skip (thenQ_normal (?_))
  refine HW.seq ?_
  refine HW.block ?_
  refine HW.seq ?_
  refine HW.region ?_
  refine oM (vl) rfl rfl ?_
  refine oM (.int .i64 i_1) rfl rfl ?_
  obtain ⟨ho_1, hM⟩ := hM
  refine oV (elemPtr 1 vl (i_1).toNat) (q_idx ts_36 hL_l.is rfl rfl ho_1) rfl ?_
  refine oV (.int .i64 (gi l i_1)) (q_ldElem to_3 hL_l.is rfl ho_1 rfl) rfl ?_
  refine oM (.int .i64 n) rfl rfl ?_
  refine oV (.bool (decide ((gi l i_1) = n))) (q_eql rfl rfl) rfl ?_
  refine HO.nil (thenQ_normal (?_))
  refine HW.cond (decide ((gi l i_1) = n)) rfl (fun c_2 => ?_) (fun c_2 => ?_)
  ·
   replace hM := hM.1 (of_decide_eq_true c_2)
   refine HW.seq ?_
   refine HW.region ?_
   refine oA (.bool true) rfl rfl ?_
   refine HO.nil (thenQ_normal (?_))
   refine HW.ret (blockQ_ret (thenQ_ret (thenQ_ret (blockQ_ret (thenQ_ret (?_))))))
   refine ⟨.inr rfl, .bool true, res1 rfl (rt rfl), ?_⟩
   exact ⟨F_1, true, rfl, hK, hS, hL_l, hM⟩
  ·
   replace hM := hM.2 (of_decide_eq_false c_2)
   refine HW.skip (blockQ_normal (thenQ_normal (?_)))
   refine HW.region ?_
   refine oM (.int .i64 i_1) rfl rfl ?_
   obtain ⟨ho_2, hM⟩ := hM
   refine oV (.int .i64 (i_1 + 1)) (q_addN _ rfl rfl rfl ho_2.1 ho_2.2) rfl ?_
   refine oA (.int .i64 (i_1 + 1)) rfl rfl ?_
   refine HO.nil (thenQ_normal (?_))
   rw [hKe_1] at hM
   exact ⟨i_1 + 1, ⟨F_1, rfl, rfl, rfl, rfl, hK, hS, hL_l, hM.1⟩, hM.2⟩
 ·
  replace hM := hM.2 (of_decide_eq_false c_1)
  refine HW.exit (thenQ_exit (thenQ_exit (blockQ_exit (thenQ_normal (?_)))))
  refine HW.seq ?_
  refine HW.region ?_
  refine oA (.bool false) rfl rfl ?_
  refine HO.nil (thenQ_normal (?_))
  refine HW.ret (?_)
  refine ⟨.inr rfl, .bool false, res1 rfl (rt rfl), ?_⟩
  exact ⟨F_1, false, rfl, hK, hS, hL_l, hM⟩

def ref32_Add_j1 (l : List Int) (n : Int) (Q : (List Int) → Prop) (n_1 : Int) : Prop :=
 ((0 : Int) ≤ n_1 ∧ n_1 ≤ (l.length : Int)) ∧ (((0 : Int) ≤ 0 ∧ 0 ≤ n_1 ∧ n_1 ≤ (l.length : Int)) ∧ (((([] : List Int).length + (cut l 0 n_1).length) * 8 ≤ 140737488355328) ∧ ((((([] : List Int) ++ (cut l 0 n_1)).length + ([n] : List Int).length) * 8 ≤ 140737488355328) ∧ (((0 : Int) ≤ n_1 ∧ n_1 ≤ (l.length : Int) ∧ (l.length : Int) ≤ (l.length : Int)) ∧ (((((([] : List Int) ++ (cut l 0 n_1)) ++ ([n] : List Int)).length + (cut l n_1 (l.length : Int)).length) * 8 ≤ 140737488355328) ∧ (Q (((([] : List Int) ++ (cut l 0 n_1)) ++ ([n] : List Int)) ++ (cut l n_1 (l.length : Int)))))))))
def ref32_Add_l1 (l : List Int) (n : Int) (Q : (List Int) → Prop) (K_1 : Int → Prop) (n_2 : Int) : Prop :=
 (n_2 < (l.length : Int) → ((0 : Int) ≤ n_2 ∧ n_2 < (l.length : Int)) ∧ (((gi l n_2) < n → (I64 (n_2 + 1)) ∧ (K_1 (n_2 + 1))) ∧ (¬ ((gi l n_2) < n) → ref32_Add_j1 l n Q n_2))) ∧ (¬ (n_2 < (l.length : Int)) → ref32_Add_j1 l n Q n_2)
def ref32_Add_W (l : List Int) (n : Int) (Q : (List Int) → Prop) : Prop :=
 ref32_Has_W l n (fun r_2 => (r_2 = true → Q l) ∧ (r_2 = false → loopW (fun (K_1 : Int → Prop) (s : Int) => ref32_Add_l1 l n Q K_1 s) 0))
set_option maxHeartbeats 40000000 in
set_option maxRecDepth 100000 in
theorem ref32_Add_walk {F : Fz} {fr : List Ow} {h0 : Heap} (l : List Int) (n : Int) (vl : Value) (hS : St F (Ow.own 3 1 encI vl l :: fr) h0)  {Q : (List Int) → Prop} (hM : ref32_Add_W l n Q) :
  HC Tryz.prog 50 #[vl, .int .i64 n] h0 fun u h' => ∃ (F' : Fz) (r_1 : List Int) (vr_1 : Value), u = vr_1 ∧ Kp F h0 F' h' ∧ St F' (Ow.own 3 1 encI vr_1 r_1 :: fr) h' ∧ Q r_1 := by
 unfold ref32_Add_W at hM
 have hK := Kp.refl F h0
 refine HC.of_HW (n := 36) Tryz.func50 rfl rfl (Nat.le_of_ble_eq_true rfl) ?_
 refine HW.seq ?_
 refine HW.region ?_
 refine oA (.slice none 0 0) rfl rfl ?_
 refine HO.nil (thenQ_normal (?_))
 refine HW.seq ?_
 refine HW.seq ?_
 refine HW.region ?_
 refine oM (vl) rfl rfl ?_
 refine oM (.int .i64 n) rfl rfl ?_
 have hZ_1 := hS
 have hkz_1 := (hS.freeze).2
 replace hS := hS.freeze.1
 have hL_1 : SliceF (fun bz_ => F bz_ ∨ (Ow.own 3 1 encI vl l).foot bz_) h0 1 encI vl l := ⟨(hZ_1.own 0 rfl).slice, fun _ b hb => .inr hb⟩
 refine HO.call (want_none) rfl (ec en_16 rfl rfl) (ref32_Has_walk (fr := (fr)) l n vl hS hL_1 hM) ?_
 rintro _ h_1 ⟨F_1, r_2, rfl, hk, hS, _, hM⟩
 obtain ⟨hS, hk⟩ := hZ_1.back hk hS
 generalize (fun bz_ => F_1 bz_ ∧ ¬ (Ow.own 3 1 encI vl l).foot bz_) = F_2 at hS hk
 replace hK := hK.trans hk
 refine HO.nil (thenQ_normal (?_))
 refine HW.cond r_2 rfl (fun c_1 => ?_) (fun c_1 => ?_)
 ·
  replace hM := hM.1 c_1
  refine HW.seq ?_
  refine HW.region ?_
  refine oM (vl) rfl rfl ?_
  refine oA (vl) rfl rfl ?_
  refine HO.nil (thenQ_normal (?_))
  refine HW.ret (thenQ_ret (?_))
  refine ⟨.inr rfl, vl, res1 rfl (rt rfl), ?_⟩
  exact ⟨F_2, l, vl, rfl, hK, hS, hM⟩
 ·
  replace hM := hM.2 c_1
  refine HW.skip (thenQ_normal (?_))
  refine HW.seq ?_
  refine HW.region ?_
  refine oA (.int .i64 0) rfl rfl ?_
  refine HO.nil (thenQ_normal (?_))
  refine HW.seq_mid (fun f h => ∃ (F' : Fz) (n_1 : Int), f 0 = vl ∧ f 1 = .int .i64 n ∧ f 4 = .slice none 0 0 ∧ f 5 = .int .i64 n_1 ∧ Kp F h0 F' h ∧ St F' (Ow.own 3 1 encI vl l :: fr) h ∧ ref32_Add_j1 l n Q n_1) ?_ ?_
  ·
   refine HW.block ?_
   obtain ⟨I_1, m_1, hI_1, hR_1⟩ := hM
   refine HW.loop (S := Int) (fun n_2 f h => ∃ (F' : Fz), f 0 = vl ∧ f 1 = .int .i64 n ∧ f 4 = .slice none 0 0 ∧ f 5 = .int .i64 n_2 ∧ Kp F h0 F' h ∧ St F' (Ow.own 3 1 encI vl l :: fr) h ∧ I_1 n_2) m_1 0 ⟨F_2, rfl, rfl, rfl, rfl, hK, hS, hI_1⟩ ?_
   rintro n_2 f_1 h_2 ⟨F_3, e0, e1, e4, e5, hK, hS, hI0⟩
   obtain ⟨K_1, hKe_1⟩ : ∃ K : Int → Prop, K = fun n_2' => I_1 n_2' ∧ m_1 n_2' < m_1 n_2 := ⟨_, rfl⟩
   have hM : ref32_Add_l1 l n Q K_1 n_2 := by rw [hKe_1]; exact hR_1 n_2 hI0
   unfold ref32_Add_l1 at hM
   refine HW.fr [(0, vl), (1, .int .i64 n), (4, .slice none 0 0), (5, .int .i64 n_2)] ⟨e0, e1, e4, e5, trivial⟩ ?_
   refine HW.seq ?_
   refine HW.seq ?_
   refine HW.region ?_
   refine oM (.int .i64 n_2) rfl rfl ?_
   refine oM (vl) rfl rfl ?_
   refine oV (.int .i64 (l.length : Int)) (q_len ts_36 (shp (hS.own 0 rfl).slice) rfl rfl) rfl ?_
   refine oV (.bool (decide (n_2 < (l.length : Int)))) (q_lss rfl rfl) rfl ?_
   refine oM (.bool (decide (n_2 < (l.length : Int)))) rfl rfl ?_
   rcases Bool.eq_false_or_eq_true (decide (n_2 < (l.length : Int))) with c_2 | c_2
   ·
    replace hM := hM.1 (of_decide_eq_true c_2)
    refine HO.val (v := vl) (want_by rfl rfl c_2) rfl (q_move rfl) ?_
    refine HO.val (v := .int .i64 n_2) (want_by rfl rfl c_2) rfl (q_move rfl) ?_
    obtain ⟨ho_1, hM⟩ := hM
    refine HO.val (v := elemPtr 1 vl (n_2).toNat) (want_by rfl rfl c_2) rfl (q_idx ts_36 (hS.own 0 rfl).slice rfl rfl ho_1) ?_
    refine HO.val (v := .int .i64 (gi l n_2)) (want_by rfl rfl c_2) rfl (q_ldElem to_3 (hS.own 0 rfl).slice rfl ho_1 rfl) ?_
    refine HO.val (v := .int .i64 n) (want_by rfl rfl c_2) rfl (q_move rfl) ?_
    refine HO.val (v := .bool (decide ((gi l n_2) < n))) (want_by rfl rfl c_2) rfl (q_lss rfl rfl) ?_
    refine oV (.bool (decide ((gi l n_2) < n))) (q_pickK true rfl c_2 rfl) rfl ?_
    refine HO.nil (thenQ_normal (?_))
    refine HW.cond (decide ((gi l n_2) < n)) rfl (fun c_3 => ?_) (fun c_3 => ?_)
    ·
     replace hM := hM.1 (of_decide_eq_true c_3)
     refine HW.skip (thenQ_normal (?_))
     refine HW.block ?_
     refine HW.region ?_
     refine oM (.int .i64 n_2) rfl rfl ?_
     obtain ⟨ho_2, hM⟩ := hM
     refine oV (.int .i64 (n_2 + 1)) (q_addN _ rfl rfl rfl ho_2.1 ho_2.2) rfl ?_
     refine oA (.int .i64 (n_2 + 1)) rfl rfl ?_
     refine HO.nil (blockQ_normal (thenQ_normal (?_)))
     rw [hKe_1] at hM
     exact ⟨n_2 + 1, ⟨F_3, rfl, rfl, rfl, rfl, hK, hS, hM.1⟩, hM.2⟩
    ·
     replace hM := hM.2 (of_decide_eq_false c_3)
     refine HW.exit (thenQ_exit (thenQ_exit (blockQ_exit (thenQ_normal (?_)))))
     exact ⟨F_3, n_2, rfl, rfl, rfl, rfl, hK, hS, hM⟩
   ·
    replace hM := hM.2 (of_decide_eq_false c_2)
    refine HO.past (past_by rfl rfl c_2) rfl ?_
    refine HO.past (past_by rfl rfl c_2) rfl ?_
    refine HO.past (past_by rfl rfl c_2) rfl ?_
    refine HO.past (past_by rfl rfl c_2) rfl ?_
    refine HO.past (past_by rfl rfl c_2) rfl ?_
    refine HO.past (past_by rfl rfl c_2) rfl ?_
    refine oV (.bool false) (q_pickK false rfl c_2 rfl) rfl ?_
    refine HO.nil (thenQ_normal (?_))
    refine HW.condF rfl ?_
    refine HW.exit (thenQ_exit (thenQ_exit (blockQ_exit (thenQ_normal (?_)))))
    exact ⟨F_3, n_2, rfl, rfl, rfl, rfl, hK, hS, hM⟩
  ·
   rintro f_2 h_3 ⟨F_4, n_1, e0, e1, e4, e5, hK, hS, hM⟩
   unfold ref32_Add_j1 at hM
   refine HW.fr [(0, vl), (1, .int .i64 n), (4, .slice none 0 0), (5, .int .i64 n_1)] ⟨e0, e1, e4, e5, trivial⟩ ?_
   refine HW.seq ?_
   obtain ⟨ho_3, hM⟩ := hM
   obtain ⟨ho_4, hM⟩ := hM
   obtain ⟨ho_5, hM⟩ := hM
   obtain ⟨ho_6, hM⟩ := hM
   obtain ⟨ho_7, hM⟩ := hM
   obtain ⟨ho_8, hM⟩ := hM
   refine HW.regionA 13 mixed (fun h => (OwnIs h 0 3 1 encI vl l)) [] (by kernel_rfl) ?_
   refine HA.val (k := 1) (v := vl) rfl rfl (by kernel_rfl) (by kernel_rfl) (want_none) rfl (fun _ c202 => q_move rfl) ?_
   refine HA.val (k := 2) (v := .int .i64 n_1) rfl rfl (by kernel_rfl) (by kernel_rfl) (want_none) rfl (fun _ c202 => q_move rfl) ?_
   refine HA.val (k := 3) (v := cutV 1 vl (0 : Int).toNat (n_1).toNat) rfl rfl (by kernel_rfl) (by kernel_rfl) (want_none) rfl (fun _ c202 => q_slH ts_36 c202.slice rfl rfl ho_3) ?_
   refine HA.val (k := 5) (v := .int .i64 n) rfl rfl (by kernel_rfl) (by kernel_rfl) (want_none) rfl (fun _ c202 => q_move rfl) ?_
   refine HA.val (k := 8) (v := vl) rfl rfl (by kernel_rfl) (by kernel_rfl) (want_none) rfl (fun _ c202 => q_move rfl) ?_
   refine HA.val (k := 9) (v := .int .i64 n_1) rfl rfl (by kernel_rfl) (by kernel_rfl) (want_none) rfl (fun _ c202 => q_move rfl) ?_
   refine HA.val (k := 10) (v := cutV 1 vl (n_1).toNat ((l.length : Int)).toNat) rfl rfl (by kernel_rfl) (by kernel_rfl) (want_none) rfl (fun _ c202 => q_slL ts_36 c202.slice rfl rfl ho_3) ?_
   refine HA.two (k := 0) (k' := 6) ⟨(hS.own 0 rfl), (Go.Wk.at_nil _ _)⟩ (by kernel_rfl) ?_ ?_
   ·
    refine HS.eff rfl (want_none) rfl (st_litEmpty (α := Int) encI hS tl_36) ?_
    rintro _ h_4 ⟨b_1, rfl, hS, hk⟩
    replace hK := hK.trans hk
    refine HA.two (k := 4) (k' := 6) ⟨(hS.own 1 rfl), (Go.Wk.at_nil _ _)⟩ (by kernel_rfl) ?_ ?_
    ·
     refine HS.eff rfl (want_none) rfl (st_append te_36 hS (i := 0) rfl (cutIs (hS.own 1 rfl).slice 0 n_1 ho_4.1 ho_4.2.1 ho_4.2.2) rfl rfl rfl (by intro a _ u hu; simp [encI, encI, encN, encB, encT] at hu; subst hu; rfl) ho_5 (by omega)) ?_
     rintro v_1 h_5 ⟨hS, hk⟩
     replace hS : St F_4 (Ow.own 3 1 encI v_1 (([] : List Int) ++ (cut l 0 n_1)) :: Ow.own 3 1 encI vl l :: fr) h_5 := hS
     replace hK := hK.trans hk
     refine HA.one (k := 6) ⟨(hS.own 1 rfl), (Go.Wk.at_nil _ _)⟩ (by kernel_rfl) ?_
     refine HS.eff rfl (want_none) rfl (st_lit (enc := encI) (cells := #[.int .i64 n]) #[.int .i64 0] ([n] : List Int) hS tl_36 (by decide) (by decide) (by kernel_rfl) (by kernel_rfl) rfl (by intro x hx; rfl) rfl) ?_
     rintro _ h_6 ⟨b_2, rfl, hS, hk⟩
     replace hK := hK.trans hk
     refine HA.one (k := 7) ⟨(hS.own 2 rfl), (Go.Wk.at_nil _ _)⟩ (by kernel_rfl) ?_
     refine HS.eff rfl (want_none) rfl (st_append te_36 hS (i := 1) rfl (hS.own 0 rfl).slice rfl rfl rfl (by intro a _ u hu; simp [encI, encI, encN, encB, encT] at hu; subst hu; rfl) ho_6 (by omega)) ?_
     rintro v_2 h_7 ⟨hS, hk⟩
     replace hS : St F_4 (Ow.own 3 1 encI (.slice (some ⟨b_2, 0, none⟩) 1 1) ([n] : List Int) :: Ow.own 3 1 encI v_2 ((([] : List Int) ++ (cut l 0 n_1)) ++ ([n] : List Int)) :: Ow.own 3 1 encI vl l :: fr) h_7 := hS
     replace hK := hK.trans hk
     refine HA.one (k := 11) ⟨(hS.own 2 rfl), (Go.Wk.at_nil _ _)⟩ (by kernel_rfl) ?_
     refine HS.eff rfl (want_none) rfl (st_append te_36 hS (i := 1) rfl (cutIs (hS.own 2 rfl).slice n_1 (l.length : Int) ho_7.1 ho_7.2.1 ho_7.2.2) rfl rfl rfl (by intro a _ u hu; simp [encI, encI, encN, encB, encT] at hu; subst hu; rfl) ho_8 (by omega)) ?_
     rintro v_3 h_8 ⟨hS, hk⟩
     replace hS : St F_4 (Ow.own 3 1 encI (.slice (some ⟨b_2, 0, none⟩) 1 1) ([n] : List Int) :: Ow.own 3 1 encI v_3 (((([] : List Int) ++ (cut l 0 n_1)) ++ ([n] : List Int)) ++ (cut l n_1 (l.length : Int))) :: Ow.own 3 1 encI vl l :: fr) h_8 := hS
     replace hK := hK.trans hk
     refine HA.val (k := 12) (v := v_3) rfl rfl (by kernel_rfl) (by kernel_rfl) (want_none) rfl (fun _ c202 => q_assign rfl) ?_
     refine HA.nil ⟨(hS.own 2 rfl), (Go.Wk.at_nil _ _)⟩ (by kernel_rfl) (thenQ_normal (?_))
     refine HW.ret (?_)
     refine ⟨.inr rfl, v_3, res1 rfl (rt rfl), ?_⟩
     replace hS : St F_4 (Ow.own 3 1 encI v_3 (((([] : List Int) ++ (cut l 0 n_1)) ++ ([n] : List Int)) ++ (cut l n_1 (l.length : Int))) :: fr) h_8 := hS.perm2 [1] 3 rfl rfl
     exact ⟨F_4, ((([] : List Int) ++ (cut l 0 n_1)) ++ ([n] : List Int)) ++ (cut l n_1 (l.length : Int)), v_3, rfl, hK, hS, hM⟩
    ·
     refine HS.eff rfl (want_none) rfl (st_lit (enc := encI) (cells := #[.int .i64 n]) #[.int .i64 0] ([n] : List Int) hS tl_36 (by decide) (by decide) (by kernel_rfl) (by kernel_rfl) rfl (by intro x hx; rfl) rfl) ?_
     rintro _ h_5 ⟨b_2, rfl, hS, hk⟩
     replace hK := hK.trans hk
     refine HA.one (k := 4) ⟨(hS.own 2 rfl), (Go.Wk.at_nil _ _)⟩ (by kernel_rfl) ?_
     refine HS.eff rfl (want_none) rfl (st_append te_36 hS (i := 1) rfl (cutIs (hS.own 2 rfl).slice 0 n_1 ho_4.1 ho_4.2.1 ho_4.2.2) rfl rfl rfl (by intro a _ u hu; simp [encI, encI, encN, encB, encT] at hu; subst hu; rfl) ho_5 (by omega)) ?_
     rintro v_1 h_6 ⟨hS, hk⟩
     replace hS : St F_4 (Ow.own 3 1 encI (.slice (some ⟨b_2, 0, none⟩) 1 1) ([n] : List Int) :: Ow.own 3 1 encI v_1 (([] : List Int) ++ (cut l 0 n_1)) :: Ow.own 3 1 encI vl l :: fr) h_6 := hS
     replace hK := hK.trans hk
     refine HA.one (k := 7) ⟨(hS.own 2 rfl), (Go.Wk.at_nil _ _)⟩ (by kernel_rfl) ?_
     refine HS.eff rfl (want_none) rfl (st_append te_36 hS (i := 1) rfl (hS.own 0 rfl).slice rfl rfl rfl (by intro a _ u hu; simp [encI, encI, encN, encB, encT] at hu; subst hu; rfl) ho_6 (by omega)) ?_
     rintro v_2 h_7 ⟨hS, hk⟩
     replace hS : St F_4 (Ow.own 3 1 encI (.slice (some ⟨b_2, 0, none⟩) 1 1) ([n] : List Int) :: Ow.own 3 1 encI v_2 ((([] : List Int) ++ (cut l 0 n_1)) ++ ([n] : List Int)) :: Ow.own 3 1 encI vl l :: fr) h_7 := hS
     replace hK := hK.trans hk
     refine HA.one (k := 11) ⟨(hS.own 2 rfl), (Go.Wk.at_nil _ _)⟩ (by kernel_rfl) ?_
     refine HS.eff rfl (want_none) rfl (st_append te_36 hS (i := 1) rfl (cutIs (hS.own 2 rfl).slice n_1 (l.length : Int) ho_7.1 ho_7.2.1 ho_7.2.2) rfl rfl rfl (by intro a _ u hu; simp [encI, encI, encN, encB, encT] at hu; subst hu; rfl) ho_8 (by omega)) ?_
     rintro v_3 h_8 ⟨hS, hk⟩
     replace hS : St F_4 (Ow.own 3 1 encI (.slice (some ⟨b_2, 0, none⟩) 1 1) ([n] : List Int) :: Ow.own 3 1 encI v_3 (((([] : List Int) ++ (cut l 0 n_1)) ++ ([n] : List Int)) ++ (cut l n_1 (l.length : Int))) :: Ow.own 3 1 encI vl l :: fr) h_8 := hS
     replace hK := hK.trans hk
     refine HA.val (k := 12) (v := v_3) rfl rfl (by kernel_rfl) (by kernel_rfl) (want_none) rfl (fun _ c202 => q_assign rfl) ?_
     refine HA.nil ⟨(hS.own 2 rfl), (Go.Wk.at_nil _ _)⟩ (by kernel_rfl) (thenQ_normal (?_))
     refine HW.ret (?_)
     refine ⟨.inr rfl, v_3, res1 rfl (rt rfl), ?_⟩
     replace hS : St F_4 (Ow.own 3 1 encI v_3 (((([] : List Int) ++ (cut l 0 n_1)) ++ ([n] : List Int)) ++ (cut l n_1 (l.length : Int))) :: fr) h_8 := hS.perm2 [1] 3 rfl rfl
     exact ⟨F_4, ((([] : List Int) ++ (cut l 0 n_1)) ++ ([n] : List Int)) ++ (cut l n_1 (l.length : Int)), v_3, rfl, hK, hS, hM⟩
   ·
    refine HS.eff rfl (want_none) rfl (st_lit (enc := encI) (cells := #[.int .i64 n]) #[.int .i64 0] ([n] : List Int) hS tl_36 (by decide) (by decide) (by kernel_rfl) (by kernel_rfl) rfl (by intro x hx; rfl) rfl) ?_
    rintro _ h_4 ⟨b_1, rfl, hS, hk⟩
    replace hK := hK.trans hk
    refine HA.one (k := 0) ⟨(hS.own 1 rfl), (Go.Wk.at_nil _ _)⟩ (by kernel_rfl) ?_
    refine HS.eff rfl (want_none) rfl (st_litEmpty (α := Int) encI hS tl_36) ?_
    rintro _ h_5 ⟨b_2, rfl, hS, hk⟩
    replace hK := hK.trans hk
    refine HA.one (k := 4) ⟨(hS.own 2 rfl), (Go.Wk.at_nil _ _)⟩ (by kernel_rfl) ?_
    refine HS.eff rfl (want_none) rfl (st_append te_36 hS (i := 0) rfl (cutIs (hS.own 2 rfl).slice 0 n_1 ho_4.1 ho_4.2.1 ho_4.2.2) rfl rfl rfl (by intro a _ u hu; simp [encI, encI, encN, encB, encT] at hu; subst hu; rfl) ho_5 (by omega)) ?_
    rintro v_1 h_6 ⟨hS, hk⟩
    replace hS : St F_4 (Ow.own 3 1 encI v_1 (([] : List Int) ++ (cut l 0 n_1)) :: Ow.own 3 1 encI (.slice (some ⟨b_1, 0, none⟩) 1 1) ([n] : List Int) :: Ow.own 3 1 encI vl l :: fr) h_6 := hS
    replace hK := hK.trans hk
    refine HA.one (k := 7) ⟨(hS.own 2 rfl), (Go.Wk.at_nil _ _)⟩ (by kernel_rfl) ?_
    refine HS.eff rfl (want_none) rfl (st_append te_36 hS (i := 0) rfl (hS.own 1 rfl).slice rfl rfl rfl (by intro a _ u hu; simp [encI, encI, encN, encB, encT] at hu; subst hu; rfl) ho_6 (by omega)) ?_
    rintro v_2 h_7 ⟨hS, hk⟩
    replace hS : St F_4 (Ow.own 3 1 encI v_2 ((([] : List Int) ++ (cut l 0 n_1)) ++ ([n] : List Int)) :: Ow.own 3 1 encI (.slice (some ⟨b_1, 0, none⟩) 1 1) ([n] : List Int) :: Ow.own 3 1 encI vl l :: fr) h_7 := hS
    replace hK := hK.trans hk
    refine HA.one (k := 11) ⟨(hS.own 2 rfl), (Go.Wk.at_nil _ _)⟩ (by kernel_rfl) ?_
    refine HS.eff rfl (want_none) rfl (st_append te_36 hS (i := 0) rfl (cutIs (hS.own 2 rfl).slice n_1 (l.length : Int) ho_7.1 ho_7.2.1 ho_7.2.2) rfl rfl rfl (by intro a _ u hu; simp [encI, encI, encN, encB, encT] at hu; subst hu; rfl) ho_8 (by omega)) ?_
    rintro v_3 h_8 ⟨hS, hk⟩
    replace hS : St F_4 (Ow.own 3 1 encI v_3 (((([] : List Int) ++ (cut l 0 n_1)) ++ ([n] : List Int)) ++ (cut l n_1 (l.length : Int))) :: Ow.own 3 1 encI (.slice (some ⟨b_1, 0, none⟩) 1 1) ([n] : List Int) :: Ow.own 3 1 encI vl l :: fr) h_8 := hS
    replace hK := hK.trans hk
    refine HA.val (k := 12) (v := v_3) rfl rfl (by kernel_rfl) (by kernel_rfl) (want_none) rfl (fun _ c202 => q_assign rfl) ?_
    refine HA.nil ⟨(hS.own 2 rfl), (Go.Wk.at_nil _ _)⟩ (by kernel_rfl) (thenQ_normal (?_))
    refine HW.ret (?_)
    refine ⟨.inr rfl, v_3, res1 rfl (rt rfl), ?_⟩
    replace hS : St F_4 (Ow.own 3 1 encI v_3 (((([] : List Int) ++ (cut l 0 n_1)) ++ ([n] : List Int)) ++ (cut l n_1 (l.length : Int))) :: fr) h_8 := hS.perm2 [0] 3 rfl rfl
    exact ⟨F_4, ((([] : List Int) ++ (cut l 0 n_1)) ++ ([n] : List Int)) ++ (cut l n_1 (l.length : Int)), v_3, rfl, hK, hS, hM⟩

def ref32_Below_l2 (t_Links : List T_api_Branch) (k_1 : Int) (K_1 : (List Int) → Int → Prop) (K_2 : (List Int) → Int → Prop) (out_2 : List Int) (i_1 : Int) : Prop :=
 (i_1 < (t_Links.length : Int) → ((0 : Int) ≤ i_1 ∧ i_1 < (t_Links.length : Int)) ∧ (ref32_Has_W out_2 ((gi t_Links i_1).1) (fun r_2 => (r_2 = true → ref32_Add_W out_2 ((gi t_Links i_1).2) (fun r_3 => (I64 (i_1 + 1)) ∧ (K_2 r_3 (i_1 + 1)))) ∧ (r_2 = false → (I64 (i_1 + 1)) ∧ (K_2 out_2 (i_1 + 1)))))) ∧ (¬ (i_1 < (t_Links.length : Int)) → (I64 (k_1 + 1)) ∧ (K_1 out_2 (k_1 + 1)))
def ref32_Below_l1 (t_Links : List T_api_Branch) (Q : (List Int) → Prop) (K_1 : (List Int) → Int → Prop) (out_1 : List Int) (k_1 : Int) : Prop :=
 (k_1 ≤ (t_Links.length : Int) → loopW (fun (K_2 : (List Int × Int) → Prop) (s : List Int × Int) => ref32_Below_l2 t_Links k_1 K_1 (fun out_2 i_1 => K_2 (out_2, i_1)) s.1 s.2) (out_1, 0)) ∧ (¬ (k_1 ≤ (t_Links.length : Int)) → Q out_1)
def ref32_Below_W (t_Root : Int) (t_Links : List T_api_Branch) (n : Int) (Q : (List Int) → Prop) : Prop :=
 loopW (fun (K_1 : (List Int × Int) → Prop) (s : List Int × Int) => ref32_Below_l1 t_Links Q (fun out_1 k_1 => K_1 (out_1, k_1)) s.1 s.2) (([n] : List Int), 0)
set_option maxHeartbeats 40000000 in
set_option maxRecDepth 100000 in
theorem ref32_Below_walk {F : Fz} {fr : List Ow} {h0 : Heap} (t_Root : Int) (t_Links : List T_api_Branch) (n : Int) (vt_Links : Value) (hS : St F (fr) h0) (hL_t_Links : SliceF F h0 2 e_api_Branch vt_Links t_Links) {Q : (List Int) → Prop} (hM : ref32_Below_W t_Root t_Links n Q) :
  HC Tryz.prog 20 #[.agg #[.int .i64 t_Root, vt_Links], .int .i64 n] h0 fun u h' => ∃ (F' : Fz) (r_1 : List Int) (vr_1 : Value), u = vr_1 ∧ Kp F h0 F' h' ∧ St F' (Ow.own 3 1 encI vr_1 r_1 :: fr) h' ∧ (SliceF F' h' 2 e_api_Branch vt_Links t_Links) ∧ Q r_1 := by
 unfold ref32_Below_W at hM
 have hK := Kp.refl F h0
 refine HC.of_HW (n := 41) Tryz.func20 rfl rfl (Nat.le_of_ble_eq_true rfl) ?_
 refine HW.seq ?_
 refine HW.region ?_
 refine HO.eff (want_none) rfl (st_box (c := #[.int .i64 t_Root, vt_Links]) (k' := 2) hS rfl rfl) ?_
 rintro _ h_1 ⟨b_1, rfl, hS, hk⟩
 replace hK := hK.trans hk
 replace hL_t_Links := hL_t_Links.kp hk
 refine oA (.slice none 0 0) rfl rfl ?_
 refine HO.nil (thenQ_normal (?_))
 refine HW.seq ?_
 refine HW.region ?_
 refine oM (.int .i64 n) rfl rfl ?_
 refine HO.eff (want_none) rfl (st_lit (enc := encI) (cells := #[.int .i64 n]) #[.int .i64 0] ([n] : List Int) hS tl_36 (by decide) (by decide) (by kernel_rfl) (by kernel_rfl) rfl (by intro x hx; rfl) rfl) ?_
 rintro _ h_2 ⟨b_2, rfl, hS, hk⟩
 replace hK := hK.trans hk
 replace hL_t_Links := hL_t_Links.kp hk
 refine oA (.slice (some ⟨b_2, 0, none⟩) 1 1) rfl rfl ?_
 refine HO.nil (thenQ_normal (?_))
 refine HW.seq ?_
 refine HW.seq ?_
 refine HW.region ?_
 refine oA (.int .i64 0) rfl rfl ?_
 refine HO.nil (thenQ_normal (?_))
 refine HW.block ?_
 obtain ⟨I_1, m_1, hI_1, hR_1⟩ := hM
 replace hS : St F (Ow.box b_1 24 #[.int .i64 t_Root, vt_Links] :: Ow.own 3 1 encI (.slice (some ⟨b_2, 0, none⟩) 1 1) ([n] : List Int) :: fr) h_2 := hS.perm2 [1, 0] 2 rfl rfl
 refine HW.loop (S := List Int × Int) (fun s f h => match s with | (out_1, k_1) => ∃ (F' : Fz) (vout_1 : Value), f 2 = .pointer (some ⟨b_1, 0, none⟩) ∧ f 4 = .slice none 0 0 ∧ f 5 = vout_1 ∧ f 6 = .int .i64 k_1 ∧ Kp F h0 F' h ∧ St F' (Ow.box b_1 24 #[.int .i64 t_Root, vt_Links] :: Ow.own 3 1 encI vout_1 out_1 :: fr) h ∧ (SliceF F' h 2 e_api_Branch vt_Links t_Links) ∧ I_1 (out_1, k_1)) m_1 (([n] : List Int), 0) ⟨F, .slice (some ⟨b_2, 0, none⟩) 1 1, rfl, rfl, rfl, rfl, hK, hS, hL_t_Links, hI_1⟩ ?_
 rintro ⟨out_1, k_1⟩ f_1 h_3 ⟨F_1, vout_1, e2, e4, e5, e6, hK, hS, hL_t_Links, hI0⟩
 obtain ⟨K_1, hKe_1⟩ : ∃ K : (List Int) → Int → Prop, K = fun out_1' k_1' => I_1 (out_1', k_1') ∧ m_1 (out_1', k_1') < m_1 (out_1, k_1) := ⟨_, rfl⟩
 have hM : ref32_Below_l1 t_Links Q K_1 out_1 k_1 := by rw [hKe_1]; exact hR_1 (out_1, k_1) hI0
 unfold ref32_Below_l1 at hM
 refine HW.fr [(2, .pointer (some ⟨b_1, 0, none⟩)), (4, .slice none 0 0), (5, vout_1), (6, .int .i64 k_1)] ⟨e2, e4, e5, e6, trivial⟩ ?_
 refine HW.seq ?_
 refine HW.seq ?_
 refine HW.region ?_
 refine oM (.int .i64 k_1) rfl rfl ?_
 refine oV (.pointer (some ⟨b_1, 1, none⟩)) (q_fieldAddr fa_24_1 rfl rfl) rfl ?_
 refine oV (vt_Links) (q_load to_22 rfl (Blk.cell (hS.box 0 rfl) rfl)) rfl ?_
 refine oV (.int .i64 (t_Links.length : Int)) (q_len ts_22 (shp hL_t_Links.is) rfl rfl) rfl ?_
 refine oV (.bool (decide (k_1 ≤ (t_Links.length : Int)))) (q_leq rfl rfl) rfl ?_
 refine HO.nil (thenQ_normal (?_))
 refine HW.cond (decide (k_1 ≤ (t_Links.length : Int))) rfl (fun c_1 => ?_) (fun c_1 => ?_)
 ·
  replace hM := hM.1 (of_decide_eq_true c_1)
  refine HW.skip (thenQ_normal (?_))
  refine HW.seq ?_
  refine HW.block ?_
  refine HW.seq ?_
  refine HW.region ?_
  refine oA (.int .i64 0) rfl rfl ?_
  refine HO.nil (thenQ_normal (?_))
  refine HW.block ?_
  obtain ⟨I_2, m_2, hI_2, hR_2⟩ := hM
  refine HW.loop (S := List Int × Int) (fun s f h => match s with | (out_2, i_1) => ∃ (F' : Fz) (vout_2 : Value), f 2 = .pointer (some ⟨b_1, 0, none⟩) ∧ f 4 = .slice none 0 0 ∧ f 5 = vout_2 ∧ f 6 = .int .i64 k_1 ∧ f 7 = .int .i64 i_1 ∧ Kp F h0 F' h ∧ St F' (Ow.box b_1 24 #[.int .i64 t_Root, vt_Links] :: Ow.own 3 1 encI vout_2 out_2 :: fr) h ∧ (SliceF F' h 2 e_api_Branch vt_Links t_Links) ∧ I_2 (out_2, i_1)) m_2 (out_1, 0) ⟨F_1, vout_1, rfl, rfl, rfl, rfl, rfl, hK, hS, hL_t_Links, hI_2⟩ ?_
  rintro ⟨out_2, i_1⟩ f_2 h_4 ⟨F_2, vout_2, e2, e4, e5, e6, e7, hK, hS, hL_t_Links, hI0⟩
  obtain ⟨K_2, hKe_2⟩ : ∃ K : (List Int) → Int → Prop, K = fun out_2' i_1' => I_2 (out_2', i_1') ∧ m_2 (out_2', i_1') < m_2 (out_2, i_1) := ⟨_, rfl⟩
  have hM : ref32_Below_l2 t_Links k_1 K_1 K_2 out_2 i_1 := by rw [hKe_2]; exact hR_2 (out_2, i_1) hI0
  unfold ref32_Below_l2 at hM
  refine HW.fr [(2, .pointer (some ⟨b_1, 0, none⟩)), (4, .slice none 0 0), (5, vout_2), (6, .int .i64 k_1), (7, .int .i64 i_1)] ⟨e2, e4, e5, e6, e7, trivial⟩ ?_
  refine HW.seq ?_
  refine HW.seq ?_
  refine HW.region ?_
  refine oM (.int .i64 i_1) rfl rfl ?_
  refine oV (.pointer (some ⟨b_1, 1, none⟩)) (q_fieldAddr fa_24_1 rfl rfl) rfl ?_
  refine oV (vt_Links) (q_load to_22 rfl (Blk.cell (hS.box 0 rfl) rfl)) rfl ?_
  refine oV (.int .i64 (t_Links.length : Int)) (q_len ts_22 (shp hL_t_Links.is) rfl rfl) rfl ?_
  refine oV (.bool (decide (i_1 < (t_Links.length : Int)))) (q_lss rfl rfl) rfl ?_
  refine HO.nil (thenQ_normal (?_))
  refine HW.cond (decide (i_1 < (t_Links.length : Int))) rfl (fun c_2 => ?_) (fun c_2 => ?_)
  ·
   replace hM := hM.1 (of_decide_eq_true c_2)
   refine HW.skip (thenQ_normal (?_))
   refine HW.seq ?_
   refine HW.block ?_
   refine HW.seq ?_
   refine HW.region ?_
   refine oM (vout_2) rfl rfl ?_
   refine oV (.pointer (some ⟨b_1, 1, none⟩)) (q_fieldAddr fa_24_1 rfl rfl) rfl ?_
   refine oV (vt_Links) (q_load to_22 rfl (Blk.cell (hS.box 0 rfl) rfl)) rfl ?_
   refine oM (.int .i64 i_1) rfl rfl ?_
   obtain ⟨ho_1, hM⟩ := hM
   refine oV (elemPtr 2 vt_Links (i_1).toNat) (q_idx ts_22 hL_t_Links.is rfl rfl ho_1) rfl ?_
   refine oV (fieldPtr 2 vt_Links (i_1).toNat 0) (q_fldElem fa_46_0 hL_t_Links.is rfl ho_1) rfl ?_
   refine oV (.int .i64 ((gi t_Links i_1).1)) (q_ldField to_3 hL_t_Links.is rfl ho_1 (by decide) rfl) rfl ?_
   replace hS : St F_2 (Ow.own 3 1 encI vout_2 out_2 :: Ow.box b_1 24 #[.int .i64 t_Root, vt_Links] :: fr) h_4 := hS.perm2 [1, 0] 2 rfl rfl
   have hZ_1 := hS
   have hkz_1 := (hS.freeze).2
   replace hS := hS.freeze.1
   have hL_1 : SliceF (fun bz_ => F_2 bz_ ∨ (Ow.own 3 1 encI vout_2 out_2).foot bz_) h_4 1 encI vout_2 out_2 := ⟨(hZ_1.own 0 rfl).slice, fun _ b hb => .inr hb⟩
   refine HO.call (want_none) rfl (ec en_16 rfl rfl) (ref32_Has_walk (fr := (Ow.box b_1 24 #[.int .i64 t_Root, vt_Links] :: fr)) out_2 ((gi t_Links i_1).1) vout_2 hS hL_1 hM) ?_
   rintro _ h_5 ⟨F_3, r_2, rfl, hk, hS, _, hM⟩
   obtain ⟨hS, hk⟩ := hZ_1.back hk hS
   generalize (fun bz_ => F_3 bz_ ∧ ¬ (Ow.own 3 1 encI vout_2 out_2).foot bz_) = F_4 at hS hk
   replace hK := hK.trans hk
   replace hL_t_Links := hL_t_Links.kp hk
   refine HO.nil (thenQ_normal (?_))
   refine HW.cond r_2 rfl (fun c_3 => ?_) (fun c_3 => ?_)
   ·
    replace hM := hM.1 c_3
    refine HW.region ?_
    refine oM (vout_2) rfl rfl ?_
    refine oV (.pointer (some ⟨b_1, 1, none⟩)) (q_fieldAddr fa_24_1 rfl rfl) rfl ?_
    refine oV (vt_Links) (q_load to_22 rfl (Blk.cell (hS.box 1 rfl) rfl)) rfl ?_
    refine oM (.int .i64 i_1) rfl rfl ?_
    refine oV (elemPtr 2 vt_Links (i_1).toNat) (q_idx ts_22 hL_t_Links.is rfl rfl ho_1) rfl ?_
    refine oV (fieldPtr 2 vt_Links (i_1).toNat 1) (q_fldElem fa_46_1 hL_t_Links.is rfl ho_1) rfl ?_
    refine oV (.int .i64 ((gi t_Links i_1).2)) (q_ldField to_3 hL_t_Links.is rfl ho_1 (by decide) rfl) rfl ?_
    refine HO.call (want_none) rfl (ec en_50 rfl rfl) (ref32_Add_walk (fr := (Ow.box b_1 24 #[.int .i64 t_Root, vt_Links] :: fr)) out_2 ((gi t_Links i_1).2) vout_2 hS hM) ?_
    rintro vr_2 h_6 ⟨F_5, r_3, _, rfl, hk, hS, hM⟩
    replace hK := hK.trans hk
    replace hL_t_Links := hL_t_Links.kp hk
    refine oA (vr_2) rfl rfl ?_
    refine HO.nil (blockQ_normal (thenQ_normal (?_)))
    refine HW.region ?_
    refine oM (.int .i64 i_1) rfl rfl ?_
    obtain ⟨ho_2, hM⟩ := hM
    refine oV (.int .i64 (i_1 + 1)) (q_addN _ rfl rfl rfl ho_2.1 ho_2.2) rfl ?_
    refine oA (.int .i64 (i_1 + 1)) rfl rfl ?_
    refine HO.nil (thenQ_normal (?_))
    replace hS : St F_5 (Ow.box b_1 24 #[.int .i64 t_Root, vt_Links] :: Ow.own 3 1 encI vr_2 r_3 :: fr) h_6 := hS.perm2 [1, 0] 2 rfl rfl
    rw [hKe_2] at hM
    exact ⟨(r_3, i_1 + 1), ⟨F_5, vr_2, rfl, rfl, rfl, rfl, rfl, hK, hS, hL_t_Links, hM.1⟩, hM.2⟩
   ·
    replace hM := hM.2 c_3
    refine HW.skip (blockQ_normal (thenQ_normal (?_)))
    refine HW.region ?_
    refine oM (.int .i64 i_1) rfl rfl ?_
    obtain ⟨ho_3, hM⟩ := hM
    refine oV (.int .i64 (i_1 + 1)) (q_addN _ rfl rfl rfl ho_3.1 ho_3.2) rfl ?_
    refine oA (.int .i64 (i_1 + 1)) rfl rfl ?_
    refine HO.nil (thenQ_normal (?_))
    replace hS : St F_4 (Ow.box b_1 24 #[.int .i64 t_Root, vt_Links] :: Ow.own 3 1 encI vout_2 out_2 :: fr) h_5 := hS.perm2 [1, 0] 2 rfl rfl
    rw [hKe_2] at hM
    exact ⟨(out_2, i_1 + 1), ⟨F_4, vout_2, rfl, rfl, rfl, rfl, rfl, hK, hS, hL_t_Links, hM.1⟩, hM.2⟩
  ·
   replace hM := hM.2 (of_decide_eq_false c_2)
   refine HW.exit (thenQ_exit (thenQ_exit (blockQ_exit (blockQ_normal (thenQ_normal (?_))))))
   refine HW.region ?_
   refine oM (.int .i64 k_1) rfl rfl ?_
   obtain ⟨ho_4, hM⟩ := hM
   refine oV (.int .i64 (k_1 + 1)) (q_addN _ rfl rfl rfl ho_4.1 ho_4.2) rfl ?_
   refine oA (.int .i64 (k_1 + 1)) rfl rfl ?_
   refine HO.nil (thenQ_normal (?_))
   rw [hKe_1] at hM
   exact ⟨(out_2, k_1 + 1), ⟨F_2, vout_2, rfl, rfl, rfl, rfl, hK, hS, hL_t_Links, hM.1⟩, hM.2⟩
 ·
  replace hM := hM.2 (of_decide_eq_false c_1)
  refine HW.exit (thenQ_exit (thenQ_exit (blockQ_exit (thenQ_normal (?_)))))
  refine HW.seq ?_
  refine HW.region ?_
  refine oM (vout_1) rfl rfl ?_
  refine oA (vout_1) rfl rfl ?_
  refine HO.nil (thenQ_normal (?_))
  refine HW.ret (?_)
  refine ⟨.inr rfl, vout_1, res1 rfl (rt rfl), ?_⟩
  replace hS : St F_1 (Ow.own 3 1 encI vout_1 out_1 :: fr) h_3 := hS.perm2 [1] 2 rfl rfl
  exact ⟨F_1, out_1, vout_1, rfl, hK, hS, hL_t_Links, hM⟩

def ref32_Good_l2 (t_Links : List T_api_Branch) (Q : Bool → Prop) (i_1 : Int) (K_1 : Int → Prop) (K_2 : Int → Prop) (k_1 : Int) : Prop :=
 (k_1 < i_1 → ((0 : Int) ≤ k_1 ∧ k_1 < (t_Links.length : Int)) ∧ (((0 : Int) ≤ i_1 ∧ i_1 < (t_Links.length : Int)) ∧ ((((gi t_Links k_1).2) = ((gi t_Links i_1).2) → Q false) ∧ (¬ (((gi t_Links k_1).2) = ((gi t_Links i_1).2)) → (I64 (k_1 + 1)) ∧ (K_2 (k_1 + 1)))))) ∧ (¬ (k_1 < i_1) → (I64 (i_1 + 1)) ∧ (K_1 (i_1 + 1)))
def ref32_Good_j1 (t_Links : List T_api_Branch) (Q : Bool → Prop) (i_1 : Int) (K_1 : Int → Prop) : Prop :=
 loopW (fun (K_2 : Int → Prop) (s : Int) => ref32_Good_l2 t_Links Q i_1 K_1 K_2 s) 0
def ref32_Good_l1 (t_Root : Int) (t_Links : List T_api_Branch) (Q : Bool → Prop) (K_1 : Int → Prop) (i_1 : Int) : Prop :=
 (i_1 < (t_Links.length : Int) → ((0 : Int) ≤ i_1 ∧ i_1 < (t_Links.length : Int)) ∧ ((((gi t_Links i_1).2) = t_Root → Q false) ∧ (¬ (((gi t_Links i_1).2) = t_Root) → (0 < i_1 → (I64 (i_1 - 1)) ∧ (((0 : Int) ≤ i_1 - 1 ∧ i_1 - 1 < (t_Links.length : Int)) ∧ (ref32_less_W (gi t_Links (i_1 - 1)) (gi t_Links i_1) (fun r_2 => ((!r_2) = true → Q false) ∧ ((!r_2) = false → ref32_Good_j1 t_Links Q i_1 K_1))))) ∧ (¬ (0 < i_1) → ref32_Good_j1 t_Links Q i_1 K_1)))) ∧ (¬ (i_1 < (t_Links.length : Int)) → ((t_Links.length : Int) < 256 → (I64 ((t_Links.length : Int) + 1)) ∧ (ref32_Below_W t_Root t_Links t_Root (fun r_3 => Q (decide ((r_3.length : Int) = ((t_Links.length : Int) + 1)))))) ∧ (¬ ((t_Links.length : Int) < 256) → Q false))
def ref32_Good_W (t_Root : Int) (t_Links : List T_api_Branch) (Q : Bool → Prop) : Prop :=
 loopW (fun (K_1 : Int → Prop) (s : Int) => ref32_Good_l1 t_Root t_Links Q K_1 s) 0
set_option maxHeartbeats 40000000 in
set_option maxRecDepth 100000 in
theorem ref32_Good_walk {F : Fz} {fr : List Ow} {h0 : Heap} (t_Root : Int) (t_Links : List T_api_Branch) (vt_Links : Value) (hS : St F (fr) h0) (hL_t_Links : SliceF F h0 2 e_api_Branch vt_Links t_Links) {Q : Bool → Prop} (hM : ref32_Good_W t_Root t_Links Q) :
  HC Tryz.prog 12 #[.agg #[.int .i64 t_Root, vt_Links]] h0 fun u h' => ∃ (F' : Fz) (r_1 : Bool), u = .bool r_1 ∧ Kp F h0 F' h' ∧ St F' (fr) h' ∧ (SliceF F' h' 2 e_api_Branch vt_Links t_Links) ∧ Q r_1 := by
 unfold ref32_Good_W at hM
 have hK := Kp.refl F h0
 refine HC.of_HW (n := 74) Tryz.func12 rfl rfl (Nat.le_of_ble_eq_true rfl) ?_
 refine HW.seq ?_
 refine HW.region ?_
 refine HO.eff (want_none) rfl (st_box (c := #[.int .i64 t_Root, vt_Links]) (k' := 2) hS rfl rfl) ?_
 rintro _ h_1 ⟨b_1, rfl, hS, hk⟩
 replace hK := hK.trans hk
 replace hL_t_Links := hL_t_Links.kp hk
 refine oA (.bool false) rfl rfl ?_
 refine HO.nil (thenQ_normal (?_))
 refine HW.seq ?_
 refine HW.seq ?_
 refine HW.region ?_
 refine oA (.int .i64 0) rfl rfl ?_
 refine HO.nil (thenQ_normal (?_))
 refine HW.block ?_
 obtain ⟨I_1, m_1, hI_1, hR_1⟩ := hM
 refine HW.loop (S := Int) (fun i_1 f h => ∃ (F' : Fz), f 1 = .pointer (some ⟨b_1, 0, none⟩) ∧ f 2 = .bool false ∧ f 3 = .int .i64 i_1 ∧ Kp F h0 F' h ∧ St F' (Ow.box b_1 24 #[.int .i64 t_Root, vt_Links] :: fr) h ∧ (SliceF F' h 2 e_api_Branch vt_Links t_Links) ∧ I_1 i_1) m_1 0 ⟨F, rfl, rfl, rfl, hK, hS, hL_t_Links, hI_1⟩ ?_
 rintro i_1 f_1 h_2 ⟨F_1, e1, e2, e3, hK, hS, hL_t_Links, hI0⟩
 obtain ⟨K_1, hKe_1⟩ : ∃ K : Int → Prop, K = fun i_1' => I_1 i_1' ∧ m_1 i_1' < m_1 i_1 := ⟨_, rfl⟩
 have hM : ref32_Good_l1 t_Root t_Links Q K_1 i_1 := by rw [hKe_1]; exact hR_1 i_1 hI0
 unfold ref32_Good_l1 at hM
 refine HW.fr [(1, .pointer (some ⟨b_1, 0, none⟩)), (2, .bool false), (3, .int .i64 i_1)] ⟨e1, e2, e3, trivial⟩ ?_
 refine HW.seq ?_
 refine HW.seq ?_
 refine HW.region ?_
 refine oM (.int .i64 i_1) rfl rfl ?_
 refine oV (.pointer (some ⟨b_1, 1, none⟩)) (q_fieldAddr fa_24_1 rfl rfl) rfl ?_
 refine oV (vt_Links) (q_load to_22 rfl (Blk.cell (hS.box 0 rfl) rfl)) rfl ?_
 refine oV (.int .i64 (t_Links.length : Int)) (q_len ts_22 (shp hL_t_Links.is) rfl rfl) rfl ?_
 refine oV (.bool (decide (i_1 < (t_Links.length : Int)))) (q_lss rfl rfl) rfl ?_
 refine HO.nil (thenQ_normal (?_))
 refine HW.cond (decide (i_1 < (t_Links.length : Int))) rfl (fun c_1 => ?_) (fun c_1 => ?_)
 ·
  replace hM := hM.1 (of_decide_eq_true c_1)
  refine HW.skip (thenQ_normal (?_))
  refine HW.seq ?_
  refine HW.block ?_
  refine HW.seq_mid (fun f h => ∃ (F' : Fz), f 1 = .pointer (some ⟨b_1, 0, none⟩) ∧ f 2 = .bool false ∧ f 3 = .int .i64 i_1 ∧ Kp F h0 F' h ∧ St F' (Ow.box b_1 24 #[.int .i64 t_Root, vt_Links] :: fr) h ∧ (SliceF F' h 2 e_api_Branch vt_Links t_Links) ∧ ref32_Good_j1 t_Links Q i_1 K_1) ?_ ?_
  ·
   refine HW.seq ?_
   refine HW.regionA 28 mixed (fun h => (SliceIs h 2 e_api_Branch vt_Links t_Links) ∧ (Blk h b_1 (.cells #[.int .i64 t_Root, vt_Links] 24 (0, 0)))) [] (by kernel_rfl) ?_
   refine HA.val (k := 0) (v := .pointer (some ⟨b_1, 1, none⟩)) rfl rfl (by kernel_rfl) (by kernel_rfl) (want_none) rfl (fun _ ⟨hL_t_Links, c302⟩ => q_fieldAddr fa_24_1 rfl rfl) ?_
   refine HA.val (k := 1) (v := vt_Links) rfl rfl (by kernel_rfl) (by kernel_rfl) (want_none) rfl (fun _ ⟨hL_t_Links, c302⟩ => q_load to_22 rfl (Blk.cell c302 rfl)) ?_
   refine HA.val (k := 2) (v := .int .i64 i_1) rfl rfl (by kernel_rfl) (by kernel_rfl) (want_none) rfl (fun _ ⟨hL_t_Links, c302⟩ => q_move rfl) ?_
   obtain ⟨ho_1, hM⟩ := hM
   refine HA.val (k := 3) (v := elemPtr 2 vt_Links (i_1).toNat) rfl rfl (by kernel_rfl) (by kernel_rfl) (want_none) rfl (fun _ ⟨hL_t_Links, c302⟩ => q_idx ts_22 hL_t_Links rfl rfl ho_1) ?_
   refine HA.val (k := 4) (v := fieldPtr 2 vt_Links (i_1).toNat 1) rfl rfl (by kernel_rfl) (by kernel_rfl) (want_none) rfl (fun _ ⟨hL_t_Links, c302⟩ => q_fldElem fa_46_1 hL_t_Links rfl ho_1) ?_
   refine HA.val (k := 5) (v := .int .i64 ((gi t_Links i_1).2)) rfl rfl (by kernel_rfl) (by kernel_rfl) (want_none) rfl (fun _ ⟨hL_t_Links, c302⟩ => q_ldField to_3 hL_t_Links rfl ho_1 (by decide) rfl) ?_
   refine HA.val (k := 6) (v := .pointer (some ⟨b_1, 0, none⟩)) rfl rfl (by kernel_rfl) (by kernel_rfl) (want_none) rfl (fun _ ⟨hL_t_Links, c302⟩ => q_fieldAddr fa_24_0 rfl rfl) ?_
   refine HA.val (k := 7) (v := .int .i64 t_Root) rfl rfl (by kernel_rfl) (by kernel_rfl) (want_none) rfl (fun _ ⟨hL_t_Links, c302⟩ => q_load to_3 rfl (Blk.cell c302 rfl)) ?_
   refine HA.val (k := 8) (v := .bool (decide (((gi t_Links i_1).2) = t_Root))) rfl rfl (by kernel_rfl) (by kernel_rfl) (want_none) rfl (fun _ ⟨hL_t_Links, c302⟩ => q_eql rfl rfl) ?_
   refine HA.val (k := 9) (v := .bool (decide (((gi t_Links i_1).2) = t_Root))) rfl rfl (by kernel_rfl) (by kernel_rfl) (want_none) rfl (fun _ ⟨hL_t_Links, c302⟩ => q_move rfl) ?_
   rcases Bool.eq_false_or_eq_true (decide (((gi t_Links i_1).2) = t_Root)) with c_2 | c_2
   ·
    replace hM := hM.1 (of_decide_eq_true c_2)
    refine HA.past (k := 10) rfl rfl (by kernel_rfl) (by kernel_rfl) (past_by rfl rfl c_2) rfl ?_
    refine HA.past (k := 11) rfl rfl (by kernel_rfl) (by kernel_rfl) (past_by rfl rfl c_2) rfl ?_
    refine HA.past (k := 12) rfl rfl (by kernel_rfl) (by kernel_rfl) (past_by rfl rfl c_2) rfl ?_
    refine HA.past (k := 13) rfl rfl (by kernel_rfl) (by kernel_rfl) (past_undef rfl rfl) rfl ?_
    refine HA.past (k := 14) rfl rfl (by kernel_rfl) (by kernel_rfl) (past_undef rfl rfl) rfl ?_
    refine HA.past (k := 15) rfl rfl (by kernel_rfl) (by kernel_rfl) (past_undef rfl rfl) rfl ?_
    refine HA.past (k := 16) rfl rfl (by kernel_rfl) (by kernel_rfl) (past_undef rfl rfl) rfl ?_
    refine HA.past (k := 17) rfl rfl (by kernel_rfl) (by kernel_rfl) (past_undef rfl rfl) rfl ?_
    refine HA.past (k := 18) rfl rfl (by kernel_rfl) (by kernel_rfl) (past_undef rfl rfl) rfl ?_
    refine HA.past (k := 19) rfl rfl (by kernel_rfl) (by kernel_rfl) (past_undef rfl rfl) rfl ?_
    refine HA.past (k := 20) rfl rfl (by kernel_rfl) (by kernel_rfl) (past_undef rfl rfl) rfl ?_
    refine HA.past (k := 21) rfl rfl (by kernel_rfl) (by kernel_rfl) (past_undef rfl rfl) rfl ?_
    refine HA.past (k := 22) rfl rfl (by kernel_rfl) (by kernel_rfl) (past_undef rfl rfl) rfl ?_
    refine HA.past (k := 23) rfl rfl (by kernel_rfl) (by kernel_rfl) (past_undef rfl rfl) rfl ?_
    refine HA.one (k := 24) ⟨⟨hL_t_Links.is, (hS.box 0 rfl)⟩, (Go.Wk.at_nil _ _)⟩ (by kernel_rfl) ?_
    refine HS.past rfl (past_undef rfl rfl) rfl ?_
    refine HA.past (k := 25) rfl rfl (by kernel_rfl) (by kernel_rfl) (past_undef rfl rfl) rfl ?_
    refine HA.past (k := 26) rfl rfl (by kernel_rfl) (by kernel_rfl) (past_by rfl rfl c_2) rfl ?_
    refine HA.val (k := 27) (v := .bool true) rfl rfl (by kernel_rfl) (by kernel_rfl) (want_none) rfl (fun _ ⟨hL_t_Links, c302⟩ => q_pickK true rfl c_2 rfl) ?_
    refine HA.nil ⟨⟨hL_t_Links.is, (hS.box 0 rfl)⟩, (Go.Wk.at_nil _ _)⟩ (by kernel_rfl) (thenQ_normal (?_))
    refine HW.condT rfl ?_
    refine HW.seq ?_
    refine HW.region ?_
    refine oA (.bool false) rfl rfl ?_
    refine HO.nil (thenQ_normal (?_))
    refine HW.ret (thenQ_ret (blockQ_ret (thenQ_ret (thenQ_ret (blockQ_ret (thenQ_ret (?_)))))))
    refine ⟨.inr rfl, .bool false, res1 rfl (rt rfl), ?_⟩
    replace hS : St F_1 (fr) h_2 := hS.perm2 [] 1 rfl rfl
    exact ⟨F_1, false, rfl, hK, hS, hL_t_Links, hM⟩
   ·
    replace hM := hM.2 (of_decide_eq_false c_2)
    refine HA.val (k := 10) (v := .int .i64 i_1) rfl rfl (by kernel_rfl) (by kernel_rfl) (want_by rfl rfl c_2) rfl (fun _ ⟨hL_t_Links, c302⟩ => q_move rfl) ?_
    refine HA.val (k := 11) (v := .bool (decide (0 < i_1))) rfl rfl (by kernel_rfl) (by kernel_rfl) (want_by rfl rfl c_2) rfl (fun _ ⟨hL_t_Links, c302⟩ => q_gtr rfl rfl) ?_
    refine HA.val (k := 12) (v := .bool (decide (0 < i_1))) rfl rfl (by kernel_rfl) (by kernel_rfl) (want_by rfl rfl c_2) rfl (fun _ ⟨hL_t_Links, c302⟩ => q_move rfl) ?_
    rcases Bool.eq_false_or_eq_true (decide (0 < i_1)) with c_3 | c_3
    ·
     replace hM := hM.1 (of_decide_eq_true c_3)
     refine HA.val (k := 13) (v := .pointer (some ⟨b_1, 1, none⟩)) rfl rfl (by kernel_rfl) (by kernel_rfl) (want_by rfl rfl c_3) rfl (fun _ ⟨hL_t_Links, c302⟩ => q_fieldAddr fa_24_1 rfl rfl) ?_
     refine HA.val (k := 14) (v := vt_Links) rfl rfl (by kernel_rfl) (by kernel_rfl) (want_by rfl rfl c_3) rfl (fun _ ⟨hL_t_Links, c302⟩ => q_load to_22 rfl (Blk.cell c302 rfl)) ?_
     refine HA.val (k := 15) (v := .int .i64 i_1) rfl rfl (by kernel_rfl) (by kernel_rfl) (want_by rfl rfl c_3) rfl (fun _ ⟨hL_t_Links, c302⟩ => q_move rfl) ?_
     obtain ⟨ho_2, hM⟩ := hM
     refine HA.val (k := 16) (v := .int .i64 (i_1 - 1)) rfl rfl (by kernel_rfl) (by kernel_rfl) (want_by rfl rfl c_3) rfl (fun _ ⟨hL_t_Links, c302⟩ => q_subN _ rfl rfl rfl ho_2.1 ho_2.2) ?_
     obtain ⟨ho_3, hM⟩ := hM
     refine HA.val (k := 17) (v := elemPtr 2 vt_Links (i_1 - 1).toNat) rfl rfl (by kernel_rfl) (by kernel_rfl) (want_by rfl rfl c_3) rfl (fun _ ⟨hL_t_Links, c302⟩ => q_idx ts_22 hL_t_Links rfl rfl ho_3) ?_
     refine HA.val (k := 18) (v := .agg #[.int .i64 ((gi t_Links (i_1 - 1)).1), .int .i64 ((gi t_Links (i_1 - 1)).2)]) rfl rfl (by kernel_rfl) (by kernel_rfl) (want_by rfl rfl c_3) rfl (fun _ ⟨hL_t_Links, c302⟩ => q_ldElemAgg (cs := [.int .i64 ((gi t_Links (i_1 - 1)).1), .int .i64 ((gi t_Links (i_1 - 1)).2)]) ta_46 hL_t_Links rfl ho_3 rfl) ?_
     refine HA.val (k := 19) (v := .pointer (some ⟨b_1, 1, none⟩)) rfl rfl (by kernel_rfl) (by kernel_rfl) (want_by rfl rfl c_3) rfl (fun _ ⟨hL_t_Links, c302⟩ => q_fieldAddr fa_24_1 rfl rfl) ?_
     refine HA.val (k := 20) (v := vt_Links) rfl rfl (by kernel_rfl) (by kernel_rfl) (want_by rfl rfl c_3) rfl (fun _ ⟨hL_t_Links, c302⟩ => q_load to_22 rfl (Blk.cell c302 rfl)) ?_
     refine HA.val (k := 21) (v := .int .i64 i_1) rfl rfl (by kernel_rfl) (by kernel_rfl) (want_by rfl rfl c_3) rfl (fun _ ⟨hL_t_Links, c302⟩ => q_move rfl) ?_
     refine HA.val (k := 22) (v := elemPtr 2 vt_Links (i_1).toNat) rfl rfl (by kernel_rfl) (by kernel_rfl) (want_by rfl rfl c_3) rfl (fun _ ⟨hL_t_Links, c302⟩ => q_idx ts_22 hL_t_Links rfl rfl ho_1) ?_
     refine HA.val (k := 23) (v := .agg #[.int .i64 ((gi t_Links i_1).1), .int .i64 ((gi t_Links i_1).2)]) rfl rfl (by kernel_rfl) (by kernel_rfl) (want_by rfl rfl c_3) rfl (fun _ ⟨hL_t_Links, c302⟩ => q_ldElemAgg (cs := [.int .i64 ((gi t_Links i_1).1), .int .i64 ((gi t_Links i_1).2)]) ta_46 hL_t_Links rfl ho_1 rfl) ?_
     refine HA.one (k := 24) ⟨⟨hL_t_Links.is, (hS.box 0 rfl)⟩, (Go.Wk.at_nil _ _)⟩ (by kernel_rfl) ?_
     refine HS.call rfl (want_by rfl rfl c_3) rfl (ec en_47 rfl rfl) (ref32_less_walk (fr := (Ow.box b_1 24 #[.int .i64 t_Root, vt_Links] :: fr)) (gi t_Links (i_1 - 1)) (gi t_Links i_1) hS hM) ?_
     rintro _ h_3 ⟨F_2, r_2, rfl, hk, hS, hM⟩
     replace hK := hK.trans hk
     replace hL_t_Links := hL_t_Links.kp hk
     refine HA.val (k := 25) (v := .bool (!r_2)) rfl rfl (by kernel_rfl) (by kernel_rfl) (want_by rfl rfl c_3) rfl (fun _ ⟨hL_t_Links, c302⟩ => q_not rfl) ?_
     refine HA.val (k := 26) (v := .bool (!r_2)) rfl rfl (by kernel_rfl) (by kernel_rfl) (want_by rfl rfl c_2) rfl (fun _ ⟨hL_t_Links, c302⟩ => q_pickK true rfl c_3 rfl) ?_
     refine HA.val (k := 27) (v := .bool (!r_2)) rfl rfl (by kernel_rfl) (by kernel_rfl) (want_none) rfl (fun _ ⟨hL_t_Links, c302⟩ => q_pickK false rfl c_2 rfl) ?_
     refine HA.nil ⟨⟨hL_t_Links.is, (hS.box 0 rfl)⟩, (Go.Wk.at_nil _ _)⟩ (by kernel_rfl) (thenQ_normal (?_))
     refine HW.cond (!r_2) rfl (fun c_4 => ?_) (fun c_4 => ?_)
     ·
      replace hM := hM.1 c_4
      refine HW.seq ?_
      refine HW.region ?_
      refine oA (.bool false) rfl rfl ?_
      refine HO.nil (thenQ_normal (?_))
      refine HW.ret (thenQ_ret (blockQ_ret (thenQ_ret (thenQ_ret (blockQ_ret (thenQ_ret (?_)))))))
      refine ⟨.inr rfl, .bool false, res1 rfl (rt rfl), ?_⟩
      replace hS : St F_2 (fr) h_3 := hS.perm2 [] 1 rfl rfl
      exact ⟨F_2, false, rfl, hK, hS, hL_t_Links, hM⟩
     ·
      replace hM := hM.2 c_4
      refine HW.skip (thenQ_normal (?_))
      exact ⟨F_2, rfl, rfl, rfl, hK, hS, hL_t_Links, hM⟩
    ·
     replace hM := hM.2 (of_decide_eq_false c_3)
     refine HA.past (k := 13) rfl rfl (by kernel_rfl) (by kernel_rfl) (past_by rfl rfl c_3) rfl ?_
     refine HA.past (k := 14) rfl rfl (by kernel_rfl) (by kernel_rfl) (past_by rfl rfl c_3) rfl ?_
     refine HA.past (k := 15) rfl rfl (by kernel_rfl) (by kernel_rfl) (past_by rfl rfl c_3) rfl ?_
     refine HA.past (k := 16) rfl rfl (by kernel_rfl) (by kernel_rfl) (past_by rfl rfl c_3) rfl ?_
     refine HA.past (k := 17) rfl rfl (by kernel_rfl) (by kernel_rfl) (past_by rfl rfl c_3) rfl ?_
     refine HA.past (k := 18) rfl rfl (by kernel_rfl) (by kernel_rfl) (past_by rfl rfl c_3) rfl ?_
     refine HA.past (k := 19) rfl rfl (by kernel_rfl) (by kernel_rfl) (past_by rfl rfl c_3) rfl ?_
     refine HA.past (k := 20) rfl rfl (by kernel_rfl) (by kernel_rfl) (past_by rfl rfl c_3) rfl ?_
     refine HA.past (k := 21) rfl rfl (by kernel_rfl) (by kernel_rfl) (past_by rfl rfl c_3) rfl ?_
     refine HA.past (k := 22) rfl rfl (by kernel_rfl) (by kernel_rfl) (past_by rfl rfl c_3) rfl ?_
     refine HA.past (k := 23) rfl rfl (by kernel_rfl) (by kernel_rfl) (past_by rfl rfl c_3) rfl ?_
     refine HA.one (k := 24) ⟨⟨hL_t_Links.is, (hS.box 0 rfl)⟩, (Go.Wk.at_nil _ _)⟩ (by kernel_rfl) ?_
     refine HS.past rfl (past_by rfl rfl c_3) rfl ?_
     refine HA.past (k := 25) rfl rfl (by kernel_rfl) (by kernel_rfl) (past_by rfl rfl c_3) rfl ?_
     refine HA.val (k := 26) (v := .bool false) rfl rfl (by kernel_rfl) (by kernel_rfl) (want_by rfl rfl c_2) rfl (fun _ ⟨hL_t_Links, c302⟩ => q_pickK false rfl c_3 rfl) ?_
     refine HA.val (k := 27) (v := .bool false) rfl rfl (by kernel_rfl) (by kernel_rfl) (want_none) rfl (fun _ ⟨hL_t_Links, c302⟩ => q_pickK false rfl c_2 rfl) ?_
     refine HA.nil ⟨⟨hL_t_Links.is, (hS.box 0 rfl)⟩, (Go.Wk.at_nil _ _)⟩ (by kernel_rfl) (thenQ_normal (?_))
     refine HW.condF rfl ?_
     refine HW.skip (thenQ_normal (?_))
     exact ⟨F_1, rfl, rfl, rfl, hK, hS, hL_t_Links, hM⟩
  ·
   rintro f_2 h_4 ⟨F_3, e1, e2, e3, hK, hS, hL_t_Links, hM⟩
   unfold ref32_Good_j1 at hM
   refine HW.fr [(1, .pointer (some ⟨b_1, 0, none⟩)), (2, .bool false), (3, .int .i64 i_1)] ⟨e1, e2, e3, trivial⟩ ?_
   refine HW.seq ?_
   refine HW.region ?_
   refine oA (.int .i64 0) rfl rfl ?_
   refine HO.nil (thenQ_normal (?_))
   refine HW.block ?_
   obtain ⟨I_2, m_2, hI_2, hR_2⟩ := hM
   refine HW.loop (S := Int) (fun k_1 f h => ∃ (F' : Fz), f 1 = .pointer (some ⟨b_1, 0, none⟩) ∧ f 2 = .bool false ∧ f 3 = .int .i64 i_1 ∧ f 4 = .int .i64 k_1 ∧ Kp F h0 F' h ∧ St F' (Ow.box b_1 24 #[.int .i64 t_Root, vt_Links] :: fr) h ∧ (SliceF F' h 2 e_api_Branch vt_Links t_Links) ∧ I_2 k_1) m_2 0 ⟨F_3, rfl, rfl, rfl, rfl, hK, hS, hL_t_Links, hI_2⟩ ?_
   rintro k_1 f_3 h_5 ⟨F_4, e1, e2, e3, e4, hK, hS, hL_t_Links, hI0⟩
   obtain ⟨K_2, hKe_2⟩ : ∃ K : Int → Prop, K = fun k_1' => I_2 k_1' ∧ m_2 k_1' < m_2 k_1 := ⟨_, rfl⟩
   have hM : ref32_Good_l2 t_Links Q i_1 K_1 K_2 k_1 := by rw [hKe_2]; exact hR_2 k_1 hI0
   unfold ref32_Good_l2 at hM
   refine HW.fr [(1, .pointer (some ⟨b_1, 0, none⟩)), (2, .bool false), (3, .int .i64 i_1), (4, .int .i64 k_1)] ⟨e1, e2, e3, e4, trivial⟩ ?_
   refine HW.seq ?_
   refine HW.seq ?_
   refine HW.region ?_
   refine oM (.int .i64 k_1) rfl rfl ?_
   refine oM (.int .i64 i_1) rfl rfl ?_
   refine oV (.bool (decide (k_1 < i_1))) (q_lss rfl rfl) rfl ?_
   refine HO.nil (thenQ_normal (?_))
   refine HW.cond (decide (k_1 < i_1)) rfl (fun c_5 => ?_) (fun c_5 => ?_)
   ·
    replace hM := hM.1 (of_decide_eq_true c_5)
    refine HW.skip (thenQ_normal (?_))
    refine HW.seq ?_
    refine HW.block ?_
    refine HW.seq ?_
    refine HW.regionA 13 mixed (fun h => (SliceIs h 2 e_api_Branch vt_Links t_Links) ∧ (Blk h b_1 (.cells #[.int .i64 t_Root, vt_Links] 24 (0, 0)))) [] (by kernel_rfl) ?_
    refine HA.val (k := 0) (v := .pointer (some ⟨b_1, 1, none⟩)) rfl rfl (by kernel_rfl) (by kernel_rfl) (want_none) rfl (fun _ ⟨hL_t_Links, c404⟩ => q_fieldAddr fa_24_1 rfl rfl) ?_
    refine HA.val (k := 1) (v := vt_Links) rfl rfl (by kernel_rfl) (by kernel_rfl) (want_none) rfl (fun _ ⟨hL_t_Links, c404⟩ => q_load to_22 rfl (Blk.cell c404 rfl)) ?_
    refine HA.val (k := 2) (v := .int .i64 k_1) rfl rfl (by kernel_rfl) (by kernel_rfl) (want_none) rfl (fun _ ⟨hL_t_Links, c404⟩ => q_move rfl) ?_
    obtain ⟨ho_4, hM⟩ := hM
    refine HA.val (k := 3) (v := elemPtr 2 vt_Links (k_1).toNat) rfl rfl (by kernel_rfl) (by kernel_rfl) (want_none) rfl (fun _ ⟨hL_t_Links, c404⟩ => q_idx ts_22 hL_t_Links rfl rfl ho_4) ?_
    refine HA.val (k := 4) (v := fieldPtr 2 vt_Links (k_1).toNat 1) rfl rfl (by kernel_rfl) (by kernel_rfl) (want_none) rfl (fun _ ⟨hL_t_Links, c404⟩ => q_fldElem fa_46_1 hL_t_Links rfl ho_4) ?_
    refine HA.val (k := 5) (v := .int .i64 ((gi t_Links k_1).2)) rfl rfl (by kernel_rfl) (by kernel_rfl) (want_none) rfl (fun _ ⟨hL_t_Links, c404⟩ => q_ldField to_3 hL_t_Links rfl ho_4 (by decide) rfl) ?_
    refine HA.val (k := 6) (v := .pointer (some ⟨b_1, 1, none⟩)) rfl rfl (by kernel_rfl) (by kernel_rfl) (want_none) rfl (fun _ ⟨hL_t_Links, c404⟩ => q_fieldAddr fa_24_1 rfl rfl) ?_
    refine HA.val (k := 7) (v := vt_Links) rfl rfl (by kernel_rfl) (by kernel_rfl) (want_none) rfl (fun _ ⟨hL_t_Links, c404⟩ => q_load to_22 rfl (Blk.cell c404 rfl)) ?_
    refine HA.val (k := 8) (v := .int .i64 i_1) rfl rfl (by kernel_rfl) (by kernel_rfl) (want_none) rfl (fun _ ⟨hL_t_Links, c404⟩ => q_move rfl) ?_
    obtain ⟨ho_5, hM⟩ := hM
    refine HA.val (k := 9) (v := elemPtr 2 vt_Links (i_1).toNat) rfl rfl (by kernel_rfl) (by kernel_rfl) (want_none) rfl (fun _ ⟨hL_t_Links, c404⟩ => q_idx ts_22 hL_t_Links rfl rfl ho_5) ?_
    refine HA.val (k := 10) (v := fieldPtr 2 vt_Links (i_1).toNat 1) rfl rfl (by kernel_rfl) (by kernel_rfl) (want_none) rfl (fun _ ⟨hL_t_Links, c404⟩ => q_fldElem fa_46_1 hL_t_Links rfl ho_5) ?_
    refine HA.val (k := 11) (v := .int .i64 ((gi t_Links i_1).2)) rfl rfl (by kernel_rfl) (by kernel_rfl) (want_none) rfl (fun _ ⟨hL_t_Links, c404⟩ => q_ldField to_3 hL_t_Links rfl ho_5 (by decide) rfl) ?_
    refine HA.val (k := 12) (v := .bool (decide (((gi t_Links k_1).2) = ((gi t_Links i_1).2)))) rfl rfl (by kernel_rfl) (by kernel_rfl) (want_none) rfl (fun _ ⟨hL_t_Links, c404⟩ => q_eql rfl rfl) ?_
    refine HA.nil ⟨⟨hL_t_Links.is, (hS.box 0 rfl)⟩, (Go.Wk.at_nil _ _)⟩ (by kernel_rfl) (thenQ_normal (?_))
    refine HW.cond (decide (((gi t_Links k_1).2) = ((gi t_Links i_1).2))) rfl (fun c_6 => ?_) (fun c_6 => ?_)
    ·
     replace hM := hM.1 (of_decide_eq_true c_6)
     refine HW.seq ?_
     refine HW.region ?_
     refine oA (.bool false) rfl rfl ?_
     refine HO.nil (thenQ_normal (?_))
     refine HW.ret (blockQ_ret (thenQ_ret (thenQ_ret (blockQ_ret (blockQ_ret (thenQ_ret (thenQ_ret (blockQ_ret (thenQ_ret (?_))))))))))
     refine ⟨.inr rfl, .bool false, res1 rfl (rt rfl), ?_⟩
     replace hS : St F_4 (fr) h_5 := hS.perm2 [] 1 rfl rfl
     exact ⟨F_4, false, rfl, hK, hS, hL_t_Links, hM⟩
    ·
     replace hM := hM.2 (of_decide_eq_false c_6)
     refine HW.skip (blockQ_normal (thenQ_normal (?_)))
     refine HW.region ?_
     refine oM (.int .i64 k_1) rfl rfl ?_
     obtain ⟨ho_6, hM⟩ := hM
     refine oV (.int .i64 (k_1 + 1)) (q_addN _ rfl rfl rfl ho_6.1 ho_6.2) rfl ?_
     refine oA (.int .i64 (k_1 + 1)) rfl rfl ?_
     refine HO.nil (thenQ_normal (?_))
     rw [hKe_2] at hM
     exact ⟨k_1 + 1, ⟨F_4, rfl, rfl, rfl, rfl, hK, hS, hL_t_Links, hM.1⟩, hM.2⟩
   ·
    replace hM := hM.2 (of_decide_eq_false c_5)
    refine HW.exit (thenQ_exit (thenQ_exit (blockQ_exit (blockQ_normal (thenQ_normal (?_))))))
    refine HW.region ?_
    refine oM (.int .i64 i_1) rfl rfl ?_
    obtain ⟨ho_7, hM⟩ := hM
    refine oV (.int .i64 (i_1 + 1)) (q_addN _ rfl rfl rfl ho_7.1 ho_7.2) rfl ?_
    refine oA (.int .i64 (i_1 + 1)) rfl rfl ?_
    refine HO.nil (thenQ_normal (?_))
    rw [hKe_1] at hM
    exact ⟨i_1 + 1, ⟨F_4, rfl, rfl, rfl, hK, hS, hL_t_Links, hM.1⟩, hM.2⟩
 ·
  replace hM := hM.2 (of_decide_eq_false c_1)
  refine HW.exit (thenQ_exit (thenQ_exit (blockQ_exit (thenQ_normal (?_)))))
  refine HW.seq ?_
  refine HW.regionA 17 mixed (fun h => (SliceIs h 2 e_api_Branch vt_Links t_Links) ∧ (Blk h b_1 (.cells #[.int .i64 t_Root, vt_Links] 24 (0, 0)))) [] (by kernel_rfl) ?_
  refine HA.val (k := 0) (v := .pointer (some ⟨b_1, 1, none⟩)) rfl rfl (by kernel_rfl) (by kernel_rfl) (want_none) rfl (fun _ ⟨hL_t_Links, c302⟩ => q_fieldAddr fa_24_1 rfl rfl) ?_
  refine HA.val (k := 1) (v := vt_Links) rfl rfl (by kernel_rfl) (by kernel_rfl) (want_none) rfl (fun _ ⟨hL_t_Links, c302⟩ => q_load to_22 rfl (Blk.cell c302 rfl)) ?_
  refine HA.val (k := 2) (v := .int .i64 (t_Links.length : Int)) rfl rfl (by kernel_rfl) (by kernel_rfl) (want_none) rfl (fun _ ⟨hL_t_Links, c302⟩ => q_len ts_22 (shp hL_t_Links) rfl rfl) ?_
  refine HA.val (k := 3) (v := .bool (decide ((t_Links.length : Int) < 256))) rfl rfl (by kernel_rfl) (by kernel_rfl) (want_none) rfl (fun _ ⟨hL_t_Links, c302⟩ => q_lss rfl rfl) ?_
  refine HA.val (k := 4) (v := .bool (decide ((t_Links.length : Int) < 256))) rfl rfl (by kernel_rfl) (by kernel_rfl) (want_none) rfl (fun _ ⟨hL_t_Links, c302⟩ => q_move rfl) ?_
  rcases Bool.eq_false_or_eq_true (decide ((t_Links.length : Int) < 256)) with c_7 | c_7
  ·
   replace hM := hM.1 (of_decide_eq_true c_7)
   refine HA.val (k := 5) (v := .agg #[.int .i64 t_Root, vt_Links]) rfl rfl (by kernel_rfl) (by kernel_rfl) (want_by rfl rfl c_7) rfl (fun _ ⟨hL_t_Links, c302⟩ => q_loadAgg (cs := [.int .i64 t_Root, vt_Links]) ta_24 rfl rfl (Blk.cells (k := 2) c302 rfl)) ?_
   refine HA.val (k := 6) (v := .pointer (some ⟨b_1, 0, none⟩)) rfl rfl (by kernel_rfl) (by kernel_rfl) (want_by rfl rfl c_7) rfl (fun _ ⟨hL_t_Links, c302⟩ => q_fieldAddr fa_24_0 rfl rfl) ?_
   refine HA.val (k := 7) (v := .int .i64 t_Root) rfl rfl (by kernel_rfl) (by kernel_rfl) (want_by rfl rfl c_7) rfl (fun _ ⟨hL_t_Links, c302⟩ => q_load to_3 rfl (Blk.cell c302 rfl)) ?_
   refine HA.val (k := 10) (v := .pointer (some ⟨b_1, 1, none⟩)) rfl rfl (by kernel_rfl) (by kernel_rfl) (want_by rfl rfl c_7) rfl (fun _ ⟨hL_t_Links, c302⟩ => q_fieldAddr fa_24_1 rfl rfl) ?_
   refine HA.val (k := 11) (v := vt_Links) rfl rfl (by kernel_rfl) (by kernel_rfl) (want_by rfl rfl c_7) rfl (fun _ ⟨hL_t_Links, c302⟩ => q_load to_22 rfl (Blk.cell c302 rfl)) ?_
   refine HA.val (k := 12) (v := .int .i64 (t_Links.length : Int)) rfl rfl (by kernel_rfl) (by kernel_rfl) (want_by rfl rfl c_7) rfl (fun _ ⟨hL_t_Links, c302⟩ => q_len ts_22 (shp hL_t_Links) rfl rfl) ?_
   obtain ⟨ho_8, hM⟩ := hM
   refine HA.val (k := 13) (v := .int .i64 ((t_Links.length : Int) + 1)) rfl rfl (by kernel_rfl) (by kernel_rfl) (want_by rfl rfl c_7) rfl (fun _ ⟨hL_t_Links, c302⟩ => q_addN _ rfl rfl rfl ho_8.1 ho_8.2) ?_
   refine HA.one (k := 8) ⟨⟨hL_t_Links.is, (hS.box 0 rfl)⟩, (Go.Wk.at_nil _ _)⟩ (by kernel_rfl) ?_
   refine HS.call rfl (want_by rfl rfl c_7) rfl (ec en_20 rfl rfl) (ref32_Below_walk (fr := (Ow.box b_1 24 #[.int .i64 t_Root, vt_Links] :: fr)) t_Root t_Links t_Root vt_Links hS hL_t_Links hM) ?_
   rintro vr_1 h_6 ⟨F_5, r_3, _, rfl, hk, hS, _, hM⟩
   replace hK := hK.trans hk
   replace hL_t_Links := hL_t_Links.kp hk
   refine Go.Wk.HA.re (fun h => (SliceIs h 2 e_api_Branch vt_Links t_Links) ∧ (OwnIs h 0 3 1 encI vr_1 r_3) ∧ (Blk h b_1 (.cells #[.int .i64 t_Root, vt_Links] 24 (0, 0)))) [] (fun L_ h_ hL_ ⟨hL_t_Links, c351, c302⟩ hs_ => ⟨⟨hL_t_Links, c302⟩, (Go.Wk.at_nil _ _)⟩) ?_
   refine HA.val (k := 9) (v := .int .i64 (r_3.length : Int)) rfl rfl (by kernel_rfl) (by kernel_rfl) (want_by rfl rfl c_7) rfl (fun _ ⟨hL_t_Links, c351, c302⟩ => q_len ts_36 (shp c351.slice) rfl rfl) ?_
   refine HA.val (k := 14) (v := .bool (decide ((r_3.length : Int) = ((t_Links.length : Int) + 1)))) rfl rfl (by kernel_rfl) (by kernel_rfl) (want_by rfl rfl c_7) rfl (fun _ ⟨hL_t_Links, c351, c302⟩ => q_eql rfl rfl) ?_
   refine HA.val (k := 15) (v := .bool (decide ((r_3.length : Int) = ((t_Links.length : Int) + 1)))) rfl rfl (by kernel_rfl) (by kernel_rfl) (want_none) rfl (fun _ ⟨hL_t_Links, c351, c302⟩ => q_pickK true rfl c_7 rfl) ?_
   refine HA.val (k := 16) (v := .bool (decide ((r_3.length : Int) = ((t_Links.length : Int) + 1)))) rfl rfl (by kernel_rfl) (by kernel_rfl) (want_none) rfl (fun _ ⟨hL_t_Links, c351, c302⟩ => q_assign rfl) ?_
   refine HA.nil ⟨⟨hL_t_Links.is, (hS.own 0 rfl), (hS.box 1 rfl)⟩, (Go.Wk.at_nil _ _)⟩ (by kernel_rfl) (thenQ_normal (?_))
   refine HW.ret (?_)
   refine ⟨.inr rfl, .bool (decide ((r_3.length : Int) = ((t_Links.length : Int) + 1))), res1 rfl (rt rfl), ?_⟩
   replace hS : St F_5 (fr) h_6 := hS.perm2 [] 2 rfl rfl
   exact ⟨F_5, decide ((r_3.length : Int) = ((t_Links.length : Int) + 1)), rfl, hK, hS, hL_t_Links, hM⟩
  ·
   replace hM := hM.2 (of_decide_eq_false c_7)
   refine HA.past (k := 5) rfl rfl (by kernel_rfl) (by kernel_rfl) (past_by rfl rfl c_7) rfl ?_
   refine HA.past (k := 6) rfl rfl (by kernel_rfl) (by kernel_rfl) (past_by rfl rfl c_7) rfl ?_
   refine HA.past (k := 7) rfl rfl (by kernel_rfl) (by kernel_rfl) (past_by rfl rfl c_7) rfl ?_
   refine HA.past (k := 10) rfl rfl (by kernel_rfl) (by kernel_rfl) (past_by rfl rfl c_7) rfl ?_
   refine HA.past (k := 11) rfl rfl (by kernel_rfl) (by kernel_rfl) (past_by rfl rfl c_7) rfl ?_
   refine HA.past (k := 12) rfl rfl (by kernel_rfl) (by kernel_rfl) (past_by rfl rfl c_7) rfl ?_
   refine HA.past (k := 13) rfl rfl (by kernel_rfl) (by kernel_rfl) (past_by rfl rfl c_7) rfl ?_
   refine HA.one (k := 8) ⟨⟨hL_t_Links.is, (hS.box 0 rfl)⟩, (Go.Wk.at_nil _ _)⟩ (by kernel_rfl) ?_
   refine HS.past rfl (past_by rfl rfl c_7) rfl ?_
   refine HA.past (k := 9) rfl rfl (by kernel_rfl) (by kernel_rfl) (past_by rfl rfl c_7) rfl ?_
   refine HA.past (k := 14) rfl rfl (by kernel_rfl) (by kernel_rfl) (past_by rfl rfl c_7) rfl ?_
   refine HA.val (k := 15) (v := .bool false) rfl rfl (by kernel_rfl) (by kernel_rfl) (want_none) rfl (fun _ ⟨hL_t_Links, c302⟩ => q_pickK false rfl c_7 rfl) ?_
   refine HA.val (k := 16) (v := .bool false) rfl rfl (by kernel_rfl) (by kernel_rfl) (want_none) rfl (fun _ ⟨hL_t_Links, c302⟩ => q_assign rfl) ?_
   refine HA.nil ⟨⟨hL_t_Links.is, (hS.box 0 rfl)⟩, (Go.Wk.at_nil _ _)⟩ (by kernel_rfl) (thenQ_normal (?_))
   refine HW.ret (?_)
   refine ⟨.inr rfl, .bool false, res1 rfl (rt rfl), ?_⟩
   replace hS : St F_1 (fr) h_2 := hS.perm2 [] 1 rfl rfl
   exact ⟨F_1, false, rfl, hK, hS, hL_t_Links, hM⟩

def law32_few_j1 (l : List T_api_Branch) (Q : (List T_api_Branch) → Prop) (out_1 : List T_api_Branch) (i_1 : Int) (K_1 : (List T_api_Branch) → Int → Prop) (b_2 : Bool) : Prop :=
 (b_2 = true → ((0 : Int) ≤ i_1 ∧ i_1 < (l.length : Int)) ∧ (((out_1.length + ([(gi l i_1)] : List T_api_Branch).length) * 16 ≤ 140737488355328) ∧ ((I64 (i_1 + 1)) ∧ (K_1 (out_1 ++ ([(gi l i_1)] : List T_api_Branch)) (i_1 + 1))))) ∧ (b_2 = false → Q out_1)
def law32_few_l1 (l : List T_api_Branch) (Q : (List T_api_Branch) → Prop) (K_1 : (List T_api_Branch) → Int → Prop) (out_1 : List T_api_Branch) (i_1 : Int) : Prop :=
 (i_1 < (l.length : Int) → law32_few_j1 l Q out_1 i_1 K_1 (decide (i_1 < 12))) ∧ (¬ (i_1 < (l.length : Int)) → law32_few_j1 l Q out_1 i_1 K_1 false)
def law32_few_W (l : List T_api_Branch) (Q : (List T_api_Branch) → Prop) : Prop :=
 loopW (fun (K_1 : (List T_api_Branch × Int) → Prop) (s : List T_api_Branch × Int) => law32_few_l1 l Q (fun out_1 i_1 => K_1 (out_1, i_1)) s.1 s.2) ([], 0)
set_option maxHeartbeats 40000000 in
set_option maxRecDepth 100000 in
theorem law32_few_walk {F : Fz} {fr : List Ow} {h0 : Heap} (l : List T_api_Branch) (vl : Value) (hS : St F (fr) h0) (hL_l : SliceF F h0 2 e_api_Branch vl l) {Q : (List T_api_Branch) → Prop} (hM : law32_few_W l Q) :
  HC Tryz.prog 39 #[vl] h0 fun u h' => ∃ (F' : Fz) (r_1 : List T_api_Branch) (vr_1 : Value), u = vr_1 ∧ Kp F h0 F' h' ∧ St F' (Ow.own 46 2 e_api_Branch vr_1 r_1 :: fr) h' ∧ (SliceF F' h' 2 e_api_Branch vl l) ∧ Q r_1 := by
 unfold law32_few_W at hM
 have hK := Kp.refl F h0
 refine HC.of_HW (n := 24) Tryz.func39 rfl rfl (Nat.le_of_ble_eq_true rfl) ?_
 refine HW.seq ?_
 refine HW.region ?_
 refine oA (.slice none 0 0) rfl rfl ?_
 refine HO.nil (thenQ_normal (?_))
 refine HW.seq ?_
 refine HW.region ?_
 refine HO.eff (want_none) rfl (st_litEmpty (α := T_api_Branch) e_api_Branch hS tl_22) ?_
 rintro _ h_1 ⟨b_1, rfl, hS, hk⟩
 replace hK := hK.trans hk
 replace hL_l := hL_l.kp hk
 refine oA (.slice (some ⟨b_1, 0, none⟩) 0 0) rfl rfl ?_
 refine HO.nil (thenQ_normal (?_))
 refine HW.seq ?_
 refine HW.seq ?_
 refine HW.region ?_
 refine oA (.int .i64 0) rfl rfl ?_
 refine HO.nil (thenQ_normal (?_))
 refine HW.block ?_
 obtain ⟨I_1, m_1, hI_1, hR_1⟩ := hM
 refine HW.loop (S := List T_api_Branch × Int) (fun s f h => match s with | (out_1, i_1) => ∃ (F' : Fz) (vout_1 : Value), f 0 = vl ∧ f 2 = .slice none 0 0 ∧ f 3 = vout_1 ∧ f 4 = .int .i64 i_1 ∧ Kp F h0 F' h ∧ St F' (Ow.own 46 2 e_api_Branch vout_1 out_1 :: fr) h ∧ (SliceF F' h 2 e_api_Branch vl l) ∧ I_1 (out_1, i_1)) m_1 ([], 0) ⟨F, .slice (some ⟨b_1, 0, none⟩) 0 0, rfl, rfl, rfl, rfl, hK, hS, hL_l, hI_1⟩ ?_
 rintro ⟨out_1, i_1⟩ f_1 h_2 ⟨F_1, vout_1, e0, e2, e3, e4, hK, hS, hL_l, hI0⟩
 obtain ⟨K_1, hKe_1⟩ : ∃ K : (List T_api_Branch) → Int → Prop, K = fun out_1' i_1' => I_1 (out_1', i_1') ∧ m_1 (out_1', i_1') < m_1 (out_1, i_1) := ⟨_, rfl⟩
 have hM : law32_few_l1 l Q K_1 out_1 i_1 := by rw [hKe_1]; exact hR_1 (out_1, i_1) hI0
 unfold law32_few_l1 at hM
 refine HW.fr [(0, vl), (2, .slice none 0 0), (3, vout_1), (4, .int .i64 i_1)] ⟨e0, e2, e3, e4, trivial⟩ ?_
 refine HW.seq ?_
 refine HW.seq_mid (fun f h => ∃ (F' : Fz) (b_2 : Bool), f 0 = vl ∧ f 2 = .slice none 0 0 ∧ f 3 = vout_1 ∧ f 4 = .int .i64 i_1 ∧ f 13 = .bool b_2 ∧ Kp F h0 F' h ∧ St F' (Ow.own 46 2 e_api_Branch vout_1 out_1 :: fr) h ∧ (SliceF F' h 2 e_api_Branch vl l) ∧ law32_few_j1 l Q out_1 i_1 K_1 b_2) ?_ ?_
 ·
  refine HW.region ?_
  refine oM (.int .i64 i_1) rfl rfl ?_
  refine oM (vl) rfl rfl ?_
  refine oV (.int .i64 (l.length : Int)) (q_len ts_22 (shp hL_l.is) rfl rfl) rfl ?_
  refine oV (.bool (decide (i_1 < (l.length : Int)))) (q_lss rfl rfl) rfl ?_
  refine oM (.bool (decide (i_1 < (l.length : Int)))) rfl rfl ?_
  rcases Bool.eq_false_or_eq_true (decide (i_1 < (l.length : Int))) with c_1 | c_1
  ·
   replace hM := hM.1 (of_decide_eq_true c_1)
   refine HO.val (v := .int .i64 i_1) (want_by rfl rfl c_1) rfl (q_move rfl) ?_
   refine HO.val (v := .bool (decide (i_1 < 12))) (want_by rfl rfl c_1) rfl (q_lss rfl rfl) ?_
   refine oV (.bool (decide (i_1 < 12))) (q_pickK true rfl c_1 rfl) rfl ?_
   refine HO.nil (thenQ_normal (?_))
   exact ⟨F_1, decide (i_1 < 12), rfl, rfl, rfl, rfl, rfl, hK, hS, hL_l, hM⟩
  ·
   replace hM := hM.2 (of_decide_eq_false c_1)
   refine HO.past (past_by rfl rfl c_1) rfl ?_
   refine HO.past (past_by rfl rfl c_1) rfl ?_
   refine oV (.bool false) (q_pickK false rfl c_1 rfl) rfl ?_
   refine HO.nil (thenQ_normal (?_))
   exact ⟨F_1, false, rfl, rfl, rfl, rfl, rfl, hK, hS, hL_l, hM⟩
 ·
  rintro f_2 h_3 ⟨F_2, b_2, e0, e2, e3, e4, e13, hK, hS, hL_l, hM⟩
  unfold law32_few_j1 at hM
  refine HW.fr [(0, vl), (2, .slice none 0 0), (3, vout_1), (4, .int .i64 i_1), (13, .bool b_2)] ⟨e0, e2, e3, e4, e13, trivial⟩ ?_
  refine HW.cond b_2 rfl (fun c_2 => ?_) (fun c_2 => ?_)
  ·
   replace hM := hM.1 c_2
   refine HW.skip (thenQ_normal (?_))
   refine HW.seq ?_
   refine HW.block ?_
   refine HW.region ?_
   refine oM (vout_1) rfl rfl ?_
   refine oM (vl) rfl rfl ?_
   refine oM (.int .i64 i_1) rfl rfl ?_
   obtain ⟨ho_1, hM⟩ := hM
   refine oV (elemPtr 2 vl (i_1).toNat) (q_idx ts_22 hL_l.is rfl rfl ho_1) rfl ?_
   refine oV (.agg #[.int .i64 ((gi l i_1).1), .int .i64 ((gi l i_1).2)]) (q_ldElemAgg (cs := [.int .i64 ((gi l i_1).1), .int .i64 ((gi l i_1).2)]) ta_46 hL_l.is rfl ho_1 rfl) rfl ?_
   refine HO.eff (want_none) rfl (st_lit (enc := e_api_Branch) (cells := #[.int .i64 ((gi l i_1).1), .int .i64 ((gi l i_1).2)]) #[.int .i64 0, .int .i64 0] ([(gi l i_1)] : List T_api_Branch) hS tl_22 (by decide) (by decide) (by kernel_rfl) (by kernel_rfl) rfl (by intro x hx; rfl) rfl) ?_
   rintro _ h_4 ⟨b_3, rfl, hS, hk⟩
   replace hK := hK.trans hk
   replace hL_l := hL_l.kp hk
   obtain ⟨ho_2, hM⟩ := hM
   refine HO.eff (want_none) rfl (st_append te_22 hS (i := 1) rfl (hS.own 0 rfl).slice rfl rfl rfl (by intro a _ u hu; simp [e_api_Branch, encI, encN, encB, encT] at hu; rcases hu with rfl | rfl <;> rfl) ho_2 (by omega)) ?_
   rintro v_1 h_5 ⟨hS, hk⟩
   replace hS : St F_2 (Ow.own 46 2 e_api_Branch (.slice (some ⟨b_3, 0, none⟩) 1 1) ([(gi l i_1)] : List T_api_Branch) :: Ow.own 46 2 e_api_Branch v_1 (out_1 ++ ([(gi l i_1)] : List T_api_Branch)) :: fr) h_5 := hS
   replace hK := hK.trans hk
   replace hL_l := hL_l.kp hk
   refine oA (v_1) rfl rfl ?_
   refine HO.nil (blockQ_normal (thenQ_normal (?_)))
   refine HW.region ?_
   refine oM (.int .i64 i_1) rfl rfl ?_
   obtain ⟨ho_3, hM⟩ := hM
   refine oV (.int .i64 (i_1 + 1)) (q_addN _ rfl rfl rfl ho_3.1 ho_3.2) rfl ?_
   refine oA (.int .i64 (i_1 + 1)) rfl rfl ?_
   refine HO.nil (thenQ_normal (?_))
   replace hS : St F_2 (Ow.own 46 2 e_api_Branch v_1 (out_1 ++ ([(gi l i_1)] : List T_api_Branch)) :: fr) h_5 := hS.perm2 [1] 2 rfl rfl
   rw [hKe_1] at hM
   exact ⟨(out_1 ++ ([(gi l i_1)] : List T_api_Branch), i_1 + 1), ⟨F_2, v_1, rfl, rfl, rfl, rfl, hK, hS, hL_l, hM.1⟩, hM.2⟩
  ·
   replace hM := hM.2 c_2
   refine HW.exit (thenQ_exit (thenQ_exit (blockQ_exit (thenQ_normal (?_)))))
   refine HW.seq ?_
   refine HW.region ?_
   refine oM (vout_1) rfl rfl ?_
   refine oA (vout_1) rfl rfl ?_
   refine HO.nil (thenQ_normal (?_))
   refine HW.ret (?_)
   refine ⟨.inr rfl, vout_1, res1 rfl (rt rfl), ?_⟩
   exact ⟨F_2, out_1, vout_1, rfl, hK, hS, hL_l, hM⟩

def law32_Few_W (t_Root : Int) (t_Links : List T_api_Branch) (Q : Int → (List T_api_Branch) → Prop) : Prop :=
 law32_few_W t_Links (fun r_1 => Q t_Root r_1)
set_option maxHeartbeats 40000000 in
set_option maxRecDepth 100000 in
theorem law32_Few_walk {F : Fz} {fr : List Ow} {h0 : Heap} (t_Root : Int) (t_Links : List T_api_Branch) (vt_Links : Value) (hS : St F (fr) h0) (hL_t_Links : SliceF F h0 2 e_api_Branch vt_Links t_Links) {Q : Int → (List T_api_Branch) → Prop} (hM : law32_Few_W t_Root t_Links Q) :
  HC Tryz.prog 8 #[.agg #[.int .i64 t_Root, vt_Links]] h0 fun u h' => ∃ (F' : Fz) (r_0_1 : Int) (r_1_1 : List T_api_Branch) (vr_1_1 : Value), u = .agg #[.int .i64 r_0_1, vr_1_1] ∧ Kp F h0 F' h' ∧ St F' (Ow.own 46 2 e_api_Branch vr_1_1 r_1_1 :: fr) h' ∧ (SliceF F' h' 2 e_api_Branch vt_Links t_Links) ∧ Q r_0_1 r_1_1 := by
 unfold law32_Few_W at hM
 have hK := Kp.refl F h0
 refine HC.of_HW (n := 9) Tryz.func8 rfl rfl (Nat.le_of_ble_eq_true rfl) ?_
 refine HW.seq ?_
 refine HW.region ?_
 refine HO.eff (want_none) rfl (st_box (c := #[.int .i64 t_Root, vt_Links]) (k' := 2) hS rfl rfl) ?_
 rintro _ h_1 ⟨b_1, rfl, hS, hk⟩
 replace hK := hK.trans hk
 replace hL_t_Links := hL_t_Links.kp hk
 refine HO.eff (want_none) rfl (st_alloc (c := #[.int .i64 0, .slice none 0 0]) hS tz_24 rfl) ?_
 rintro _ h_2 ⟨b_2, rfl, hS, hk⟩
 replace hK := hK.trans hk
 replace hL_t_Links := hL_t_Links.kp hk
 refine HO.nil (thenQ_normal (?_))
 refine HW.seq ?_
 refine HW.regionA 7 mixed (fun h => (Blk h b_1 (.cells #[.int .i64 t_Root, vt_Links] 24 (0, 0)))) [] (by kernel_rfl) ?_
 refine HA.val (k := 0) (v := .pointer (some ⟨b_1, 0, none⟩)) rfl rfl (by kernel_rfl) (by kernel_rfl) (want_none) rfl (fun _ c202 => q_fieldAddr fa_24_0 rfl rfl) ?_
 refine HA.val (k := 1) (v := .int .i64 t_Root) rfl rfl (by kernel_rfl) (by kernel_rfl) (want_none) rfl (fun _ c202 => q_load to_3 rfl (Blk.cell c202 rfl)) ?_
 refine HA.val (k := 2) (v := .pointer (some ⟨b_1, 1, none⟩)) rfl rfl (by kernel_rfl) (by kernel_rfl) (want_none) rfl (fun _ c202 => q_fieldAddr fa_24_1 rfl rfl) ?_
 refine HA.val (k := 3) (v := vt_Links) rfl rfl (by kernel_rfl) (by kernel_rfl) (want_none) rfl (fun _ c202 => q_load to_22 rfl (Blk.cell c202 rfl)) ?_
 refine HA.one (k := 4) ⟨(hS.box 1 rfl), (Go.Wk.at_nil _ _)⟩ (by kernel_rfl) ?_
 refine HS.call rfl (want_none) rfl (ec en_39 rfl rfl) (law32_few_walk (fr := (Ow.box b_2 24 #[.int .i64 0, .slice none 0 0] :: Ow.box b_1 24 #[.int .i64 t_Root, vt_Links] :: fr)) t_Links vt_Links hS hL_t_Links hM) ?_
 rintro vr_1 h_3 ⟨F_1, r_1, _, rfl, hk, hS, _, hM⟩
 replace hK := hK.trans hk
 replace hL_t_Links := hL_t_Links.kp hk
 refine Go.Wk.HA.re (fun h => (OwnIs h 0 46 2 e_api_Branch vr_1 r_1) ∧ (Blk h b_1 (.cells #[.int .i64 t_Root, vt_Links] 24 (0, 0)))) [] (fun L_ h_ hL_ ⟨c228, c202⟩ hs_ => ⟨c202, (Go.Wk.at_nil _ _)⟩) ?_
 refine HA.val (k := 5) (v := .agg #[.int .i64 t_Root, vr_1]) rfl rfl (by kernel_rfl) (by kernel_rfl) (want_none) rfl (fun _ ⟨c228, c202⟩ => q_build tp_24 (fill_cons (cs' := #[.int .i64 t_Root, .slice none 0 0]) (vc := #[.int .i64 t_Root]) rfl rfl rfl (Nat.le_of_ble_eq_true rfl) rfl (fill_cons (cs' := #[.int .i64 t_Root, vr_1]) (vc := #[vr_1]) rfl (shp c228.slice).cells rfl (Nat.le_of_ble_eq_true rfl) rfl rfl))) ?_
 refine HA.one (k := 6) ⟨⟨(hS.own 0 rfl), (hS.box 2 rfl)⟩, (Go.Wk.at_nil _ _)⟩ (by kernel_rfl) ?_
 refine HS.sto rfl (want_none) rfl (st_storeAgg (c' := #[.int .i64 t_Root, vr_1]) hS (i := 1) rfl ta_24 rfl rfl rfl (List.forall_mem_cons.2 ⟨rfl, (List.forall_mem_cons.2 ⟨(shp (hS.own 0 rfl).slice).one, (fun _ h => by cases h)⟩)⟩) (Nat.le_of_ble_eq_true rfl) rfl) ?_
 rintro h_4 ⟨hS, hk⟩
 replace hS : St F_1 (Ow.own 46 2 e_api_Branch vr_1 r_1 :: Ow.box b_2 24 #[.int .i64 t_Root, vr_1] :: Ow.box b_1 24 #[.int .i64 t_Root, vt_Links] :: fr) h_4 := hS
 replace hK := hK.trans hk
 replace hL_t_Links := hL_t_Links.kp hk
 refine HA.nil ⟨⟨(hS.own 0 rfl), (hS.box 2 rfl)⟩, (Go.Wk.at_nil _ _)⟩ (by kernel_rfl) (thenQ_normal (?_))
 refine HW.ret (?_)
 refine ⟨.inr rfl, .agg #[.int .i64 t_Root, vr_1], res1 rfl (rca (cs := [.int .i64 t_Root, vr_1]) ta_24 rfl rfl (Blk.cells (k := 2) (hS.box 1 rfl) rfl)), ?_⟩
 replace hS : St F_1 (Ow.own 46 2 e_api_Branch vr_1 r_1 :: fr) h_4 := hS.perm2 [0] 3 rfl rfl
 exact ⟨F_1, t_Root, r_1, vr_1, rfl, hK, hS, hL_t_Links, hM⟩
end Go.Wk
