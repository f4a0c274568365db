/- Walks of Addr laws. -/
import Derived.Test.YtamiodnbinhmhaaDoorAdrW2
set_option linter.unusedSimpArgs false
set_option linter.unusedVariables false
set_option linter.unusedSectionVars false
namespace Go.Wk
open Go.HL
open Go.Proofs hiding encI
variable [DM]

def law03_AddrPrints_W (a : T_api_Addr) (m1 : Ba 6) (Q : Bool → Prop) : Prop :=
  ref03_Own_W a (fun r_2 => ref03_Print_W r_2 (fun r_3 => addr_Parse_W r_3 (fun r0_1 r1_1 => ref03_PrintMac_W m1 (fun r_4 => addr_ParseMac_W r_4 (fun r0_2 r1_2 => addr_Print_W r_2 (fun r_5 => ref03_Print_W r_2 (fun r_6 => ((r_5 : Str) = r_6 → ((r0_1 : T_api_Addr) = r_2 → (r1_1 = 0 → addr_PrintMac_W m1 (fun r_7 => ref03_PrintMac_W m1 (fun r_8 => ((r_7 : Str) = r_8 → ((r0_2 : Ba 6) = m1 → (r1_2 = 0 → law03_lives_W  (fun r_9 => Q r_9)) ∧ (¬ (r1_2 = 0) → Q false)) ∧ (¬ ((r0_2 : Ba 6) = m1) → Q false)) ∧ (¬ ((r_7 : Str) = r_8) → Q false)))) ∧ (¬ (r1_1 = 0) → Q false)) ∧ (¬ ((r0_1 : T_api_Addr) = r_2) → Q false)) ∧ (¬ ((r_5 : Str) = r_6) → Q false))))))))
set_option maxHeartbeats 40000000 in
set_option maxRecDepth 100000 in
theorem law03_AddrPrints_walk {F : Fz} {fr : List Ow} {h0 : Heap} (a : T_api_Addr) (m1 : Ba 6) (gm : Int) (gvS : Value) (gbS : Bool) (gvR : Value) (gbR : Bool) (hS : St F (fr) h0) (hG_0 : RoF (Ow.box 0 3 #[.int .i64 gm]) F h0) (hG_1 : RoF (Ow.box 1 64 #[gvS]) F h0) (hE_gvS : ErrF gbS gvS F h0) (hG_2 : RoF (Ow.box 2 64 #[gvR]) F h0) (hE_gvR : ErrF gbR gvR F h0) (hG_5 : RoF (Ow.box 5 130 (tab10 ()).toArray) F h0) (hG_7 : RoF (Ow.box 7 136 (arrCells tab64).toArray) F h0) (hD : DM.on = false) {Q : Bool → Prop} (hM : law03_AddrPrints_W a m1 Q) :
    HC Tryd.prog 5 #[.agg (e_api_Addr a).toArray, .agg (arrCells m1).toArray] h0 fun u h' => ∃ (F' : Fz) (r_1 : Bool), u = .bool r_1 ∧ Kp F h0 F' h' ∧ St F' (fr) h' ∧ (RoF (Ow.box 0 3 #[.int .i64 gm]) F' h') ∧ (RoF (Ow.box 1 64 #[gvS]) F' h') ∧ (ErrF gbS gvS F' h') ∧ (RoF (Ow.box 2 64 #[gvR]) F' h') ∧ (ErrF gbR gvR F' h') ∧ (RoF (Ow.box 5 130 (tab10 ()).toArray) F' h') ∧ (RoF (Ow.box 7 136 (arrCells tab64).toArray) F' h') ∧ Q r_1 := by
  unfold law03_AddrPrints_W at hM
  have hK := Kp.refl F h0
  refine HC.of_HW (n := 56) Tryd.func5 rfl rfl (Nat.le_of_ble_eq_true rfl) ?_
  refine HW.seq ?_
  refine HW.region ?_
  refine HO.eff (want_none) rfl (st_box (c := (e_api_Addr a).toArray) (k' := 17) hS rfl rfl) ?_
  rintro _ h_1 ⟨b_1, rfl, hS, hk⟩
  replace hK := hK.trans hk
  replace hG_0 := hG_0.kp hk
  replace hG_1 := hG_1.kp hk
  replace hE_gvS := hE_gvS.kp hk
  replace hG_2 := hG_2.kp hk
  replace hE_gvR := hE_gvR.kp hk
  replace hG_5 := hG_5.kp hk
  replace hG_7 := hG_7.kp hk
  refine HO.eff (want_none) rfl (st_box (c := (arrCells m1).toArray) (k' := 6) hS rfl rfl) ?_
  rintro _ h_2 ⟨b_2, rfl, hS, hk⟩
  replace hK := hK.trans hk
  replace hG_0 := hG_0.kp hk
  replace hG_1 := hG_1.kp hk
  replace hE_gvS := hE_gvS.kp hk
  replace hG_2 := hG_2.kp hk
  replace hE_gvR := hE_gvR.kp hk
  replace hG_5 := hG_5.kp hk
  replace hG_7 := hG_7.kp hk
  refine HO.val (v := .bool false) (want_none) rfl (q_assign rfl) ?_
  refine HO.nil (thenQ_normal (?_))
  refine HW.seq ?_
  refine HW.region ?_
  refine HO.val (v := .agg (e_api_Addr a).toArray) (want_none) rfl (q_loadAgg (cs := (e_api_Addr a)) ta_25 rfl rfl (Blk.cells (k := 17) (hS.box 1 rfl) rfl)) ?_
  refine HO.call (want_none) rfl (ec en_12 rfl rfl) (ref03_Own_walk (fr := (Ow.box b_2 38 (arrCells m1).toArray :: Ow.box b_1 25 (e_api_Addr a).toArray :: fr)) a hS hM) ?_
  rintro _ h_3 ⟨F_1, r_2, rfl, hk, hS, hM⟩
  replace hK := hK.trans hk
  replace hG_0 := hG_0.kp hk
  replace hG_1 := hG_1.kp hk
  replace hE_gvS := hE_gvS.kp hk
  replace hG_2 := hG_2.kp hk
  replace hE_gvR := hE_gvR.kp hk
  replace hG_5 := hG_5.kp hk
  replace hG_7 := hG_7.kp hk
  refine HO.sto (want_none) rfl (st_storeAgg (c' := (e_api_Addr r_2).toArray) hS (i := 1) rfl ta_25 rfl rfl rfl (one_e_api_Addr _) (Nat.le_of_ble_eq_true rfl) rfl) ?_
  rintro h_4 ⟨hS, hk⟩
  replace hS : St F_1 (Ow.box b_2 38 (arrCells m1).toArray :: Ow.box b_1 25 (e_api_Addr r_2).toArray :: fr) h_4 := hS
  replace hK := hK.trans hk
  replace hG_0 := hG_0.kp hk
  replace hG_1 := hG_1.kp hk
  replace hE_gvS := hE_gvS.kp hk
  replace hG_2 := hG_2.kp hk
  replace hE_gvR := hE_gvR.kp hk
  replace hG_5 := hG_5.kp hk
  replace hG_7 := hG_7.kp hk
  refine HO.nil (thenQ_normal (?_))
  refine HW.seq ?_
  refine HW.region ?_
  refine HO.val (v := .agg (e_api_Addr r_2).toArray) (want_none) rfl (q_loadAgg (cs := (e_api_Addr r_2)) ta_25 rfl rfl (Blk.cells (k := 17) (hS.box 1 rfl) rfl)) ?_
  refine HO.call (want_none) rfl (ec en_16 rfl rfl) (ref03_Print_walk (fr := (Ow.box b_2 38 (arrCells m1).toArray :: Ow.box b_1 25 (e_api_Addr r_2).toArray :: fr)) r_2 hS hM) ?_
  rintro _ h_5 ⟨F_2, r_3, rfl, hk, hS, hM⟩
  replace hK := hK.trans hk
  replace hG_0 := hG_0.kp hk
  replace hG_1 := hG_1.kp hk
  replace hE_gvS := hE_gvS.kp hk
  replace hG_2 := hG_2.kp hk
  replace hE_gvR := hE_gvR.kp hk
  replace hG_5 := hG_5.kp hk
  replace hG_7 := hG_7.kp hk
  refine HO.call (want_none) rfl (ec en_15 rfl rfl) (addr_Parse_walk (fr := (Ow.box b_2 38 (arrCells m1).toArray :: Ow.box b_1 25 (e_api_Addr r_2).toArray :: fr)) r_3 gm gvS gbS gvR gbR hS hG_0 hG_1 hE_gvS hG_2 hE_gvR hG_5 hG_7 hD hM) ?_
  rintro _ h_6 ⟨F_3, r0_1, r1_1, rfl, hk, hS, _, _, _, _, _, _, _, hM⟩
  replace hK := hK.trans hk
  replace hG_0 := hG_0.kp hk
  replace hG_1 := hG_1.kp hk
  replace hE_gvS := hE_gvS.kp hk
  replace hG_2 := hG_2.kp hk
  replace hE_gvR := hE_gvR.kp hk
  replace hG_5 := hG_5.kp hk
  replace hG_7 := hG_7.kp hk
  refine HO.val (v := .tuple #[.agg (e_api_Addr r0_1).toArray, .int .i64 r1_1]) (want_none) rfl (q_move rfl) ?_
  refine HO.val (v := .agg (e_api_Addr r0_1).toArray) (want_none) rfl (q_extract rfl rfl) ?_
  refine HO.val (v := .int .i64 r1_1) (want_none) rfl (q_extract rfl rfl) ?_
  refine HO.eff (want_none) rfl (st_alloc (c := (e_api_Addr (false, (default : Ba 16))).toArray) hS tz_25 rfl) ?_
  rintro _ h_7 ⟨b_3, rfl, hS, hk⟩
  replace hK := hK.trans hk
  replace hG_0 := hG_0.kp hk
  replace hG_1 := hG_1.kp hk
  replace hE_gvS := hE_gvS.kp hk
  replace hG_2 := hG_2.kp hk
  replace hE_gvR := hE_gvR.kp hk
  replace hG_5 := hG_5.kp hk
  replace hG_7 := hG_7.kp hk
  refine HO.sto (want_none) rfl (st_storeAgg (c' := (e_api_Addr r0_1).toArray) hS (i := 0) rfl ta_25 rfl rfl rfl (one_e_api_Addr _) (Nat.le_of_ble_eq_true rfl) rfl) ?_
  rintro h_8 ⟨hS, hk⟩
  replace hS : St F_3 (Ow.box b_3 25 (e_api_Addr r0_1).toArray :: Ow.box b_2 38 (arrCells m1).toArray :: Ow.box b_1 25 (e_api_Addr r_2).toArray :: fr) h_8 := hS
  replace hK := hK.trans hk
  replace hG_0 := hG_0.kp hk
  replace hG_1 := hG_1.kp hk
  replace hE_gvS := hE_gvS.kp hk
  replace hG_2 := hG_2.kp hk
  replace hE_gvR := hE_gvR.kp hk
  replace hG_5 := hG_5.kp hk
  replace hG_7 := hG_7.kp hk
  refine HO.val (v := .int .i64 r1_1) (want_none) rfl (q_assign rfl) ?_
  refine HO.nil (thenQ_normal (?_))
  refine HW.seq ?_
  refine HW.region ?_
  refine HO.val (v := .agg (arrCells m1).toArray) (want_none) rfl (q_loadAgg (cs := (arrCells m1)) ta_38 rfl rfl (Blk.cells (k := 6) (hS.box 1 rfl) rfl)) ?_
  refine HO.call (want_none) rfl (ec en_18 rfl rfl) (ref03_PrintMac_walk (fr := (Ow.box b_3 25 (e_api_Addr r0_1).toArray :: Ow.box b_2 38 (arrCells m1).toArray :: Ow.box b_1 25 (e_api_Addr r_2).toArray :: fr)) m1 hS hM) ?_
  rintro _ h_9 ⟨F_4, r_4, rfl, hk, hS, hM⟩
  replace hK := hK.trans hk
  replace hG_0 := hG_0.kp hk
  replace hG_1 := hG_1.kp hk
  replace hE_gvS := hE_gvS.kp hk
  replace hG_2 := hG_2.kp hk
  replace hE_gvR := hE_gvR.kp hk
  replace hG_5 := hG_5.kp hk
  replace hG_7 := hG_7.kp hk
  refine HO.call (want_none) rfl (ec en_17 rfl rfl) (addr_ParseMac_walk (fr := (Ow.box b_3 25 (e_api_Addr r0_1).toArray :: Ow.box b_2 38 (arrCells m1).toArray :: Ow.box b_1 25 (e_api_Addr r_2).toArray :: fr)) r_4 gm hS hG_0 hD hM) ?_
  rintro _ h_10 ⟨F_5, r0_2, r1_2, rfl, hk, hS, _, hM⟩
  replace hK := hK.trans hk
  replace hG_0 := hG_0.kp hk
  replace hG_1 := hG_1.kp hk
  replace hE_gvS := hE_gvS.kp hk
  replace hG_2 := hG_2.kp hk
  replace hE_gvR := hE_gvR.kp hk
  replace hG_5 := hG_5.kp hk
  replace hG_7 := hG_7.kp hk
  refine HO.val (v := .tuple #[.agg (arrCells r0_2).toArray, .int .i64 r1_2]) (want_none) rfl (q_move rfl) ?_
  refine HO.val (v := .agg (arrCells r0_2).toArray) (want_none) rfl (q_extract rfl rfl) ?_
  refine HO.val (v := .int .i64 r1_2) (want_none) rfl (q_extract rfl rfl) ?_
  refine HO.eff (want_none) rfl (st_alloc (c := (arrCells (default : Ba 6)).toArray) hS tz_38 rfl) ?_
  rintro _ h_11 ⟨b_4, rfl, hS, hk⟩
  replace hK := hK.trans hk
  replace hG_0 := hG_0.kp hk
  replace hG_1 := hG_1.kp hk
  replace hE_gvS := hE_gvS.kp hk
  replace hG_2 := hG_2.kp hk
  replace hE_gvR := hE_gvR.kp hk
  replace hG_5 := hG_5.kp hk
  replace hG_7 := hG_7.kp hk
  refine HO.sto (want_none) rfl (st_storeAgg (c' := (arrCells r0_2).toArray) hS (i := 0) rfl ta_38 rfl rfl rfl (one_arr _) (Nat.le_of_ble_eq_true rfl) rfl) ?_
  rintro h_12 ⟨hS, hk⟩
  replace hS : St F_5 (Ow.box b_4 38 (arrCells r0_2).toArray :: Ow.box b_3 25 (e_api_Addr r0_1).toArray :: Ow.box b_2 38 (arrCells m1).toArray :: Ow.box b_1 25 (e_api_Addr r_2).toArray :: fr) h_12 := hS
  replace hK := hK.trans hk
  replace hG_0 := hG_0.kp hk
  replace hG_1 := hG_1.kp hk
  replace hE_gvS := hE_gvS.kp hk
  replace hG_2 := hG_2.kp hk
  replace hE_gvR := hE_gvR.kp hk
  replace hG_5 := hG_5.kp hk
  replace hG_7 := hG_7.kp hk
  refine HO.val (v := .int .i64 r1_2) (want_none) rfl (q_assign rfl) ?_
  refine HO.nil (thenQ_normal (?_))
  refine HW.seq ?_
  refine HW.regionA 34 mixed (fun h => (Blk h b_4 (.cells (arrCells r0_2).toArray 38 (0, 0))) ∧ (Blk h b_3 (.cells (e_api_Addr r0_1).toArray 25 (0, 0))) ∧ (Blk h b_2 (.cells (arrCells m1).toArray 38 (0, 0))) ∧ (Blk h b_1 (.cells (e_api_Addr r_2).toArray 25 (0, 0)))) [] (by kernel_rfl) ?_
  refine HA.val (k := 0) (v := .agg (e_api_Addr r_2).toArray) rfl rfl (by kernel_rfl) (by kernel_rfl) (want_none) rfl (fun _ ⟨c204, c203, c202, c201⟩ => q_loadAgg (cs := (e_api_Addr r_2)) ta_25 rfl rfl (Blk.cells (k := 17) c201 rfl)) ?_
  refine HA.val (k := 2) (v := .agg (e_api_Addr r_2).toArray) rfl rfl (by kernel_rfl) (by kernel_rfl) (want_none) rfl (fun _ ⟨c204, c203, c202, c201⟩ => q_loadAgg (cs := (e_api_Addr r_2)) ta_25 rfl rfl (Blk.cells (k := 17) c201 rfl)) ?_
  refine HA.one (k := 1) ⟨⟨(hS.box 0 rfl), (hS.box 1 rfl), (hS.box 2 rfl), (hS.box 3 rfl)⟩, (Go.Wk.at_nil _ _)⟩ (by kernel_rfl) ?_
  refine HS.call rfl (want_none) rfl (ec en_19 rfl rfl) (addr_Print_walk (fr := (Ow.box b_4 38 (arrCells r0_2).toArray :: Ow.box b_3 25 (e_api_Addr r0_1).toArray :: Ow.box b_2 38 (arrCells m1).toArray :: Ow.box b_1 25 (e_api_Addr r_2).toArray :: fr)) r_2 hS hG_5 hG_7 hD hM) ?_
  rintro _ h_13 ⟨F_6, r_5, rfl, hk, hS, _, _, hM⟩
  replace hK := hK.trans hk
  replace hG_0 := hG_0.kp hk
  replace hG_1 := hG_1.kp hk
  replace hE_gvS := hE_gvS.kp hk
  replace hG_2 := hG_2.kp hk
  replace hE_gvR := hE_gvR.kp hk
  replace hG_5 := hG_5.kp hk
  replace hG_7 := hG_7.kp hk
  refine HA.one (k := 3) ⟨⟨(hS.box 0 rfl), (hS.box 1 rfl), (hS.box 2 rfl), (hS.box 3 rfl)⟩, (Go.Wk.at_nil _ _)⟩ (by kernel_rfl) ?_
  refine HS.call rfl (want_none) rfl (ec en_16 rfl rfl) (ref03_Print_walk (fr := (Ow.box b_4 38 (arrCells r0_2).toArray :: Ow.box b_3 25 (e_api_Addr r0_1).toArray :: Ow.box b_2 38 (arrCells m1).toArray :: Ow.box b_1 25 (e_api_Addr r_2).toArray :: fr)) r_2 hS hM) ?_
  rintro _ h_14 ⟨F_7, r_6, rfl, hk, hS, hM⟩
  replace hK := hK.trans hk
  replace hG_0 := hG_0.kp hk
  replace hG_1 := hG_1.kp hk
  replace hE_gvS := hE_gvS.kp hk
  replace hG_2 := hG_2.kp hk
  replace hE_gvR := hE_gvR.kp hk
  replace hG_5 := hG_5.kp hk
  replace hG_7 := hG_7.kp hk
  refine HA.val (k := 4) (v := .bool (decide ((r_5 : Str) = r_6))) rfl rfl (by kernel_rfl) (by kernel_rfl) (want_none) rfl (fun _ ⟨c204, c203, c202, c201⟩ => q_eqlT rfl rfl) ?_
  refine HA.val (k := 5) (v := .bool (decide ((r_5 : Str) = r_6))) rfl rfl (by kernel_rfl) (by kernel_rfl) (want_none) rfl (fun _ ⟨c204, c203, c202, c201⟩ => q_move rfl) ?_
  rcases Bool.eq_false_or_eq_true (decide ((r_5 : Str) = r_6)) with c_1 | c_1
  · replace hM := hM.1 (of_decide_eq_true c_1)
    refine HA.val (k := 6) (v := .agg (e_api_Addr r0_1).toArray) rfl rfl (by kernel_rfl) (by kernel_rfl) (want_by rfl rfl c_1) rfl (fun _ ⟨c204, c203, c202, c201⟩ => q_loadAgg (cs := (e_api_Addr r0_1)) ta_25 rfl rfl (Blk.cells (k := 17) c203 rfl)) ?_
    refine HA.val (k := 7) (v := .agg (e_api_Addr r_2).toArray) rfl rfl (by kernel_rfl) (by kernel_rfl) (want_by rfl rfl c_1) rfl (fun _ ⟨c204, c203, c202, c201⟩ => q_loadAgg (cs := (e_api_Addr r_2)) ta_25 rfl rfl (Blk.cells (k := 17) c201 rfl)) ?_
    refine HA.val (k := 8) (v := .bool (decide ((r0_1 : T_api_Addr) = r_2))) rfl rfl (by kernel_rfl) (by kernel_rfl) (want_by rfl rfl c_1) rfl (fun _ ⟨c204, c203, c202, c201⟩ => q_eqlAgg (a := r0_1) (b := r_2) (fun a b w => teq_25 9997 a b w) (by kernel_rfl) rfl rfl rfl rfl) ?_
    refine HA.val (k := 9) (v := .bool (decide ((r0_1 : T_api_Addr) = r_2))) rfl rfl (by kernel_rfl) (by kernel_rfl) (want_none) rfl (fun _ ⟨c204, c203, c202, c201⟩ => q_pickK true rfl c_1 rfl) ?_
    refine HA.val (k := 10) (v := .bool (decide ((r0_1 : T_api_Addr) = r_2))) rfl rfl (by kernel_rfl) (by kernel_rfl) (want_none) rfl (fun _ ⟨c204, c203, c202, c201⟩ => q_move rfl) ?_
    rcases Bool.eq_false_or_eq_true (decide ((r0_1 : T_api_Addr) = r_2)) with c_2 | c_2
    · replace hM := hM.1 (of_decide_eq_true c_2)
      refine HA.val (k := 11) (v := .int .i64 r1_1) rfl rfl (by kernel_rfl) (by kernel_rfl) (want_by rfl rfl c_2) rfl (fun _ ⟨c204, c203, c202, c201⟩ => q_move rfl) ?_
      refine HA.val (k := 12) (v := .bool (decide (r1_1 = 0))) rfl rfl (by kernel_rfl) (by kernel_rfl) (want_by rfl rfl c_2) rfl (fun _ ⟨c204, c203, c202, c201⟩ => q_eql rfl rfl) ?_
      refine HA.val (k := 13) (v := .bool (decide (r1_1 = 0))) rfl rfl (by kernel_rfl) (by kernel_rfl) (want_none) rfl (fun _ ⟨c204, c203, c202, c201⟩ => q_pickK true rfl c_2 rfl) ?_
      refine HA.val (k := 14) (v := .bool (decide (r1_1 = 0))) rfl rfl (by kernel_rfl) (by kernel_rfl) (want_none) rfl (fun _ ⟨c204, c203, c202, c201⟩ => q_move rfl) ?_
      rcases Bool.eq_false_or_eq_true (decide (r1_1 = 0)) with c_3 | c_3
      · replace hM := hM.1 (of_decide_eq_true c_3)
        refine HA.val (k := 15) (v := .agg (arrCells m1).toArray) rfl rfl (by kernel_rfl) (by kernel_rfl) (want_by rfl rfl c_3) rfl (fun _ ⟨c204, c203, c202, c201⟩ => q_loadAgg (cs := (arrCells m1)) ta_38 rfl rfl (Blk.cells (k := 6) c202 rfl)) ?_
        refine HA.val (k := 17) (v := .agg (arrCells m1).toArray) rfl rfl (by kernel_rfl) (by kernel_rfl) (want_by rfl rfl c_3) rfl (fun _ ⟨c204, c203, c202, c201⟩ => q_loadAgg (cs := (arrCells m1)) ta_38 rfl rfl (Blk.cells (k := 6) c202 rfl)) ?_
        refine HA.one (k := 16) ⟨⟨(hS.box 0 rfl), (hS.box 1 rfl), (hS.box 2 rfl), (hS.box 3 rfl)⟩, (Go.Wk.at_nil _ _)⟩ (by kernel_rfl) ?_
        refine HS.call rfl (want_by rfl rfl c_3) rfl (ec en_20 rfl rfl) (addr_PrintMac_walk (fr := (Ow.box b_4 38 (arrCells r0_2).toArray :: Ow.box b_3 25 (e_api_Addr r0_1).toArray :: Ow.box b_2 38 (arrCells m1).toArray :: Ow.box b_1 25 (e_api_Addr r_2).toArray :: fr)) m1 hS hD hM) ?_
        rintro _ h_15 ⟨F_8, r_7, rfl, hk, hS, hM⟩
        replace hK := hK.trans hk
        replace hG_0 := hG_0.kp hk
        replace hG_1 := hG_1.kp hk
        replace hE_gvS := hE_gvS.kp hk
        replace hG_2 := hG_2.kp hk
        replace hE_gvR := hE_gvR.kp hk
        replace hG_5 := hG_5.kp hk
        replace hG_7 := hG_7.kp hk
        refine HA.one (k := 18) ⟨⟨(hS.box 0 rfl), (hS.box 1 rfl), (hS.box 2 rfl), (hS.box 3 rfl)⟩, (Go.Wk.at_nil _ _)⟩ (by kernel_rfl) ?_
        refine HS.call rfl (want_by rfl rfl c_3) rfl (ec en_18 rfl rfl) (ref03_PrintMac_walk (fr := (Ow.box b_4 38 (arrCells r0_2).toArray :: Ow.box b_3 25 (e_api_Addr r0_1).toArray :: Ow.box b_2 38 (arrCells m1).toArray :: Ow.box b_1 25 (e_api_Addr r_2).toArray :: fr)) m1 hS hM) ?_
        rintro _ h_16 ⟨F_9, r_8, rfl, hk, hS, hM⟩
        replace hK := hK.trans hk
        replace hG_0 := hG_0.kp hk
        replace hG_1 := hG_1.kp hk
        replace hE_gvS := hE_gvS.kp hk
        replace hG_2 := hG_2.kp hk
        replace hE_gvR := hE_gvR.kp hk
        replace hG_5 := hG_5.kp hk
        replace hG_7 := hG_7.kp hk
        refine HA.val (k := 19) (v := .bool (decide ((r_7 : Str) = r_8))) rfl rfl (by kernel_rfl) (by kernel_rfl) (want_by rfl rfl c_3) rfl (fun _ ⟨c204, c203, c202, c201⟩ => q_eqlT rfl rfl) ?_
        refine HA.val (k := 20) (v := .bool (decide ((r_7 : Str) = r_8))) rfl rfl (by kernel_rfl) (by kernel_rfl) (want_none) rfl (fun _ ⟨c204, c203, c202, c201⟩ => q_pickK true rfl c_3 rfl) ?_
        refine HA.val (k := 21) (v := .bool (decide ((r_7 : Str) = r_8))) rfl rfl (by kernel_rfl) (by kernel_rfl) (want_none) rfl (fun _ ⟨c204, c203, c202, c201⟩ => q_move rfl) ?_
        rcases Bool.eq_false_or_eq_true (decide ((r_7 : Str) = r_8)) with c_4 | c_4
        · replace hM := hM.1 (of_decide_eq_true c_4)
          refine HA.val (k := 22) (v := .agg (arrCells r0_2).toArray) rfl rfl (by kernel_rfl) (by kernel_rfl) (want_by rfl rfl c_4) rfl (fun _ ⟨c204, c203, c202, c201⟩ => q_loadAgg (cs := (arrCells r0_2)) ta_38 rfl rfl (Blk.cells (k := 6) c204 rfl)) ?_
          refine HA.val (k := 23) (v := .agg (arrCells m1).toArray) rfl rfl (by kernel_rfl) (by kernel_rfl) (want_by rfl rfl c_4) rfl (fun _ ⟨c204, c203, c202, c201⟩ => q_loadAgg (cs := (arrCells m1)) ta_38 rfl rfl (Blk.cells (k := 6) c202 rfl)) ?_
          refine HA.val (k := 24) (v := .bool (decide ((r0_2 : Ba 6) = m1))) rfl rfl (by kernel_rfl) (by kernel_rfl) (want_by rfl rfl c_4) rfl (fun _ ⟨c204, c203, c202, c201⟩ => q_eqlAgg (a := r0_2) (b := m1) (fun a b w => teq_38 9998 a b w) (by kernel_rfl) rfl rfl rfl rfl) ?_
          refine HA.val (k := 25) (v := .bool (decide ((r0_2 : Ba 6) = m1))) rfl rfl (by kernel_rfl) (by kernel_rfl) (want_none) rfl (fun _ ⟨c204, c203, c202, c201⟩ => q_pickK true rfl c_4 rfl) ?_
          refine HA.val (k := 26) (v := .bool (decide ((r0_2 : Ba 6) = m1))) rfl rfl (by kernel_rfl) (by kernel_rfl) (want_none) rfl (fun _ ⟨c204, c203, c202, c201⟩ => q_move rfl) ?_
          rcases Bool.eq_false_or_eq_true (decide ((r0_2 : Ba 6) = m1)) with c_5 | c_5
          · replace hM := hM.1 (of_decide_eq_true c_5)
            refine HA.val (k := 27) (v := .int .i64 r1_2) rfl rfl (by kernel_rfl) (by kernel_rfl) (want_by rfl rfl c_5) rfl (fun _ ⟨c204, c203, c202, c201⟩ => q_move rfl) ?_
            refine HA.val (k := 28) (v := .bool (decide (r1_2 = 0))) rfl rfl (by kernel_rfl) (by kernel_rfl) (want_by rfl rfl c_5) rfl (fun _ ⟨c204, c203, c202, c201⟩ => q_eql rfl rfl) ?_
            refine HA.val (k := 29) (v := .bool (decide (r1_2 = 0))) rfl rfl (by kernel_rfl) (by kernel_rfl) (want_none) rfl (fun _ ⟨c204, c203, c202, c201⟩ => q_pickK true rfl c_5 rfl) ?_
            refine HA.val (k := 30) (v := .bool (decide (r1_2 = 0))) rfl rfl (by kernel_rfl) (by kernel_rfl) (want_none) rfl (fun _ ⟨c204, c203, c202, c201⟩ => q_move rfl) ?_
            rcases Bool.eq_false_or_eq_true (decide (r1_2 = 0)) with c_6 | c_6
            · replace hM := hM.1 (of_decide_eq_true c_6)
              refine HA.one (k := 31) ⟨⟨(hS.box 0 rfl), (hS.box 1 rfl), (hS.box 2 rfl), (hS.box 3 rfl)⟩, (Go.Wk.at_nil _ _)⟩ (by kernel_rfl) ?_
              refine HS.call rfl (want_by rfl rfl c_6) rfl (ec en_11 rfl rfl) (law03_lives_walk (fr := (Ow.box b_4 38 (arrCells r0_2).toArray :: Ow.box b_3 25 (e_api_Addr r0_1).toArray :: Ow.box b_2 38 (arrCells m1).toArray :: Ow.box b_1 25 (e_api_Addr r_2).toArray :: fr)) gm gvS gbS gvR gbR hS hG_0 hG_1 hE_gvS hG_2 hE_gvR hG_5 hG_7 hD hM) ?_
              rintro _ h_17 ⟨F_10, r_9, rfl, hk, hS, _, _, _, _, _, _, _, hM⟩
              replace hK := hK.trans hk
              replace hG_0 := hG_0.kp hk
              replace hG_1 := hG_1.kp hk
              replace hE_gvS := hE_gvS.kp hk
              replace hG_2 := hG_2.kp hk
              replace hE_gvR := hE_gvR.kp hk
              replace hG_5 := hG_5.kp hk
              replace hG_7 := hG_7.kp hk
              refine HA.val (k := 32) (v := .bool r_9) rfl rfl (by kernel_rfl) (by kernel_rfl) (want_none) rfl (fun _ ⟨c204, c203, c202, c201⟩ => q_pickK true rfl c_6 rfl) ?_
              refine HA.val (k := 33) (v := .bool r_9) rfl rfl (by kernel_rfl) (by kernel_rfl) (want_none) rfl (fun _ ⟨c204, c203, c202, c201⟩ => q_assign rfl) ?_
              refine HA.nil ⟨⟨(hS.box 0 rfl), (hS.box 1 rfl), (hS.box 2 rfl), (hS.box 3 rfl)⟩, (Go.Wk.at_nil _ _)⟩ (by kernel_rfl) (thenQ_normal (?_))
              refine HW.ret (?_)
              refine ⟨.inr rfl, .bool r_9, res1 rfl (rt rfl), ?_⟩
              replace hS : St F_10 (fr) h_17 := hS.perm2 [] 4 rfl rfl
              exact ⟨F_10, r_9, rfl, hK, hS, hG_0, hG_1, hE_gvS, hG_2, hE_gvR, hG_5, hG_7, hM⟩
            · replace hM := hM.2 (of_decide_eq_false c_6)
              refine HA.one (k := 31) ⟨⟨(hS.box 0 rfl), (hS.box 1 rfl), (hS.box 2 rfl), (hS.box 3 rfl)⟩, (Go.Wk.at_nil _ _)⟩ (by kernel_rfl) ?_
              refine HS.past rfl (past_by rfl rfl c_6) rfl ?_
              refine HA.val (k := 32) (v := .bool false) rfl rfl (by kernel_rfl) (by kernel_rfl) (want_none) rfl (fun _ ⟨c204, c203, c202, c201⟩ => q_pickK false rfl c_6 rfl) ?_
              refine HA.val (k := 33) (v := .bool false) rfl rfl (by kernel_rfl) (by kernel_rfl) (want_none) rfl (fun _ ⟨c204, c203, c202, c201⟩ => q_assign rfl) ?_
              refine HA.nil ⟨⟨(hS.box 0 rfl), (hS.box 1 rfl), (hS.box 2 rfl), (hS.box 3 rfl)⟩, (Go.Wk.at_nil _ _)⟩ (by kernel_rfl) (thenQ_normal (?_))
              refine HW.ret (?_)
              refine ⟨.inr rfl, .bool false, res1 rfl (rt rfl), ?_⟩
              replace hS : St F_9 (fr) h_16 := hS.perm2 [] 4 rfl rfl
              exact ⟨F_9, false, rfl, hK, hS, hG_0, hG_1, hE_gvS, hG_2, hE_gvR, hG_5, hG_7, hM⟩
          · replace hM := hM.2 (of_decide_eq_false c_5)
            refine HA.past (k := 27) rfl rfl (by kernel_rfl) (by kernel_rfl) (past_by rfl rfl c_5) rfl ?_
            refine HA.past (k := 28) rfl rfl (by kernel_rfl) (by kernel_rfl) (past_by rfl rfl c_5) rfl ?_
            refine HA.val (k := 29) (v := .bool false) rfl rfl (by kernel_rfl) (by kernel_rfl) (want_none) rfl (fun _ ⟨c204, c203, c202, c201⟩ => q_pickK false rfl c_5 rfl) ?_
            refine HA.val (k := 30) (v := .bool false) rfl rfl (by kernel_rfl) (by kernel_rfl) (want_none) rfl (fun _ ⟨c204, c203, c202, c201⟩ => q_move rfl) ?_
            refine HA.one (k := 31) ⟨⟨(hS.box 0 rfl), (hS.box 1 rfl), (hS.box 2 rfl), (hS.box 3 rfl)⟩, (Go.Wk.at_nil _ _)⟩ (by kernel_rfl) ?_
            refine HS.past rfl (past_some rfl rfl) rfl ?_
            refine HA.val (k := 32) (v := .bool false) rfl rfl (by kernel_rfl) (by kernel_rfl) (want_none) rfl (fun _ ⟨c204, c203, c202, c201⟩ => q_pick rfl rfl) ?_
            refine HA.val (k := 33) (v := .bool false) rfl rfl (by kernel_rfl) (by kernel_rfl) (want_none) rfl (fun _ ⟨c204, c203, c202, c201⟩ => q_assign rfl) ?_
            refine HA.nil ⟨⟨(hS.box 0 rfl), (hS.box 1 rfl), (hS.box 2 rfl), (hS.box 3 rfl)⟩, (Go.Wk.at_nil _ _)⟩ (by kernel_rfl) (thenQ_normal (?_))
            refine HW.ret (?_)
            refine ⟨.inr rfl, .bool false, res1 rfl (rt rfl), ?_⟩
            replace hS : St F_9 (fr) h_16 := hS.perm2 [] 4 rfl rfl
            exact ⟨F_9, false, rfl, hK, hS, hG_0, hG_1, hE_gvS, hG_2, hE_gvR, hG_5, hG_7, hM⟩
        · replace hM := hM.2 (of_decide_eq_false c_4)
          refine HA.past (k := 22) rfl rfl (by kernel_rfl) (by kernel_rfl) (past_by rfl rfl c_4) rfl ?_
          refine HA.past (k := 23) rfl rfl (by kernel_rfl) (by kernel_rfl) (past_by rfl rfl c_4) rfl ?_
          refine HA.past (k := 24) rfl rfl (by kernel_rfl) (by kernel_rfl) (past_by rfl rfl c_4) rfl ?_
          refine HA.val (k := 25) (v := .bool false) rfl rfl (by kernel_rfl) (by kernel_rfl) (want_none) rfl (fun _ ⟨c204, c203, c202, c201⟩ => q_pickK false rfl c_4 rfl) ?_
          refine HA.val (k := 26) (v := .bool false) rfl rfl (by kernel_rfl) (by kernel_rfl) (want_none) rfl (fun _ ⟨c204, c203, c202, c201⟩ => q_move rfl) ?_
          refine HA.past (k := 27) rfl rfl (by kernel_rfl) (by kernel_rfl) (past_some rfl rfl) rfl ?_
          refine HA.past (k := 28) rfl rfl (by kernel_rfl) (by kernel_rfl) (past_some rfl rfl) rfl ?_
          refine HA.val (k := 29) (v := .bool false) rfl rfl (by kernel_rfl) (by kernel_rfl) (want_none) rfl (fun _ ⟨c204, c203, c202, c201⟩ => q_pick rfl rfl) ?_
          refine HA.val (k := 30) (v := .bool false) rfl rfl (by kernel_rfl) (by kernel_rfl) (want_none) rfl (fun _ ⟨c204, c203, c202, c201⟩ => q_move rfl) ?_
          refine HA.one (k := 31) ⟨⟨(hS.box 0 rfl), (hS.box 1 rfl), (hS.box 2 rfl), (hS.box 3 rfl)⟩, (Go.Wk.at_nil _ _)⟩ (by kernel_rfl) ?_
          refine HS.past rfl (past_some rfl rfl) rfl ?_
          refine HA.val (k := 32) (v := .bool false) rfl rfl (by kernel_rfl) (by kernel_rfl) (want_none) rfl (fun _ ⟨c204, c203, c202, c201⟩ => q_pick rfl rfl) ?_
          refine HA.val (k := 33) (v := .bool false) rfl rfl (by kernel_rfl) (by kernel_rfl) (want_none) rfl (fun _ ⟨c204, c203, c202, c201⟩ => q_assign rfl) ?_
          refine HA.nil ⟨⟨(hS.box 0 rfl), (hS.box 1 rfl), (hS.box 2 rfl), (hS.box 3 rfl)⟩, (Go.Wk.at_nil _ _)⟩ (by kernel_rfl) (thenQ_normal (?_))
          refine HW.ret (?_)
          refine ⟨.inr rfl, .bool false, res1 rfl (rt rfl), ?_⟩
          replace hS : St F_9 (fr) h_16 := hS.perm2 [] 4 rfl rfl
          exact ⟨F_9, false, rfl, hK, hS, hG_0, hG_1, hE_gvS, hG_2, hE_gvR, hG_5, hG_7, hM⟩
      · replace hM := hM.2 (of_decide_eq_false c_3)
        refine HA.past (k := 15) rfl rfl (by kernel_rfl) (by kernel_rfl) (past_by rfl rfl c_3) rfl ?_
        refine HA.past (k := 17) rfl rfl (by kernel_rfl) (by kernel_rfl) (past_by rfl rfl c_3) rfl ?_
        refine HA.one (k := 16) ⟨⟨(hS.box 0 rfl), (hS.box 1 rfl), (hS.box 2 rfl), (hS.box 3 rfl)⟩, (Go.Wk.at_nil _ _)⟩ (by kernel_rfl) ?_
        refine HS.past rfl (past_by rfl rfl c_3) rfl ?_
        refine HA.one (k := 18) ⟨⟨(hS.box 0 rfl), (hS.box 1 rfl), (hS.box 2 rfl), (hS.box 3 rfl)⟩, (Go.Wk.at_nil _ _)⟩ (by kernel_rfl) ?_
        refine HS.past rfl (past_by rfl rfl c_3) rfl ?_
        refine HA.past (k := 19) rfl rfl (by kernel_rfl) (by kernel_rfl) (past_by rfl rfl c_3) rfl ?_
        refine HA.val (k := 20) (v := .bool false) rfl rfl (by kernel_rfl) (by kernel_rfl) (want_none) rfl (fun _ ⟨c204, c203, c202, c201⟩ => q_pickK false rfl c_3 rfl) ?_
        refine HA.val (k := 21) (v := .bool false) rfl rfl (by kernel_rfl) (by kernel_rfl) (want_none) rfl (fun _ ⟨c204, c203, c202, c201⟩ => q_move rfl) ?_
        refine HA.past (k := 22) rfl rfl (by kernel_rfl) (by kernel_rfl) (past_some rfl rfl) rfl ?_
        refine HA.past (k := 23) rfl rfl (by kernel_rfl) (by kernel_rfl) (past_some rfl rfl) rfl ?_
        refine HA.past (k := 24) rfl rfl (by kernel_rfl) (by kernel_rfl) (past_some rfl rfl) rfl ?_
        refine HA.val (k := 25) (v := .bool false) rfl rfl (by kernel_rfl) (by kernel_rfl) (want_none) rfl (fun _ ⟨c204, c203, c202, c201⟩ => q_pick rfl rfl) ?_
        refine HA.val (k := 26) (v := .bool false) rfl rfl (by kernel_rfl) (by kernel_rfl) (want_none) rfl (fun _ ⟨c204, c203, c202, c201⟩ => q_move rfl) ?_
        refine HA.past (k := 27) rfl rfl (by kernel_rfl) (by kernel_rfl) (past_some rfl rfl) rfl ?_
        refine HA.past (k := 28) rfl rfl (by kernel_rfl) (by kernel_rfl) (past_some rfl rfl) rfl ?_
        refine HA.val (k := 29) (v := .bool false) rfl rfl (by kernel_rfl) (by kernel_rfl) (want_none) rfl (fun _ ⟨c204, c203, c202, c201⟩ => q_pick rfl rfl) ?_
        refine HA.val (k := 30) (v := .bool false) rfl rfl (by kernel_rfl) (by kernel_rfl) (want_none) rfl (fun _ ⟨c204, c203, c202, c201⟩ => q_move rfl) ?_
        refine HA.one (k := 31) ⟨⟨(hS.box 0 rfl), (hS.box 1 rfl), (hS.box 2 rfl), (hS.box 3 rfl)⟩, (Go.Wk.at_nil _ _)⟩ (by kernel_rfl) ?_
        refine HS.past rfl (past_some rfl rfl) rfl ?_
        refine HA.val (k := 32) (v := .bool false) rfl rfl (by kernel_rfl) (by kernel_rfl) (want_none) rfl (fun _ ⟨c204, c203, c202, c201⟩ => q_pick rfl rfl) ?_
        refine HA.val (k := 33) (v := .bool false) rfl rfl (by kernel_rfl) (by kernel_rfl) (want_none) rfl (fun _ ⟨c204, c203, c202, c201⟩ => q_assign rfl) ?_
        refine HA.nil ⟨⟨(hS.box 0 rfl), (hS.box 1 rfl), (hS.box 2 rfl), (hS.box 3 rfl)⟩, (Go.Wk.at_nil _ _)⟩ (by kernel_rfl) (thenQ_normal (?_))
        refine HW.ret (?_)
        refine ⟨.inr rfl, .bool false, res1 rfl (rt rfl), ?_⟩
        replace hS : St F_7 (fr) h_14 := hS.perm2 [] 4 rfl rfl
        exact ⟨F_7, false, rfl, hK, hS, hG_0, hG_1, hE_gvS, hG_2, hE_gvR, hG_5, hG_7, hM⟩
    · replace hM := hM.2 (of_decide_eq_false c_2)
      refine HA.past (k := 11) rfl rfl (by kernel_rfl) (by kernel_rfl) (past_by rfl rfl c_2) rfl ?_
      refine HA.past (k := 12) rfl rfl (by kernel_rfl) (by kernel_rfl) (past_by rfl rfl c_2) rfl ?_
      refine HA.val (k := 13) (v := .bool false) rfl rfl (by kernel_rfl) (by kernel_rfl) (want_none) rfl (fun _ ⟨c204, c203, c202, c201⟩ => q_pickK false rfl c_2 rfl) ?_
      refine HA.val (k := 14) (v := .bool false) rfl rfl (by kernel_rfl) (by kernel_rfl) (want_none) rfl (fun _ ⟨c204, c203, c202, c201⟩ => q_move rfl) ?_
      refine HA.past (k := 15) rfl rfl (by kernel_rfl) (by kernel_rfl) (past_some rfl rfl) rfl ?_
      refine HA.past (k := 17) rfl rfl (by kernel_rfl) (by kernel_rfl) (past_some rfl rfl) rfl ?_
      refine HA.one (k := 16) ⟨⟨(hS.box 0 rfl), (hS.box 1 rfl), (hS.box 2 rfl), (hS.box 3 rfl)⟩, (Go.Wk.at_nil _ _)⟩ (by kernel_rfl) ?_
      refine HS.past rfl (past_some rfl rfl) rfl ?_
      refine HA.one (k := 18) ⟨⟨(hS.box 0 rfl), (hS.box 1 rfl), (hS.box 2 rfl), (hS.box 3 rfl)⟩, (Go.Wk.at_nil _ _)⟩ (by kernel_rfl) ?_
      refine HS.past rfl (past_some rfl rfl) rfl ?_
      refine HA.past (k := 19) rfl rfl (by kernel_rfl) (by kernel_rfl) (past_some rfl rfl) rfl ?_
      refine HA.val (k := 20) (v := .bool false) rfl rfl (by kernel_rfl) (by kernel_rfl) (want_none) rfl (fun _ ⟨c204, c203, c202, c201⟩ => q_pick rfl rfl) ?_
      refine HA.val (k := 21) (v := .bool false) rfl rfl (by kernel_rfl) (by kernel_rfl) (want_none) rfl (fun _ ⟨c204, c203, c202, c201⟩ => q_move rfl) ?_
      refine HA.past (k := 22) rfl rfl (by kernel_rfl) (by kernel_rfl) (past_some rfl rfl) rfl ?_
      refine HA.past (k := 23) rfl rfl (by kernel_rfl) (by kernel_rfl) (past_some rfl rfl) rfl ?_
      refine HA.past (k := 24) rfl rfl (by kernel_rfl) (by kernel_rfl) (past_some rfl rfl) rfl ?_
      refine HA.val (k := 25) (v := .bool false) rfl rfl (by kernel_rfl) (by kernel_rfl) (want_none) rfl (fun _ ⟨c204, c203, c202, c201⟩ => q_pick rfl rfl) ?_
      refine HA.val (k := 26) (v := .bool false) rfl rfl (by kernel_rfl) (by kernel_rfl) (want_none) rfl (fun _ ⟨c204, c203, c202, c201⟩ => q_move rfl) ?_
      refine HA.past (k := 27) rfl rfl (by kernel_rfl) (by kernel_rfl) (past_some rfl rfl) rfl ?_
      refine HA.past (k := 28) rfl rfl (by kernel_rfl) (by kernel_rfl) (past_some rfl rfl) rfl ?_
      refine HA.val (k := 29) (v := .bool false) rfl rfl (by kernel_rfl) (by kernel_rfl) (want_none) rfl (fun _ ⟨c204, c203, c202, c201⟩ => q_pick rfl rfl) ?_
      refine HA.val (k := 30) (v := .bool false) rfl rfl (by kernel_rfl) (by kernel_rfl) (want_none) rfl (fun _ ⟨c204, c203, c202, c201⟩ => q_move rfl) ?_
      refine HA.one (k := 31) ⟨⟨(hS.box 0 rfl), (hS.box 1 rfl), (hS.box 2 rfl), (hS.box 3 rfl)⟩, (Go.Wk.at_nil _ _)⟩ (by kernel_rfl) ?_
      refine HS.past rfl (past_some rfl rfl) rfl ?_
      refine HA.val (k := 32) (v := .bool false) rfl rfl (by kernel_rfl) (by kernel_rfl) (want_none) rfl (fun _ ⟨c204, c203, c202, c201⟩ => q_pick rfl rfl) ?_
      refine HA.val (k := 33) (v := .bool false) rfl rfl (by kernel_rfl) (by kernel_rfl) (want_none) rfl (fun _ ⟨c204, c203, c202, c201⟩ => q_assign rfl) ?_
      refine HA.nil ⟨⟨(hS.box 0 rfl), (hS.box 1 rfl), (hS.box 2 rfl), (hS.box 3 rfl)⟩, (Go.Wk.at_nil _ _)⟩ (by kernel_rfl) (thenQ_normal (?_))
      refine HW.ret (?_)
      refine ⟨.inr rfl, .bool false, res1 rfl (rt rfl), ?_⟩
      replace hS : St F_7 (fr) h_14 := hS.perm2 [] 4 rfl rfl
      exact ⟨F_7, false, rfl, hK, hS, hG_0, hG_1, hE_gvS, hG_2, hE_gvR, hG_5, hG_7, hM⟩
  · replace hM := hM.2 (of_decide_eq_false c_1)
    refine HA.past (k := 6) rfl rfl (by kernel_rfl) (by kernel_rfl) (past_by rfl rfl c_1) rfl ?_
    refine HA.past (k := 7) rfl rfl (by kernel_rfl) (by kernel_rfl) (past_by rfl rfl c_1) rfl ?_
    refine HA.past (k := 8) rfl rfl (by kernel_rfl) (by kernel_rfl) (past_by rfl rfl c_1) rfl ?_
    refine HA.val (k := 9) (v := .bool false) rfl rfl (by kernel_rfl) (by kernel_rfl) (want_none) rfl (fun _ ⟨c204, c203, c202, c201⟩ => q_pickK false rfl c_1 rfl) ?_
    refine HA.val (k := 10) (v := .bool false) rfl rfl (by kernel_rfl) (by kernel_rfl) (want_none) rfl (fun _ ⟨c204, c203, c202, c201⟩ => q_move rfl) ?_
    refine HA.past (k := 11) rfl rfl (by kernel_rfl) (by kernel_rfl) (past_some rfl rfl) rfl ?_
    refine HA.past (k := 12) rfl rfl (by kernel_rfl) (by kernel_rfl) (past_some rfl rfl) rfl ?_
    refine HA.val (k := 13) (v := .bool false) rfl rfl (by kernel_rfl) (by kernel_rfl) (want_none) rfl (fun _ ⟨c204, c203, c202, c201⟩ => q_pick rfl rfl) ?_
    refine HA.val (k := 14) (v := .bool false) rfl rfl (by kernel_rfl) (by kernel_rfl) (want_none) rfl (fun _ ⟨c204, c203, c202, c201⟩ => q_move rfl) ?_
    refine HA.past (k := 15) rfl rfl (by kernel_rfl) (by kernel_rfl) (past_some rfl rfl) rfl ?_
    refine HA.past (k := 17) rfl rfl (by kernel_rfl) (by kernel_rfl) (past_some rfl rfl) rfl ?_
    refine HA.one (k := 16) ⟨⟨(hS.box 0 rfl), (hS.box 1 rfl), (hS.box 2 rfl), (hS.box 3 rfl)⟩, (Go.Wk.at_nil _ _)⟩ (by kernel_rfl) ?_
    refine HS.past rfl (past_some rfl rfl) rfl ?_
    refine HA.one (k := 18) ⟨⟨(hS.box 0 rfl), (hS.box 1 rfl), (hS.box 2 rfl), (hS.box 3 rfl)⟩, (Go.Wk.at_nil _ _)⟩ (by kernel_rfl) ?_
    refine HS.past rfl (past_some rfl rfl) rfl ?_
    refine HA.past (k := 19) rfl rfl (by kernel_rfl) (by kernel_rfl) (past_some rfl rfl) rfl ?_
    refine HA.val (k := 20) (v := .bool false) rfl rfl (by kernel_rfl) (by kernel_rfl) (want_none) rfl (fun _ ⟨c204, c203, c202, c201⟩ => q_pick rfl rfl) ?_
    refine HA.val (k := 21) (v := .bool false) rfl rfl (by kernel_rfl) (by kernel_rfl) (want_none) rfl (fun _ ⟨c204, c203, c202, c201⟩ => q_move rfl) ?_
    refine HA.past (k := 22) rfl rfl (by kernel_rfl) (by kernel_rfl) (past_some rfl rfl) rfl ?_
    refine HA.past (k := 23) rfl rfl (by kernel_rfl) (by kernel_rfl) (past_some rfl rfl) rfl ?_
    refine HA.past (k := 24) rfl rfl (by kernel_rfl) (by kernel_rfl) (past_some rfl rfl) rfl ?_
    refine HA.val (k := 25) (v := .bool false) rfl rfl (by kernel_rfl) (by kernel_rfl) (want_none) rfl (fun _ ⟨c204, c203, c202, c201⟩ => q_pick rfl rfl) ?_
    refine HA.val (k := 26) (v := .bool false) rfl rfl (by kernel_rfl) (by kernel_rfl) (want_none) rfl (fun _ ⟨c204, c203, c202, c201⟩ => q_move rfl) ?_
    refine HA.past (k := 27) rfl rfl (by kernel_rfl) (by kernel_rfl) (past_some rfl rfl) rfl ?_
    refine HA.past (k := 28) rfl rfl (by kernel_rfl) (by kernel_rfl) (past_some rfl rfl) rfl ?_
    refine HA.val (k := 29) (v := .bool false) rfl rfl (by kernel_rfl) (by kernel_rfl) (want_none) rfl (fun _ ⟨c204, c203, c202, c201⟩ => q_pick rfl rfl) ?_
    refine HA.val (k := 30) (v := .bool false) rfl rfl (by kernel_rfl) (by kernel_rfl) (want_none) rfl (fun _ ⟨c204, c203, c202, c201⟩ => q_move rfl) ?_
    refine HA.one (k := 31) ⟨⟨(hS.box 0 rfl), (hS.box 1 rfl), (hS.box 2 rfl), (hS.box 3 rfl)⟩, (Go.Wk.at_nil _ _)⟩ (by kernel_rfl) ?_
    refine HS.past rfl (past_some rfl rfl) rfl ?_
    refine HA.val (k := 32) (v := .bool false) rfl rfl (by kernel_rfl) (by kernel_rfl) (want_none) rfl (fun _ ⟨c204, c203, c202, c201⟩ => q_pick rfl rfl) ?_
    refine HA.val (k := 33) (v := .bool false) rfl rfl (by kernel_rfl) (by kernel_rfl) (want_none) rfl (fun _ ⟨c204, c203, c202, c201⟩ => q_assign rfl) ?_
    refine HA.nil ⟨⟨(hS.box 0 rfl), (hS.box 1 rfl), (hS.box 2 rfl), (hS.box 3 rfl)⟩, (Go.Wk.at_nil _ _)⟩ (by kernel_rfl) (thenQ_normal (?_))
    refine HW.ret (?_)
    refine ⟨.inr rfl, .bool false, res1 rfl (rt rfl), ?_⟩
    replace hS : St F_7 (fr) h_14 := hS.perm2 [] 4 rfl rfl
    exact ⟨F_7, false, rfl, hK, hS, hG_0, hG_1, hE_gvS, hG_2, hE_gvR, hG_5, hG_7, hM⟩

def ref03_Good_l1 (a : T_api_Addr) (Q : Bool → Prop) (K_1 : Int → Prop) (i_1 : Int) : Prop :=
  (i_1 < 16 → ((!a.1) = true → ((0 : Int) ≤ i_1 ∧ i_1 < 16) ∧ ((¬ ((b8 a.2 i_1) = 0) → Q false) ∧ ((b8 a.2 i_1) = 0 → (I64 (i_1 + 1)) ∧ (K_1 (i_1 + 1))))) ∧ ((!a.1) = false → (I64 (i_1 + 1)) ∧ (K_1 (i_1 + 1)))) ∧ (¬ (i_1 < 16) → Q true)
def ref03_Good_W (a : T_api_Addr) (Q : Bool → Prop) : Prop :=
  loopW (fun (K_1 : Int → Prop) (s : Int) => ref03_Good_l1 a Q K_1 s) 4
set_option maxHeartbeats 40000000 in
set_option maxRecDepth 100000 in
theorem ref03_Good_walk {F : Fz} {fr : List Ow} {h0 : Heap} (a : T_api_Addr) (hS : St F (fr) h0)  {Q : Bool → Prop} (hM : ref03_Good_W a Q) :
    HC Tryd.prog 21 #[.agg (e_api_Addr a).toArray] h0 fun u h' => ∃ (F' : Fz) (r_1 : Bool), u = .bool r_1 ∧ Kp F h0 F' h' ∧ St F' (fr) h' ∧ Q r_1 := by
  unfold ref03_Good_W at hM
  have hK := Kp.refl F h0
  refine HC.of_HW (n := 18) Tryd.func21 rfl rfl (Nat.le_of_ble_eq_true rfl) ?_
  refine HW.seq ?_
  refine HW.region ?_
  refine HO.eff (want_none) rfl (st_box (c := (e_api_Addr a).toArray) (k' := 17) hS rfl rfl) ?_
  rintro _ h_1 ⟨b_1, rfl, hS, hk⟩
  replace hK := hK.trans hk
  refine HO.val (v := .bool false) (want_none) rfl (q_assign rfl) ?_
  refine HO.nil (thenQ_normal (?_))
  refine HW.seq ?_
  refine HW.seq ?_
  refine HW.region ?_
  refine HO.val (v := .int .i64 4) (want_none) rfl (q_assign rfl) ?_
  refine HO.nil (thenQ_normal (?_))
  refine HW.block ?_
  obtain ⟨I_1, m_1, hI_1, hR_1⟩ := hM
  refine HW.loop (S := Int) (fun i_1 f h => ∃ (F' : Fz), f 1 = .pointer (some ⟨b_1, 0, none⟩) ∧ f 2 = .bool false ∧ f 3 = .int .i64 i_1 ∧ Kp F h0 F' h ∧ St F' (Ow.box b_1 25 (e_api_Addr a).toArray :: fr) h ∧ I_1 i_1) m_1 4 ⟨F, rfl, rfl, rfl, hK, hS, hI_1⟩ ?_
  rintro i_1 f_1 h_2 ⟨F_1, e1, e2, e3, hK, hS, hI0⟩
  obtain ⟨K_1, hKe_1⟩ : ∃ K : Int → Prop, K = fun i_1' => I_1 i_1' ∧ m_1 i_1' < m_1 i_1 := ⟨_, rfl⟩
  have hM : ref03_Good_l1 a Q K_1 i_1 := by rw [hKe_1]; exact hR_1 i_1 hI0
  unfold ref03_Good_l1 at hM
  refine HW.fr [(1, .pointer (some ⟨b_1, 0, none⟩)), (2, .bool false), (3, .int .i64 i_1)] ⟨e1, e2, e3, trivial⟩ ?_
  refine HW.seq ?_
  refine HW.seq ?_
  refine HW.region ?_
  refine HO.val (v := .int .i64 i_1) (want_none) rfl (q_move rfl) ?_
  refine HO.val (v := .bool (decide (i_1 < 16))) (want_none) rfl (q_lss rfl rfl) ?_
  refine HO.nil (thenQ_normal (?_))
  refine HW.cond (decide (i_1 < 16)) rfl (fun c_1 => ?_) (fun c_1 => ?_)
  · replace hM := hM.1 (of_decide_eq_true c_1)
    refine HW.skip (thenQ_normal (?_))
    refine HW.seq ?_
    refine HW.block ?_
    refine HW.seq ?_
    refine HW.region ?_
    refine HO.val (v := .pointer (some ⟨b_1, 0, none⟩)) (want_none) rfl (q_fieldAddr fa_25_0 rfl rfl) ?_
    refine HO.val (v := .bool a.1) (want_none) rfl (q_load to_4 rfl (Blk.cell (hS.box 0 rfl) rfl)) ?_
    refine HO.val (v := .bool (!a.1)) (want_none) rfl (q_not rfl) ?_
    refine HO.val (v := .bool (!a.1)) (want_none) rfl (q_move rfl) ?_
    rcases Bool.eq_false_or_eq_true (!a.1) with c_2 | c_2
    · replace hM := hM.1 c_2
      refine HO.val (v := .int .i64 i_1) (want_by rfl rfl c_2) rfl (q_move rfl) ?_
      refine HO.val (v := .pointer (some ⟨b_1, 1, none⟩)) (want_by rfl rfl c_2) rfl (q_fieldAddr fa_25_1 rfl rfl) ?_
      obtain ⟨ho_1, hM⟩ := hM
      refine HO.val (v := .pointer (some ⟨b_1, 1 + (i_1).toNat, none⟩)) (want_by rfl rfl c_2) rfl (q_idxA (o := 1) (t := i_1) tr_23 rfl rfl ho_1) ?_
      refine HO.val (v := .int .u8 (b8 a.2 i_1)) (want_by rfl rfl c_2) rfl (q_ldArr (o := 1) (t := i_1) (X := a.2) to_5 rfl (hS.box 0 rfl) rfl ho_1) ?_
      refine HO.val (v := .bool (!decide ((b8 a.2 i_1) = 0))) (want_by rfl rfl c_2) rfl (q_neq rfl rfl) ?_
      refine HO.val (v := .bool (!decide ((b8 a.2 i_1) = 0))) (want_none) rfl (q_pickK true rfl c_2 rfl) ?_
      refine HO.nil (thenQ_normal (?_))
      refine HW.cond (!decide ((b8 a.2 i_1) = 0)) rfl (fun c_3 => ?_) (fun c_3 => ?_)
      · replace hM := hM.1 (nd_true c_3)
        refine HW.seq ?_
        refine HW.region ?_
        refine HO.val (v := .bool false) (want_none) rfl (q_assign rfl) ?_
        refine HO.nil (thenQ_normal (?_))
        refine HW.ret (blockQ_ret (thenQ_ret (thenQ_ret (blockQ_ret (thenQ_ret (?_))))))
        refine ⟨.inr rfl, .bool false, res1 rfl (rt rfl), ?_⟩
        replace hS : St F_1 (fr) h_2 := hS.perm2 [] 1 rfl rfl
        exact ⟨F_1, false, rfl, hK, hS, hM⟩
      · replace hM := hM.2 (nd_false c_3)
        refine HW.skip (blockQ_normal (thenQ_normal (?_)))
        refine HW.region ?_
        refine HO.val (v := .int .i64 i_1) (want_none) rfl (q_move rfl) ?_
        obtain ⟨ho_2, hM⟩ := hM
        refine HO.val (v := .int .i64 (i_1 + 1)) (want_none) rfl (q_addN _ rfl rfl rfl ho_2.1 ho_2.2) ?_
        refine HO.val (v := .int .i64 (i_1 + 1)) (want_none) rfl (q_assign rfl) ?_
        refine HO.nil (thenQ_normal (?_))
        rw [hKe_1] at hM
        exact ⟨i_1 + 1, ⟨F_1, rfl, rfl, rfl, hK, hS, hM.1⟩, hM.2⟩
    · replace hM := hM.2 c_2
      refine HO.past (past_by rfl rfl c_2) rfl ?_
      refine HO.past (past_by rfl rfl c_2) rfl ?_
      refine HO.past (past_by rfl rfl c_2) rfl ?_
      refine HO.past (past_by rfl rfl c_2) rfl ?_
      refine HO.past (past_by rfl rfl c_2) rfl ?_
      refine HO.val (v := .bool false) (want_none) rfl (q_pickK false rfl c_2 rfl) ?_
      refine HO.nil (thenQ_normal (?_))
      refine HW.condF rfl ?_
      refine HW.skip (blockQ_normal (thenQ_normal (?_)))
      refine HW.region ?_
      refine HO.val (v := .int .i64 i_1) (want_none) rfl (q_move rfl) ?_
      obtain ⟨ho_3, hM⟩ := hM
      refine HO.val (v := .int .i64 (i_1 + 1)) (want_none) rfl (q_addN _ rfl rfl rfl ho_3.1 ho_3.2) ?_
      refine HO.val (v := .int .i64 (i_1 + 1)) (want_none) rfl (q_assign rfl) ?_
      refine HO.nil (thenQ_normal (?_))
      rw [hKe_1] at hM
      exact ⟨i_1 + 1, ⟨F_1, rfl, rfl, rfl, hK, hS, hM.1⟩, hM.2⟩
  · replace hM := hM.2 (of_decide_eq_false c_1)
    refine HW.exit (thenQ_exit (thenQ_exit (blockQ_exit (thenQ_normal (?_)))))
    refine HW.seq ?_
    refine HW.region ?_
    refine HO.val (v := .bool true) (want_none) rfl (q_assign rfl) ?_
    refine HO.nil (thenQ_normal (?_))
    refine HW.ret (?_)
    refine ⟨.inr rfl, .bool true, res1 rfl (rt rfl), ?_⟩
    replace hS : St F_1 (fr) h_2 := hS.perm2 [] 1 rfl rfl
    exact ⟨F_1, true, rfl, hK, hS, hM⟩

def law03_AddrParses_j1 (Q : Bool → Prop) (r_2 : Str) (r0_2 : Ba 6) (r1_2 : Int) : Prop :=
  (r1_2 = 0 → ref03_PrintMac_W r0_2 (fun r_5 => ((r_5 : Str) = r_2 → law03_lives_W  (fun r_6 => Q r_6)) ∧ (¬ ((r_5 : Str) = r_2) → (r1_2 = 2 → ((r0_2 : Ba 6) = mkB 6 [0, 0, 0, 0, 0, 0] → law03_lives_W  (fun r_7 => Q r_7)) ∧ (¬ ((r0_2 : Ba 6) = mkB 6 [0, 0, 0, 0, 0, 0]) → Q false)) ∧ (¬ (r1_2 = 2) → Q false)))) ∧ (¬ (r1_2 = 0) → (r1_2 = 2 → ((r0_2 : Ba 6) = mkB 6 [0, 0, 0, 0, 0, 0] → law03_lives_W  (fun r_8 => Q r_8)) ∧ (¬ ((r0_2 : Ba 6) = mkB 6 [0, 0, 0, 0, 0, 0]) → Q false)) ∧ (¬ (r1_2 = 2) → Q false))
def law03_AddrParses_W (s1 : Str) (Q : Bool → Prop) : Prop :=
  law01_Cut_W s1 45 (fun r_2 => addr_Parse_W r_2 (fun r0_1 r1_1 => addr_ParseMac_W r_2 (fun r0_2 r1_2 => (r1_1 = 0 → ref03_Good_W r0_1 (fun r_3 => ((!r_3) = true → Q false) ∧ ((!r_3) = false → ref03_Print_W r0_1 (fun r_4 => (¬ ((r_4 : Str) = r_2) → Q false) ∧ ((r_4 : Str) = r_2 → law03_AddrParses_j1 Q r_2 r0_2 r1_2))))) ∧ (¬ (r1_1 = 0) → (¬ (r1_1 = 2) → Q false) ∧ (r1_1 = 2 → (¬ ((r0_1 : T_api_Addr) = (false, (default : Ba 16))) → Q false) ∧ ((r0_1 : T_api_Addr) = (false, (default : Ba 16)) → law03_AddrParses_j1 Q r_2 r0_2 r1_2))))))
set_option maxHeartbeats 40000000 in
set_option maxRecDepth 100000 in
theorem law03_AddrParses_walk {F : Fz} {fr : List Ow} {h0 : Heap} (s1 : Str) (gm : Int) (gvS : Value) (gbS : Bool) (gvR : Value) (gbR : Bool) (hS : St F (fr) h0) (hG_0 : RoF (Ow.box 0 3 #[.int .i64 gm]) F h0) (hG_1 : RoF (Ow.box 1 64 #[gvS]) F h0) (hE_gvS : ErrF gbS gvS F h0) (hG_2 : RoF (Ow.box 2 64 #[gvR]) F h0) (hE_gvR : ErrF gbR gvR F h0) (hG_5 : RoF (Ow.box 5 130 (tab10 ()).toArray) F h0) (hG_7 : RoF (Ow.box 7 136 (arrCells tab64).toArray) F h0) (hD : DM.on = false) {Q : Bool → Prop} (hM : law03_AddrParses_W s1 Q) :
    HC Tryd.prog 6 #[.string (bs s1)] h0 fun u h' => ∃ (F' : Fz) (r_1 : Bool), u = .bool r_1 ∧ Kp F h0 F' h' ∧ St F' (fr) h' ∧ (RoF (Ow.box 0 3 #[.int .i64 gm]) F' h') ∧ (RoF (Ow.box 1 64 #[gvS]) F' h') ∧ (ErrF gbS gvS F' h') ∧ (RoF (Ow.box 2 64 #[gvR]) F' h') ∧ (ErrF gbR gvR F' h') ∧ (RoF (Ow.box 5 130 (tab10 ()).toArray) F' h') ∧ (RoF (Ow.box 7 136 (arrCells tab64).toArray) F' h') ∧ Q r_1 := by
  unfold law03_AddrParses_W at hM
  have hK := Kp.refl F h0
  refine HC.of_HW (n := 65) Tryd.func6 rfl rfl (Nat.le_of_ble_eq_true rfl) ?_
  refine HW.seq ?_
  refine HW.region ?_
  refine HO.val (v := .bool false) (want_none) rfl (q_assign rfl) ?_
  refine HO.nil (thenQ_normal (?_))
  refine HW.seq ?_
  refine HW.region ?_
  refine HO.val (v := .string (bs s1)) (want_none) rfl (q_move rfl) ?_
  refine HO.call (want_none) rfl (ec en_7 rfl rfl) (law01_Cut_walk (fr := (fr)) s1 45 hS hM) ?_
  rintro _ h_1 ⟨F_1, r_2, rfl, hk, hS, hM⟩
  replace hK := hK.trans hk
  replace hG_0 := hG_0.kp hk
  replace hG_1 := hG_1.kp hk
  replace hE_gvS := hE_gvS.kp hk
  replace hG_2 := hG_2.kp hk
  replace hE_gvR := hE_gvR.kp hk
  replace hG_5 := hG_5.kp hk
  replace hG_7 := hG_7.kp hk
  refine HO.val (v := .string (bs r_2)) (want_none) rfl (q_assign rfl) ?_
  refine HO.nil (thenQ_normal (?_))
  refine HW.seq ?_
  refine HW.region ?_
  refine HO.val (v := .string (bs r_2)) (want_none) rfl (q_move rfl) ?_
  refine HO.call (want_none) rfl (ec en_15 rfl rfl) (addr_Parse_walk (fr := (fr)) r_2 gm gvS gbS gvR gbR hS hG_0 hG_1 hE_gvS hG_2 hE_gvR hG_5 hG_7 hD hM) ?_
  rintro _ h_2 ⟨F_2, r0_1, r1_1, rfl, hk, hS, _, _, _, _, _, _, _, hM⟩
  replace hK := hK.trans hk
  replace hG_0 := hG_0.kp hk
  replace hG_1 := hG_1.kp hk
  replace hE_gvS := hE_gvS.kp hk
  replace hG_2 := hG_2.kp hk
  replace hE_gvR := hE_gvR.kp hk
  replace hG_5 := hG_5.kp hk
  replace hG_7 := hG_7.kp hk
  refine HO.val (v := .tuple #[.agg (e_api_Addr r0_1).toArray, .int .i64 r1_1]) (want_none) rfl (q_move rfl) ?_
  refine HO.val (v := .agg (e_api_Addr r0_1).toArray) (want_none) rfl (q_extract rfl rfl) ?_
  refine HO.val (v := .int .i64 r1_1) (want_none) rfl (q_extract rfl rfl) ?_
  refine HO.eff (want_none) rfl (st_alloc (c := (e_api_Addr (false, (default : Ba 16))).toArray) hS tz_25 rfl) ?_
  rintro _ h_3 ⟨b_1, rfl, hS, hk⟩
  replace hK := hK.trans hk
  replace hG_0 := hG_0.kp hk
  replace hG_1 := hG_1.kp hk
  replace hE_gvS := hE_gvS.kp hk
  replace hG_2 := hG_2.kp hk
  replace hE_gvR := hE_gvR.kp hk
  replace hG_5 := hG_5.kp hk
  replace hG_7 := hG_7.kp hk
  refine HO.sto (want_none) rfl (st_storeAgg (c' := (e_api_Addr r0_1).toArray) hS (i := 0) rfl ta_25 rfl rfl rfl (one_e_api_Addr _) (Nat.le_of_ble_eq_true rfl) rfl) ?_
  rintro h_4 ⟨hS, hk⟩
  replace hS : St F_2 (Ow.box b_1 25 (e_api_Addr r0_1).toArray :: fr) h_4 := hS
  replace hK := hK.trans hk
  replace hG_0 := hG_0.kp hk
  replace hG_1 := hG_1.kp hk
  replace hE_gvS := hE_gvS.kp hk
  replace hG_2 := hG_2.kp hk
  replace hE_gvR := hE_gvR.kp hk
  replace hG_5 := hG_5.kp hk
  replace hG_7 := hG_7.kp hk
  refine HO.val (v := .int .i64 r1_1) (want_none) rfl (q_assign rfl) ?_
  refine HO.nil (thenQ_normal (?_))
  refine HW.seq ?_
  refine HW.region ?_
  refine HO.val (v := .string (bs r_2)) (want_none) rfl (q_move rfl) ?_
  refine HO.call (want_none) rfl (ec en_17 rfl rfl) (addr_ParseMac_walk (fr := (Ow.box b_1 25 (e_api_Addr r0_1).toArray :: fr)) r_2 gm hS hG_0 hD hM) ?_
  rintro _ h_5 ⟨F_3, r0_2, r1_2, rfl, hk, hS, _, hM⟩
  replace hK := hK.trans hk
  replace hG_0 := hG_0.kp hk
  replace hG_1 := hG_1.kp hk
  replace hE_gvS := hE_gvS.kp hk
  replace hG_2 := hG_2.kp hk
  replace hE_gvR := hE_gvR.kp hk
  replace hG_5 := hG_5.kp hk
  replace hG_7 := hG_7.kp hk
  refine HO.val (v := .tuple #[.agg (arrCells r0_2).toArray, .int .i64 r1_2]) (want_none) rfl (q_move rfl) ?_
  refine HO.val (v := .agg (arrCells r0_2).toArray) (want_none) rfl (q_extract rfl rfl) ?_
  refine HO.val (v := .int .i64 r1_2) (want_none) rfl (q_extract rfl rfl) ?_
  refine HO.eff (want_none) rfl (st_alloc (c := (arrCells (default : Ba 6)).toArray) hS tz_38 rfl) ?_
  rintro _ h_6 ⟨b_2, rfl, hS, hk⟩
  replace hK := hK.trans hk
  replace hG_0 := hG_0.kp hk
  replace hG_1 := hG_1.kp hk
  replace hE_gvS := hE_gvS.kp hk
  replace hG_2 := hG_2.kp hk
  replace hE_gvR := hE_gvR.kp hk
  replace hG_5 := hG_5.kp hk
  replace hG_7 := hG_7.kp hk
  refine HO.sto (want_none) rfl (st_storeAgg (c' := (arrCells r0_2).toArray) hS (i := 0) rfl ta_38 rfl rfl rfl (one_arr _) (Nat.le_of_ble_eq_true rfl) rfl) ?_
  rintro h_7 ⟨hS, hk⟩
  replace hS : St F_3 (Ow.box b_2 38 (arrCells r0_2).toArray :: Ow.box b_1 25 (e_api_Addr r0_1).toArray :: fr) h_7 := hS
  replace hK := hK.trans hk
  replace hG_0 := hG_0.kp hk
  replace hG_1 := hG_1.kp hk
  replace hE_gvS := hE_gvS.kp hk
  replace hG_2 := hG_2.kp hk
  replace hE_gvR := hE_gvR.kp hk
  replace hG_5 := hG_5.kp hk
  replace hG_7 := hG_7.kp hk
  refine HO.val (v := .int .i64 r1_2) (want_none) rfl (q_assign rfl) ?_
  refine HO.nil (thenQ_normal (?_))
  refine HW.seq_mid (fun f h => ∃ (F' : Fz), f 0 = .string (bs r_2) ∧ f 2 = .bool false ∧ f 5 = .pointer (some ⟨b_2, 0, none⟩) ∧ f 6 = .int .i64 r1_2 ∧ Kp F h0 F' h ∧ St F' (Ow.box b_2 38 (arrCells r0_2).toArray :: fr) h ∧ (RoF (Ow.box 0 3 #[.int .i64 gm]) F' h) ∧ (RoF (Ow.box 1 64 #[gvS]) F' h) ∧ (ErrF gbS gvS F' h) ∧ (RoF (Ow.box 2 64 #[gvR]) F' h) ∧ (ErrF gbR gvR F' h) ∧ (RoF (Ow.box 5 130 (tab10 ()).toArray) F' h) ∧ (RoF (Ow.box 7 136 (arrCells tab64).toArray) F' h) ∧ law03_AddrParses_j1 Q r_2 r0_2 r1_2) ?_ ?_
  · refine HW.seq ?_
    refine HW.region ?_
    refine HO.val (v := .int .i64 r1_1) (want_none) rfl (q_move rfl) ?_
    refine HO.val (v := .bool (decide (r1_1 = 0))) (want_none) rfl (q_eql rfl rfl) ?_
    refine HO.val (v := .bool (decide (r1_1 = 0))) (want_none) rfl (q_move rfl) ?_
    rcases Bool.eq_false_or_eq_true (decide (r1_1 = 0)) with c_1 | c_1
    · replace hM := hM.1 (of_decide_eq_true c_1)
      refine HO.val (v := .agg (e_api_Addr r0_1).toArray) (want_by rfl rfl c_1) rfl (q_loadAgg (cs := (e_api_Addr r0_1)) ta_25 rfl rfl (Blk.cells (k := 17) (hS.box 1 rfl) rfl)) ?_
      refine HO.call (want_by rfl rfl c_1) rfl (ec en_21 rfl rfl) (ref03_Good_walk (fr := (Ow.box b_2 38 (arrCells r0_2).toArray :: Ow.box b_1 25 (e_api_Addr r0_1).toArray :: fr)) r0_1 hS hM) ?_
      rintro _ h_8 ⟨F_4, r_3, rfl, hk, hS, hM⟩
      replace hK := hK.trans hk
      replace hG_0 := hG_0.kp hk
      replace hG_1 := hG_1.kp hk
      replace hE_gvS := hE_gvS.kp hk
      replace hG_2 := hG_2.kp hk
      replace hE_gvR := hE_gvR.kp hk
      replace hG_5 := hG_5.kp hk
      replace hG_7 := hG_7.kp hk
      refine HO.val (v := .bool (!r_3)) (want_by rfl rfl c_1) rfl (q_not rfl) ?_
      refine HO.val (v := .bool (!r_3)) (want_by rfl rfl c_1) rfl (q_move rfl) ?_
      rcases Bool.eq_false_or_eq_true (!r_3) with c_2 | c_2
      · replace hM := hM.1 c_2
        refine HO.past (past_by rfl rfl c_2) rfl ?_
        refine HO.past (past_by rfl rfl c_2) rfl ?_
        refine HO.past (past_by rfl rfl c_2) rfl ?_
        refine HO.past (past_by rfl rfl c_2) rfl ?_
        refine HO.val (v := .bool true) (want_by rfl rfl c_1) rfl (q_pickK true rfl c_2 rfl) ?_
        refine HO.val (v := .bool true) (want_none) rfl (q_pickK true rfl c_1 rfl) ?_
        refine HO.val (v := .bool true) (want_none) rfl (q_move rfl) ?_
        refine HO.past (past_some rfl rfl) rfl ?_
        refine HO.past (past_some rfl rfl) rfl ?_
        refine HO.past (past_some rfl rfl) rfl ?_
        refine HO.past (past_undef rfl rfl) rfl ?_
        refine HO.past (past_undef rfl rfl) rfl ?_
        refine HO.past (past_undef rfl rfl) rfl ?_
        refine HO.past (past_undef rfl rfl) rfl ?_
        refine HO.past (past_undef rfl rfl) rfl ?_
        refine HO.past (past_undef rfl rfl) rfl ?_
        refine HO.past (past_undef rfl rfl) rfl ?_
        refine HO.past (past_some rfl rfl) rfl ?_
        refine HO.val (v := .bool true) (want_none) rfl (q_pick rfl rfl) ?_
        refine HO.nil (thenQ_normal (?_))
        refine HW.condT rfl ?_
        refine HW.seq ?_
        refine HW.region ?_
        refine HO.val (v := .bool false) (want_none) rfl (q_assign rfl) ?_
        refine HO.nil (thenQ_normal (?_))
        refine HW.ret (thenQ_ret (?_))
        refine ⟨.inr rfl, .bool false, res1 rfl (rt rfl), ?_⟩
        replace hS : St F_4 (fr) h_8 := hS.perm2 [] 2 rfl rfl
        exact ⟨F_4, false, rfl, hK, hS, hG_0, hG_1, hE_gvS, hG_2, hE_gvR, hG_5, hG_7, hM⟩
      · replace hM := hM.2 c_2
        refine HO.val (v := .agg (e_api_Addr r0_1).toArray) (want_by rfl rfl c_2) rfl (q_loadAgg (cs := (e_api_Addr r0_1)) ta_25 rfl rfl (Blk.cells (k := 17) (hS.box 1 rfl) rfl)) ?_
        refine HO.call (want_by rfl rfl c_2) rfl (ec en_16 rfl rfl) (ref03_Print_walk (fr := (Ow.box b_2 38 (arrCells r0_2).toArray :: Ow.box b_1 25 (e_api_Addr r0_1).toArray :: fr)) r0_1 hS hM) ?_
        rintro _ h_9 ⟨F_5, r_4, rfl, hk, hS, hM⟩
        replace hK := hK.trans hk
        replace hG_0 := hG_0.kp hk
        replace hG_1 := hG_1.kp hk
        replace hE_gvS := hE_gvS.kp hk
        replace hG_2 := hG_2.kp hk
        replace hE_gvR := hE_gvR.kp hk
        replace hG_5 := hG_5.kp hk
        replace hG_7 := hG_7.kp hk
        refine HO.val (v := .string (bs r_2)) (want_by rfl rfl c_2) rfl (q_move rfl) ?_
        refine HO.val (v := .bool (!decide ((r_4 : Str) = r_2))) (want_by rfl rfl c_2) rfl (q_neqT rfl rfl) ?_
        refine HO.val (v := .bool (!decide ((r_4 : Str) = r_2))) (want_by rfl rfl c_1) rfl (q_pickK false rfl c_2 rfl) ?_
        refine HO.val (v := .bool (!decide ((r_4 : Str) = r_2))) (want_none) rfl (q_pickK true rfl c_1 rfl) ?_
        refine HO.val (v := .bool (!decide ((r_4 : Str) = r_2))) (want_none) rfl (q_move rfl) ?_
        rcases Bool.eq_false_or_eq_true (!decide ((r_4 : Str) = r_2)) with c_3 | c_3
        · replace hM := hM.1 (nd_true c_3)
          refine HO.past (past_by rfl rfl c_3) rfl ?_
          refine HO.past (past_by rfl rfl c_3) rfl ?_
          refine HO.past (past_by rfl rfl c_3) rfl ?_
          refine HO.past (past_undef rfl rfl) rfl ?_
          refine HO.past (past_undef rfl rfl) rfl ?_
          refine HO.past (past_undef rfl rfl) rfl ?_
          refine HO.past (past_undef rfl rfl) rfl ?_
          refine HO.past (past_undef rfl rfl) rfl ?_
          refine HO.past (past_undef rfl rfl) rfl ?_
          refine HO.past (past_undef rfl rfl) rfl ?_
          refine HO.past (past_by rfl rfl c_3) rfl ?_
          refine HO.val (v := .bool true) (want_none) rfl (q_pickK true rfl c_3 rfl) ?_
          refine HO.nil (thenQ_normal (?_))
          refine HW.condT rfl ?_
          refine HW.seq ?_
          refine HW.region ?_
          refine HO.val (v := .bool false) (want_none) rfl (q_assign rfl) ?_
          refine HO.nil (thenQ_normal (?_))
          refine HW.ret (thenQ_ret (?_))
          refine ⟨.inr rfl, .bool false, res1 rfl (rt rfl), ?_⟩
          replace hS : St F_5 (fr) h_9 := hS.perm2 [] 2 rfl rfl
          exact ⟨F_5, false, rfl, hK, hS, hG_0, hG_1, hE_gvS, hG_2, hE_gvR, hG_5, hG_7, hM⟩
        · replace hM := hM.2 (nd_false c_3)
          refine HO.val (v := .int .i64 r1_1) (want_by rfl rfl c_3) rfl (q_move rfl) ?_
          refine HO.val (v := .bool (!decide (r1_1 = 0))) (want_by rfl rfl c_3) rfl (q_neq rfl rfl) ?_
          refine HO.val (v := .bool (!decide (r1_1 = 0))) (want_by rfl rfl c_3) rfl (q_move rfl) ?_
          refine HO.past (past_by rfl rfl (nd_f2 c_1)) rfl ?_
          refine HO.past (past_by rfl rfl (nd_f2 c_1)) rfl ?_
          refine HO.past (past_by rfl rfl (nd_f2 c_1)) rfl ?_
          refine HO.past (past_undef rfl rfl) rfl ?_
          refine HO.past (past_undef rfl rfl) rfl ?_
          refine HO.past (past_undef rfl rfl) rfl ?_
          refine HO.past (past_by rfl rfl (nd_f2 c_1)) rfl ?_
          refine HO.val (v := .bool false) (want_by rfl rfl c_3) rfl (q_pickK false rfl (nd_f2 c_1) rfl) ?_
          refine HO.val (v := .bool false) (want_none) rfl (q_pickK false rfl c_3 rfl) ?_
          refine HO.nil (thenQ_normal (?_))
          refine HW.condF rfl ?_
          refine HW.skip (thenQ_normal (?_))
          replace hS : St F_5 (Ow.box b_2 38 (arrCells r0_2).toArray :: fr) h_9 := hS.perm2 [0] 2 rfl rfl
          exact ⟨F_5, rfl, rfl, rfl, rfl, hK, hS, hG_0, hG_1, hE_gvS, hG_2, hE_gvR, hG_5, hG_7, hM⟩
    · replace hM := hM.2 (of_decide_eq_false c_1)
      refine HO.past (past_by rfl rfl c_1) rfl ?_
      refine HO.past (past_by rfl rfl c_1) rfl ?_
      refine HO.past (past_by rfl rfl c_1) rfl ?_
      refine HO.past (past_by rfl rfl c_1) rfl ?_
      refine HO.past (past_undef rfl rfl) rfl ?_
      refine HO.past (past_undef rfl rfl) rfl ?_
      refine HO.past (past_undef rfl rfl) rfl ?_
      refine HO.past (past_undef rfl rfl) rfl ?_
      refine HO.past (past_by rfl rfl c_1) rfl ?_
      refine HO.val (v := .bool false) (want_none) rfl (q_pickK false rfl c_1 rfl) ?_
      refine HO.val (v := .bool false) (want_none) rfl (q_move rfl) ?_
      refine HO.val (v := .int .i64 r1_1) (want_some rfl rfl) rfl (q_move rfl) ?_
      refine HO.val (v := .bool (!decide (r1_1 = 0))) (want_some rfl rfl) rfl (q_neq rfl rfl) ?_
      refine HO.val (v := .bool (!decide (r1_1 = 0))) (want_some rfl rfl) rfl (q_move rfl) ?_
      refine HO.val (v := .int .i64 r1_1) (want_by rfl rfl (nd_t2 c_1)) rfl (q_move rfl) ?_
      refine HO.val (v := .bool (!decide (r1_1 = 2))) (want_by rfl rfl (nd_t2 c_1)) rfl (q_neq rfl rfl) ?_
      refine HO.val (v := .bool (!decide (r1_1 = 2))) (want_by rfl rfl (nd_t2 c_1)) rfl (q_move rfl) ?_
      rcases Bool.eq_false_or_eq_true (!decide (r1_1 = 2)) with c_4 | c_4
      · replace hM := hM.1 (nd_true c_4)
        refine HO.past (past_by rfl rfl c_4) rfl ?_
        refine HO.past (past_by rfl rfl c_4) rfl ?_
        refine HO.past (past_by rfl rfl c_4) rfl ?_
        refine HO.val (v := .bool true) (want_by rfl rfl (nd_t2 c_1)) rfl (q_pickK true rfl c_4 rfl) ?_
        refine HO.val (v := .bool true) (want_some rfl rfl) rfl (q_pickK true rfl (nd_t2 c_1) rfl) ?_
        refine HO.val (v := .bool true) (want_none) rfl (q_pick rfl rfl) ?_
        refine HO.nil (thenQ_normal (?_))
        refine HW.condT rfl ?_
        refine HW.seq ?_
        refine HW.region ?_
        refine HO.val (v := .bool false) (want_none) rfl (q_assign rfl) ?_
        refine HO.nil (thenQ_normal (?_))
        refine HW.ret (thenQ_ret (?_))
        refine ⟨.inr rfl, .bool false, res1 rfl (rt rfl), ?_⟩
        replace hS : St F_3 (fr) h_7 := hS.perm2 [] 2 rfl rfl
        exact ⟨F_3, false, rfl, hK, hS, hG_0, hG_1, hE_gvS, hG_2, hE_gvR, hG_5, hG_7, hM⟩
      · replace hM := hM.2 (nd_false c_4)
        refine HO.val (v := .agg (e_api_Addr r0_1).toArray) (want_by rfl rfl c_4) rfl (q_loadAgg (cs := (e_api_Addr r0_1)) ta_25 rfl rfl (Blk.cells (k := 17) (hS.box 1 rfl) rfl)) ?_
        refine HO.val (v := .agg (e_api_Addr (false, (default : Ba 16))).toArray) (want_by rfl rfl c_4) rfl (q_build tp_25 rfl) ?_
        refine HO.val (v := .bool (!decide ((r0_1 : T_api_Addr) = (false, (default : Ba 16))))) (want_by rfl rfl c_4) rfl (q_neqAgg (a := r0_1) (b := (false, (default : Ba 16))) (fun a b w => teq_25 9997 a b w) (by kernel_rfl) rfl rfl rfl rfl) ?_
        refine HO.val (v := .bool (!decide ((r0_1 : T_api_Addr) = (false, (default : Ba 16))))) (want_by rfl rfl (nd_t2 c_1)) rfl (q_pickK false rfl c_4 rfl) ?_
        refine HO.val (v := .bool (!decide ((r0_1 : T_api_Addr) = (false, (default : Ba 16))))) (want_some rfl rfl) rfl (q_pickK true rfl (nd_t2 c_1) rfl) ?_
        refine HO.val (v := .bool (!decide ((r0_1 : T_api_Addr) = (false, (default : Ba 16))))) (want_none) rfl (q_pick rfl rfl) ?_
        refine HO.nil (thenQ_normal (?_))
        refine HW.cond (!decide ((r0_1 : T_api_Addr) = (false, (default : Ba 16)))) rfl (fun c_5 => ?_) (fun c_5 => ?_)
        · replace hM := hM.1 (nd_true c_5)
          refine HW.seq ?_
          refine HW.region ?_
          refine HO.val (v := .bool false) (want_none) rfl (q_assign rfl) ?_
          refine HO.nil (thenQ_normal (?_))
          refine HW.ret (thenQ_ret (?_))
          refine ⟨.inr rfl, .bool false, res1 rfl (rt rfl), ?_⟩
          replace hS : St F_3 (fr) h_7 := hS.perm2 [] 2 rfl rfl
          exact ⟨F_3, false, rfl, hK, hS, hG_0, hG_1, hE_gvS, hG_2, hE_gvR, hG_5, hG_7, hM⟩
        · replace hM := hM.2 (nd_false c_5)
          refine HW.skip (thenQ_normal (?_))
          replace hS : St F_3 (Ow.box b_2 38 (arrCells r0_2).toArray :: fr) h_7 := hS.perm2 [0] 2 rfl rfl
          exact ⟨F_3, rfl, rfl, rfl, rfl, hK, hS, hG_0, hG_1, hE_gvS, hG_2, hE_gvR, hG_5, hG_7, hM⟩
  · rintro f_1 h_10 ⟨F_6, e0, e2, e5, e6, hK, hS, hG_0, hG_1, hE_gvS, hG_2, hE_gvR, hG_5, hG_7, hM⟩
    unfold law03_AddrParses_j1 at hM
    refine HW.fr [(0, .string (bs r_2)), (2, .bool false), (5, .pointer (some ⟨b_2, 0, none⟩)), (6, .int .i64 r1_2)] ⟨e0, e2, e5, e6, trivial⟩ ?_
    refine HW.seq ?_
    refine HW.region ?_
    refine HO.val (v := .int .i64 r1_2) (want_none) rfl (q_move rfl) ?_
    refine HO.val (v := .bool (decide (r1_2 = 0))) (want_none) rfl (q_eql rfl rfl) ?_
    refine HO.val (v := .bool (decide (r1_2 = 0))) (want_none) rfl (q_move rfl) ?_
    rcases Bool.eq_false_or_eq_true (decide (r1_2 = 0)) with c_6 | c_6
    · replace hM := hM.1 (of_decide_eq_true c_6)
      refine HO.val (v := .agg (arrCells r0_2).toArray) (want_by rfl rfl c_6) rfl (q_loadAgg (cs := (arrCells r0_2)) ta_38 rfl rfl (Blk.cells (k := 6) (hS.box 0 rfl) rfl)) ?_
      refine HO.call (want_by rfl rfl c_6) rfl (ec en_18 rfl rfl) (ref03_PrintMac_walk (fr := (Ow.box b_2 38 (arrCells r0_2).toArray :: fr)) r0_2 hS hM) ?_
      rintro _ h_11 ⟨F_7, r_5, rfl, hk, hS, hM⟩
      replace hK := hK.trans hk
      replace hG_0 := hG_0.kp hk
      replace hG_1 := hG_1.kp hk
      replace hE_gvS := hE_gvS.kp hk
      replace hG_2 := hG_2.kp hk
      replace hE_gvR := hE_gvR.kp hk
      replace hG_5 := hG_5.kp hk
      replace hG_7 := hG_7.kp hk
      refine HO.val (v := .string (bs r_2)) (want_by rfl rfl c_6) rfl (q_move rfl) ?_
      refine HO.val (v := .bool (decide ((r_5 : Str) = r_2))) (want_by rfl rfl c_6) rfl (q_eqlT rfl rfl) ?_
      refine HO.val (v := .bool (decide ((r_5 : Str) = r_2))) (want_none) rfl (q_pickK true rfl c_6 rfl) ?_
      refine HO.val (v := .bool (decide ((r_5 : Str) = r_2))) (want_none) rfl (q_move rfl) ?_
      rcases Bool.eq_false_or_eq_true (decide ((r_5 : Str) = r_2)) with c_7 | c_7
      · replace hM := hM.1 (of_decide_eq_true c_7)
        refine HO.past (past_by rfl rfl c_7) rfl ?_
        refine HO.past (past_by rfl rfl c_7) rfl ?_
        refine HO.past (past_by rfl rfl c_7) rfl ?_
        refine HO.past (past_undef rfl rfl) rfl ?_
        refine HO.past (past_undef rfl rfl) rfl ?_
        refine HO.past (past_undef rfl rfl) rfl ?_
        refine HO.past (past_by rfl rfl c_7) rfl ?_
        refine HO.val (v := .bool true) (want_none) rfl (q_pickK true rfl c_7 rfl) ?_
        refine HO.val (v := .bool true) (want_none) rfl (q_move rfl) ?_
        refine HO.call (want_some rfl rfl) rfl (ec en_11 rfl rfl) (law03_lives_walk (fr := (Ow.box b_2 38 (arrCells r0_2).toArray :: fr)) gm gvS gbS gvR gbR hS hG_0 hG_1 hE_gvS hG_2 hE_gvR hG_5 hG_7 hD hM) ?_
        rintro _ h_12 ⟨F_8, r_6, rfl, hk, hS, _, _, _, _, _, _, _, hM⟩
        replace hK := hK.trans hk
        replace hG_0 := hG_0.kp hk
        replace hG_1 := hG_1.kp hk
        replace hE_gvS := hE_gvS.kp hk
        replace hG_2 := hG_2.kp hk
        replace hE_gvR := hE_gvR.kp hk
        replace hG_5 := hG_5.kp hk
        replace hG_7 := hG_7.kp hk
        refine HO.val (v := .bool r_6) (want_none) rfl (q_pick rfl rfl) ?_
        refine HO.val (v := .bool r_6) (want_none) rfl (q_assign rfl) ?_
        refine HO.nil (thenQ_normal (?_))
        refine HW.ret (?_)
        refine ⟨.inr rfl, .bool r_6, res1 rfl (rt rfl), ?_⟩
        replace hS : St F_8 (fr) h_12 := hS.perm2 [] 1 rfl rfl
        exact ⟨F_8, r_6, rfl, hK, hS, hG_0, hG_1, hE_gvS, hG_2, hE_gvR, hG_5, hG_7, hM⟩
      · replace hM := hM.2 (of_decide_eq_false c_7)
        refine HO.val (v := .int .i64 r1_2) (want_by rfl rfl c_7) rfl (q_move rfl) ?_
        refine HO.val (v := .bool (decide (r1_2 = 2))) (want_by rfl rfl c_7) rfl (q_eql rfl rfl) ?_
        refine HO.val (v := .bool (decide (r1_2 = 2))) (want_by rfl rfl c_7) rfl (q_move rfl) ?_
        rcases Bool.eq_false_or_eq_true (decide (r1_2 = 2)) with c_8 | c_8
        · replace hM := hM.1 (of_decide_eq_true c_8)
          refine HO.val (v := .agg (arrCells r0_2).toArray) (want_by rfl rfl c_8) rfl (q_loadAgg (cs := (arrCells r0_2)) ta_38 rfl rfl (Blk.cells (k := 6) (hS.box 0 rfl) rfl)) ?_
          refine HO.val (v := .agg (arrCells (mkB 6 [0, 0, 0, 0, 0, 0])).toArray) (want_by rfl rfl c_8) rfl ((q_buildA (cells := #[.int .u8 0, .int .u8 0, .int .u8 0, .int .u8 0, .int .u8 0, .int .u8 0]) tb_38 rfl).of_eq (mkB_agg (n := 6) (l := [0, 0, 0, 0, 0, 0]) rfl ⟨⟨by decide, by decide⟩, ⟨⟨by decide, by decide⟩, ⟨⟨by decide, by decide⟩, ⟨⟨by decide, by decide⟩, ⟨⟨by decide, by decide⟩, ⟨⟨by decide, by decide⟩, trivial⟩⟩⟩⟩⟩⟩)) ?_
          refine HO.val (v := .bool (decide ((r0_2 : Ba 6) = mkB 6 [0, 0, 0, 0, 0, 0]))) (want_by rfl rfl c_8) rfl (q_eqlAgg (a := r0_2) (b := mkB 6 [0, 0, 0, 0, 0, 0]) (fun a b w => teq_38 9998 a b w) (by kernel_rfl) rfl rfl rfl rfl) ?_
          refine HO.val (v := .bool (decide ((r0_2 : Ba 6) = mkB 6 [0, 0, 0, 0, 0, 0]))) (want_by rfl rfl c_7) rfl (q_pickK true rfl c_8 rfl) ?_
          refine HO.val (v := .bool (decide ((r0_2 : Ba 6) = mkB 6 [0, 0, 0, 0, 0, 0]))) (want_none) rfl (q_pickK false rfl c_7 rfl) ?_
          refine HO.val (v := .bool (decide ((r0_2 : Ba 6) = mkB 6 [0, 0, 0, 0, 0, 0]))) (want_none) rfl (q_move rfl) ?_
          rcases Bool.eq_false_or_eq_true (decide ((r0_2 : Ba 6) = mkB 6 [0, 0, 0, 0, 0, 0])) with c_9 | c_9
          · replace hM := hM.1 (of_decide_eq_true c_9)
            refine HO.call (want_by rfl rfl c_9) rfl (ec en_11 rfl rfl) (law03_lives_walk (fr := (Ow.box b_2 38 (arrCells r0_2).toArray :: fr)) gm gvS gbS gvR gbR hS hG_0 hG_1 hE_gvS hG_2 hE_gvR hG_5 hG_7 hD hM) ?_
            rintro _ h_13 ⟨F_9, r_7, rfl, hk, hS, _, _, _, _, _, _, _, hM⟩
            replace hK := hK.trans hk
            replace hG_0 := hG_0.kp hk
            replace hG_1 := hG_1.kp hk
            replace hE_gvS := hE_gvS.kp hk
            replace hG_2 := hG_2.kp hk
            replace hE_gvR := hE_gvR.kp hk
            replace hG_5 := hG_5.kp hk
            replace hG_7 := hG_7.kp hk
            refine HO.val (v := .bool r_7) (want_none) rfl (q_pickK true rfl c_9 rfl) ?_
            refine HO.val (v := .bool r_7) (want_none) rfl (q_assign rfl) ?_
            refine HO.nil (thenQ_normal (?_))
            refine HW.ret (?_)
            refine ⟨.inr rfl, .bool r_7, res1 rfl (rt rfl), ?_⟩
            replace hS : St F_9 (fr) h_13 := hS.perm2 [] 1 rfl rfl
            exact ⟨F_9, r_7, rfl, hK, hS, hG_0, hG_1, hE_gvS, hG_2, hE_gvR, hG_5, hG_7, hM⟩
          · replace hM := hM.2 (of_decide_eq_false c_9)
            refine HO.past (past_by rfl rfl c_9) rfl ?_
            refine HO.val (v := .bool false) (want_none) rfl (q_pickK false rfl c_9 rfl) ?_
            refine HO.val (v := .bool false) (want_none) rfl (q_assign rfl) ?_
            refine HO.nil (thenQ_normal (?_))
            refine HW.ret (?_)
            refine ⟨.inr rfl, .bool false, res1 rfl (rt rfl), ?_⟩
            replace hS : St F_7 (fr) h_11 := hS.perm2 [] 1 rfl rfl
            exact ⟨F_7, false, rfl, hK, hS, hG_0, hG_1, hE_gvS, hG_2, hE_gvR, hG_5, hG_7, hM⟩
        · replace hM := hM.2 (of_decide_eq_false c_8)
          refine HO.past (past_by rfl rfl c_8) rfl ?_
          refine HO.past (past_by rfl rfl c_8) rfl ?_
          refine HO.past (past_by rfl rfl c_8) rfl ?_
          refine HO.val (v := .bool false) (want_by rfl rfl c_7) rfl (q_pickK false rfl c_8 rfl) ?_
          refine HO.val (v := .bool false) (want_none) rfl (q_pickK false rfl c_7 rfl) ?_
          refine HO.val (v := .bool false) (want_none) rfl (q_move rfl) ?_
          refine HO.past (past_some rfl rfl) rfl ?_
          refine HO.val (v := .bool false) (want_none) rfl (q_pick rfl rfl) ?_
          refine HO.val (v := .bool false) (want_none) rfl (q_assign rfl) ?_
          refine HO.nil (thenQ_normal (?_))
          refine HW.ret (?_)
          refine ⟨.inr rfl, .bool false, res1 rfl (rt rfl), ?_⟩
          replace hS : St F_7 (fr) h_11 := hS.perm2 [] 1 rfl rfl
          exact ⟨F_7, false, rfl, hK, hS, hG_0, hG_1, hE_gvS, hG_2, hE_gvR, hG_5, hG_7, hM⟩
    · replace hM := hM.2 (of_decide_eq_false c_6)
      refine HO.past (past_by rfl rfl c_6) rfl ?_
      refine HO.past (past_by rfl rfl c_6) rfl ?_
      refine HO.past (past_by rfl rfl c_6) rfl ?_
      refine HO.past (past_by rfl rfl c_6) rfl ?_
      refine HO.val (v := .bool false) (want_none) rfl (q_pickK false rfl c_6 rfl) ?_
      refine HO.val (v := .bool false) (want_none) rfl (q_move rfl) ?_
      refine HO.val (v := .int .i64 r1_2) (want_some rfl rfl) rfl (q_move rfl) ?_
      refine HO.val (v := .bool (decide (r1_2 = 2))) (want_some rfl rfl) rfl (q_eql rfl rfl) ?_
      refine HO.val (v := .bool (decide (r1_2 = 2))) (want_some rfl rfl) rfl (q_move rfl) ?_
      rcases Bool.eq_false_or_eq_true (decide (r1_2 = 2)) with c_10 | c_10
      · replace hM := hM.1 (of_decide_eq_true c_10)
        refine HO.val (v := .agg (arrCells r0_2).toArray) (want_by rfl rfl c_10) rfl (q_loadAgg (cs := (arrCells r0_2)) ta_38 rfl rfl (Blk.cells (k := 6) (hS.box 0 rfl) rfl)) ?_
        refine HO.val (v := .agg (arrCells (mkB 6 [0, 0, 0, 0, 0, 0])).toArray) (want_by rfl rfl c_10) rfl ((q_buildA (cells := #[.int .u8 0, .int .u8 0, .int .u8 0, .int .u8 0, .int .u8 0, .int .u8 0]) tb_38 rfl).of_eq (mkB_agg (n := 6) (l := [0, 0, 0, 0, 0, 0]) rfl ⟨⟨by decide, by decide⟩, ⟨⟨by decide, by decide⟩, ⟨⟨by decide, by decide⟩, ⟨⟨by decide, by decide⟩, ⟨⟨by decide, by decide⟩, ⟨⟨by decide, by decide⟩, trivial⟩⟩⟩⟩⟩⟩)) ?_
        refine HO.val (v := .bool (decide ((r0_2 : Ba 6) = mkB 6 [0, 0, 0, 0, 0, 0]))) (want_by rfl rfl c_10) rfl (q_eqlAgg (a := r0_2) (b := mkB 6 [0, 0, 0, 0, 0, 0]) (fun a b w => teq_38 9998 a b w) (by kernel_rfl) rfl rfl rfl rfl) ?_
        refine HO.val (v := .bool (decide ((r0_2 : Ba 6) = mkB 6 [0, 0, 0, 0, 0, 0]))) (want_some rfl rfl) rfl (q_pickK true rfl c_10 rfl) ?_
        refine HO.val (v := .bool (decide ((r0_2 : Ba 6) = mkB 6 [0, 0, 0, 0, 0, 0]))) (want_none) rfl (q_pick rfl rfl) ?_
        refine HO.val (v := .bool (decide ((r0_2 : Ba 6) = mkB 6 [0, 0, 0, 0, 0, 0]))) (want_none) rfl (q_move rfl) ?_
        rcases Bool.eq_false_or_eq_true (decide ((r0_2 : Ba 6) = mkB 6 [0, 0, 0, 0, 0, 0])) with c_11 | c_11
        · replace hM := hM.1 (of_decide_eq_true c_11)
          refine HO.call (want_by rfl rfl c_11) rfl (ec en_11 rfl rfl) (law03_lives_walk (fr := (Ow.box b_2 38 (arrCells r0_2).toArray :: fr)) gm gvS gbS gvR gbR hS hG_0 hG_1 hE_gvS hG_2 hE_gvR hG_5 hG_7 hD hM) ?_
          rintro _ h_14 ⟨F_10, r_8, rfl, hk, hS, _, _, _, _, _, _, _, hM⟩
          replace hK := hK.trans hk
          replace hG_0 := hG_0.kp hk
          replace hG_1 := hG_1.kp hk
          replace hE_gvS := hE_gvS.kp hk
          replace hG_2 := hG_2.kp hk
          replace hE_gvR := hE_gvR.kp hk
          replace hG_5 := hG_5.kp hk
          replace hG_7 := hG_7.kp hk
          refine HO.val (v := .bool r_8) (want_none) rfl (q_pickK true rfl c_11 rfl) ?_
          refine HO.val (v := .bool r_8) (want_none) rfl (q_assign rfl) ?_
          refine HO.nil (thenQ_normal (?_))
          refine HW.ret (?_)
          refine ⟨.inr rfl, .bool r_8, res1 rfl (rt rfl), ?_⟩
          replace hS : St F_10 (fr) h_14 := hS.perm2 [] 1 rfl rfl
          exact ⟨F_10, r_8, rfl, hK, hS, hG_0, hG_1, hE_gvS, hG_2, hE_gvR, hG_5, hG_7, hM⟩
        · replace hM := hM.2 (of_decide_eq_false c_11)
          refine HO.past (past_by rfl rfl c_11) rfl ?_
          refine HO.val (v := .bool false) (want_none) rfl (q_pickK false rfl c_11 rfl) ?_
          refine HO.val (v := .bool false) (want_none) rfl (q_assign rfl) ?_
          refine HO.nil (thenQ_normal (?_))
          refine HW.ret (?_)
          refine ⟨.inr rfl, .bool false, res1 rfl (rt rfl), ?_⟩
          replace hS : St F_6 (fr) h_10 := hS.perm2 [] 1 rfl rfl
          exact ⟨F_6, false, rfl, hK, hS, hG_0, hG_1, hE_gvS, hG_2, hE_gvR, hG_5, hG_7, hM⟩
      · replace hM := hM.2 (of_decide_eq_false c_10)
        refine HO.past (past_by rfl rfl c_10) rfl ?_
        refine HO.past (past_by rfl rfl c_10) rfl ?_
        refine HO.past (past_by rfl rfl c_10) rfl ?_
        refine HO.val (v := .bool false) (want_some rfl rfl) rfl (q_pickK false rfl c_10 rfl) ?_
        refine HO.val (v := .bool false) (want_none) rfl (q_pick rfl rfl) ?_
        refine HO.val (v := .bool false) (want_none) rfl (q_move rfl) ?_
        refine HO.past (past_some rfl rfl) rfl ?_
        refine HO.val (v := .bool false) (want_none) rfl (q_pick rfl rfl) ?_
        refine HO.val (v := .bool false) (want_none) rfl (q_assign rfl) ?_
        refine HO.nil (thenQ_normal (?_))
        refine HW.ret (?_)
        refine ⟨.inr rfl, .bool false, res1 rfl (rt rfl), ?_⟩
        replace hS : St F_6 (fr) h_10 := hS.perm2 [] 1 rfl rfl
        exact ⟨F_6, false, rfl, hK, hS, hG_0, hG_1, hE_gvS, hG_2, hE_gvR, hG_5, hG_7, hM⟩
end Go.Wk
