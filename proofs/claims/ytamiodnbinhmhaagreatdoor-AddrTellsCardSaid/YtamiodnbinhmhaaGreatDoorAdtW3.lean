/- Walks of Addr laws. -/
import Derived.Test.YtamiodnbinhmhaaGreatDoorAdtW2
set_option linter.unusedSimpArgs false
set_option linter.unusedVariables false
set_option linter.unusedSectionVars false
namespace Go.Wk
open Go.HL
open Go.Proofs hiding encI
variable [DM]

def law03_lives_W (Q : Bool → Prop) : Prop :=
  addr_Parse_W [102, 102, 48, 50, 58, 58, 49] (fun r0_1 r1_1 => addr_Ip4_W 239 129 2 3 (fun r_2 => addr_Mac_W r_2 (fun r0_2 r1_2 => (r1_1 = 0 → (r0_1.1 = true → ((b8 r0_1.2 0) = 255 → ((b8 r0_1.2 15) = 1 → addr_Print_W r0_1 (fun r_3 => ((r_3 : Str) = [102, 102, 48, 50, 58, 58, 49] → (r1_2 = true → addr_PrintMac_W r0_2 (fun r_4 => Q (decide ((r_4 : Str) = [48, 49, 58, 48, 48, 58, 53, 101, 58, 48, 49, 58, 48, 50, 58, 48, 51])))) ∧ (r1_2 = false → Q false)) ∧ (¬ ((r_3 : Str) = [102, 102, 48, 50, 58, 58, 49]) → Q false))) ∧ (¬ ((b8 r0_1.2 15) = 1) → Q false)) ∧ (¬ ((b8 r0_1.2 0) = 255) → Q false)) ∧ (r0_1.1 = false → Q false)) ∧ (¬ (r1_1 = 0) → Q false))))
set_option maxHeartbeats 40000000 in
set_option maxRecDepth 100000 in
theorem law03_lives_walk {F : Fz} {fr : List Ow} {h0 : Heap} (gm : Int) (gvS : Value) (gbS : Bool) (gvR : Value) (gbR : Bool) (hS : St F (fr) h0) (hG_0 : RoF (Ow.box 0 3 #[.int .i64 gm]) F h0) (hG_1 : RoF (Ow.box 1 53 #[gvS]) F h0) (hE_gvS : ErrF gbS gvS F h0) (hG_2 : RoF (Ow.box 2 53 #[gvR]) F h0) (hE_gvR : ErrF gbR gvR F h0) (hG_3 : RoF (Ow.box 3 114 (tab10 ()).toArray) F h0) (hG_7 : RoF (Ow.box 7 124 (arrCells tab64).toArray) F h0) (hD : DM.on = false) {Q : Bool → Prop} (hM : law03_lives_W Q) :
    HC Tryz.prog 22 #[] h0 fun u h' => ∃ (F' : Fz) (r_1 : Bool), u = .bool r_1 ∧ Kp F h0 F' h' ∧ St F' (fr) h' ∧ (RoF (Ow.box 0 3 #[.int .i64 gm]) F' h') ∧ (RoF (Ow.box 1 53 #[gvS]) F' h') ∧ (ErrF gbS gvS F' h') ∧ (RoF (Ow.box 2 53 #[gvR]) F' h') ∧ (ErrF gbR gvR F' h') ∧ (RoF (Ow.box 3 114 (tab10 ()).toArray) F' h') ∧ (RoF (Ow.box 7 124 (arrCells tab64).toArray) F' h') ∧ Q r_1 := by
  unfold law03_lives_W at hM
  have hK := Kp.refl F h0
  refine HC.of_HW (n := 45) Tryz.func22 rfl rfl (Nat.le_of_ble_eq_true rfl) ?_
  refine HW.seq ?_
  refine HW.region ?_
  refine HO.val (v := .bool false) (want_none) rfl (q_assign rfl) ?_
  refine HO.nil (thenQ_normal (?_))
  refine HW.seq ?_
  refine HW.region ?_
  refine HO.call (want_none) rfl (ec en_27 rfl rfl) (addr_Parse_walk (fr := (fr)) [102, 102, 48, 50, 58, 58, 49] gm gvS gbS gvR gbR hS hG_0 hG_1 hE_gvS hG_2 hE_gvR hG_3 hG_7 hD hM) ?_
  rintro _ h_1 ⟨F_1, r0_1, r1_1, rfl, hk, hS, _, _, _, _, _, _, _, hM⟩
  replace hK := hK.trans hk
  replace hG_0 := hG_0.kp hk
  replace hG_1 := hG_1.kp hk
  replace hE_gvS := hE_gvS.kp hk
  replace hG_2 := hG_2.kp hk
  replace hE_gvR := hE_gvR.kp hk
  replace hG_3 := hG_3.kp hk
  replace hG_7 := hG_7.kp hk
  refine HO.val (v := .tuple #[.agg (e_api_Addr r0_1).toArray, .int .i64 r1_1]) (want_none) rfl (q_move rfl) ?_
  refine HO.val (v := .agg (e_api_Addr r0_1).toArray) (want_none) rfl (q_extract rfl rfl) ?_
  refine HO.val (v := .int .i64 r1_1) (want_none) rfl (q_extract rfl rfl) ?_
  refine HO.eff (want_none) rfl (st_alloc (c := (e_api_Addr (false, (default : Ba 16))).toArray) hS tz_24 rfl) ?_
  rintro _ h_2 ⟨b_1, rfl, hS, hk⟩
  replace hK := hK.trans hk
  replace hG_0 := hG_0.kp hk
  replace hG_1 := hG_1.kp hk
  replace hE_gvS := hE_gvS.kp hk
  replace hG_2 := hG_2.kp hk
  replace hE_gvR := hE_gvR.kp hk
  replace hG_3 := hG_3.kp hk
  replace hG_7 := hG_7.kp hk
  refine HO.sto (want_none) rfl (st_storeAgg (c' := (e_api_Addr r0_1).toArray) hS (i := 0) rfl ta_24 rfl rfl rfl (one_e_api_Addr _) (Nat.le_of_ble_eq_true rfl) rfl) ?_
  rintro h_3 ⟨hS, hk⟩
  replace hS : St F_1 (Ow.box b_1 24 (e_api_Addr r0_1).toArray :: fr) h_3 := hS
  replace hK := hK.trans hk
  replace hG_0 := hG_0.kp hk
  replace hG_1 := hG_1.kp hk
  replace hE_gvS := hE_gvS.kp hk
  replace hG_2 := hG_2.kp hk
  replace hE_gvR := hE_gvR.kp hk
  replace hG_3 := hG_3.kp hk
  replace hG_7 := hG_7.kp hk
  refine HO.val (v := .int .i64 r1_1) (want_none) rfl (q_assign rfl) ?_
  refine HO.nil (thenQ_normal (?_))
  refine HW.seq ?_
  refine HW.region ?_
  refine HO.call (want_none) rfl (ec en_23 rfl rfl) (addr_Ip4_walk (fr := (Ow.box b_1 24 (e_api_Addr r0_1).toArray :: fr)) 239 129 2 3 hS hM) ?_
  rintro _ h_4 ⟨F_2, r_2, rfl, hk, hS, hM⟩
  replace hK := hK.trans hk
  replace hG_0 := hG_0.kp hk
  replace hG_1 := hG_1.kp hk
  replace hE_gvS := hE_gvS.kp hk
  replace hG_2 := hG_2.kp hk
  replace hE_gvR := hE_gvR.kp hk
  replace hG_3 := hG_3.kp hk
  replace hG_7 := hG_7.kp hk
  refine HO.call (want_none) rfl (ec en_7 rfl rfl) (addr_Mac_walk (fr := (Ow.box b_1 24 (e_api_Addr r0_1).toArray :: fr)) r_2 hS hM) ?_
  rintro _ h_5 ⟨F_3, r0_2, r1_2, rfl, hk, hS, hM⟩
  replace hK := hK.trans hk
  replace hG_0 := hG_0.kp hk
  replace hG_1 := hG_1.kp hk
  replace hE_gvS := hE_gvS.kp hk
  replace hG_2 := hG_2.kp hk
  replace hE_gvR := hE_gvR.kp hk
  replace hG_3 := hG_3.kp hk
  replace hG_7 := hG_7.kp hk
  refine HO.val (v := .tuple #[.agg (arrCells r0_2).toArray, .bool r1_2]) (want_none) rfl (q_move rfl) ?_
  refine HO.val (v := .agg (arrCells r0_2).toArray) (want_none) rfl (q_extract rfl rfl) ?_
  refine HO.val (v := .bool r1_2) (want_none) rfl (q_extract rfl rfl) ?_
  refine HO.eff (want_none) rfl (st_alloc (c := (arrCells (default : Ba 6)).toArray) hS tz_28 rfl) ?_
  rintro _ h_6 ⟨b_2, rfl, hS, hk⟩
  replace hK := hK.trans hk
  replace hG_0 := hG_0.kp hk
  replace hG_1 := hG_1.kp hk
  replace hE_gvS := hE_gvS.kp hk
  replace hG_2 := hG_2.kp hk
  replace hE_gvR := hE_gvR.kp hk
  replace hG_3 := hG_3.kp hk
  replace hG_7 := hG_7.kp hk
  refine HO.sto (want_none) rfl (st_storeAgg (c' := (arrCells r0_2).toArray) hS (i := 0) rfl ta_28 rfl rfl rfl (one_arr _) (Nat.le_of_ble_eq_true rfl) rfl) ?_
  rintro h_7 ⟨hS, hk⟩
  replace hS : St F_3 (Ow.box b_2 28 (arrCells r0_2).toArray :: Ow.box b_1 24 (e_api_Addr r0_1).toArray :: fr) h_7 := hS
  replace hK := hK.trans hk
  replace hG_0 := hG_0.kp hk
  replace hG_1 := hG_1.kp hk
  replace hE_gvS := hE_gvS.kp hk
  replace hG_2 := hG_2.kp hk
  replace hE_gvR := hE_gvR.kp hk
  replace hG_3 := hG_3.kp hk
  replace hG_7 := hG_7.kp hk
  refine HO.val (v := .bool r1_2) (want_none) rfl (q_assign rfl) ?_
  refine HO.nil (thenQ_normal (?_))
  refine HW.seq ?_
  refine HW.region ?_
  refine HO.val (v := .int .i64 r1_1) (want_none) rfl (q_move rfl) ?_
  refine HO.val (v := .bool (decide (r1_1 = 0))) (want_none) rfl (q_eql rfl rfl) ?_
  refine HO.val (v := .bool (decide (r1_1 = 0))) (want_none) rfl (q_move rfl) ?_
  rcases Bool.eq_false_or_eq_true (decide (r1_1 = 0)) with c_1 | c_1
  · replace hM := hM.1 (of_decide_eq_true c_1)
    refine HO.val (v := .pointer (some ⟨b_1, 0, none⟩)) (want_by rfl rfl c_1) rfl (q_fieldAddr fa_24_0 rfl rfl) ?_
    refine HO.val (v := .bool r0_1.1) (want_by rfl rfl c_1) rfl (q_load to_4 rfl (Blk.cell (hS.box 1 rfl) rfl)) ?_
    refine HO.val (v := .bool r0_1.1) (want_none) rfl (q_pickK true rfl c_1 rfl) ?_
    refine HO.val (v := .bool r0_1.1) (want_none) rfl (q_move rfl) ?_
    rcases Bool.eq_false_or_eq_true r0_1.1 with c_2 | c_2
    · replace hM := hM.1 c_2
      refine HO.val (v := .pointer (some ⟨b_1, 1, none⟩)) (want_by rfl rfl c_2) rfl (q_fieldAddr fa_24_1 rfl rfl) ?_
      refine HO.val (v := .pointer (some ⟨b_1, 1, none⟩)) (want_by rfl rfl c_2) rfl (q_idxA (o := 1) (t := 0) tr_22 rfl rfl ⟨by decide, by decide⟩) ?_
      refine HO.val (v := .int .u8 (b8 r0_1.2 0)) (want_by rfl rfl c_2) rfl (q_load to_5 rfl (Blk.cell (hS.box 1 rfl) rfl)) ?_
      refine HO.val (v := .bool (decide ((b8 r0_1.2 0) = 255))) (want_by rfl rfl c_2) rfl (q_eql rfl rfl) ?_
      refine HO.val (v := .bool (decide ((b8 r0_1.2 0) = 255))) (want_none) rfl (q_pickK true rfl c_2 rfl) ?_
      refine HO.val (v := .bool (decide ((b8 r0_1.2 0) = 255))) (want_none) rfl (q_move rfl) ?_
      rcases Bool.eq_false_or_eq_true (decide ((b8 r0_1.2 0) = 255)) with c_3 | c_3
      · replace hM := hM.1 (of_decide_eq_true c_3)
        refine HO.val (v := .pointer (some ⟨b_1, 1, none⟩)) (want_by rfl rfl c_3) rfl (q_fieldAddr fa_24_1 rfl rfl) ?_
        refine HO.val (v := .pointer (some ⟨b_1, 16, none⟩)) (want_by rfl rfl c_3) rfl (q_idxA (o := 1) (t := 15) tr_22 rfl rfl ⟨by decide, by decide⟩) ?_
        refine HO.val (v := .int .u8 (b8 r0_1.2 15)) (want_by rfl rfl c_3) rfl (q_load to_5 rfl (Blk.cell (hS.box 1 rfl) rfl)) ?_
        refine HO.val (v := .bool (decide ((b8 r0_1.2 15) = 1))) (want_by rfl rfl c_3) rfl (q_eql rfl rfl) ?_
        refine HO.val (v := .bool (decide ((b8 r0_1.2 15) = 1))) (want_none) rfl (q_pickK true rfl c_3 rfl) ?_
        refine HO.val (v := .bool (decide ((b8 r0_1.2 15) = 1))) (want_none) rfl (q_move rfl) ?_
        rcases Bool.eq_false_or_eq_true (decide ((b8 r0_1.2 15) = 1)) with c_4 | c_4
        · replace hM := hM.1 (of_decide_eq_true c_4)
          refine HO.val (v := .agg (e_api_Addr r0_1).toArray) (want_by rfl rfl c_4) rfl (q_loadAgg (cs := (e_api_Addr r0_1)) ta_24 rfl rfl (Blk.cells (k := 17) (hS.box 1 rfl) rfl)) ?_
          refine HO.call (want_by rfl rfl c_4) rfl (ec en_28 rfl rfl) (addr_Print_walk (fr := (Ow.box b_2 28 (arrCells r0_2).toArray :: Ow.box b_1 24 (e_api_Addr r0_1).toArray :: fr)) r0_1 hS hG_3 hG_7 hD hM) ?_
          rintro _ h_8 ⟨F_4, r_3, rfl, hk, hS, _, _, hM⟩
          replace hK := hK.trans hk
          replace hG_0 := hG_0.kp hk
          replace hG_1 := hG_1.kp hk
          replace hE_gvS := hE_gvS.kp hk
          replace hG_2 := hG_2.kp hk
          replace hE_gvR := hE_gvR.kp hk
          replace hG_3 := hG_3.kp hk
          replace hG_7 := hG_7.kp hk
          refine HO.val (v := .bool (decide ((r_3 : Str) = [102, 102, 48, 50, 58, 58, 49]))) (want_by rfl rfl c_4) rfl (q_eqlT rfl rfl) ?_
          refine HO.val (v := .bool (decide ((r_3 : Str) = [102, 102, 48, 50, 58, 58, 49]))) (want_none) rfl (q_pickK true rfl c_4 rfl) ?_
          refine HO.val (v := .bool (decide ((r_3 : Str) = [102, 102, 48, 50, 58, 58, 49]))) (want_none) rfl (q_move rfl) ?_
          rcases Bool.eq_false_or_eq_true (decide ((r_3 : Str) = [102, 102, 48, 50, 58, 58, 49])) with c_5 | c_5
          · replace hM := hM.1 (of_decide_eq_true c_5)
            refine HO.val (v := .bool r1_2) (want_by rfl rfl c_5) rfl (q_move rfl) ?_
            refine HO.val (v := .bool r1_2) (want_none) rfl (q_pickK true rfl c_5 rfl) ?_
            refine HO.val (v := .bool r1_2) (want_none) rfl (q_move rfl) ?_
            rcases Bool.eq_false_or_eq_true r1_2 with c_6 | c_6
            · replace hM := hM.1 c_6
              refine HO.val (v := .agg (arrCells r0_2).toArray) (want_by rfl rfl c_6) rfl (q_loadAgg (cs := (arrCells r0_2)) ta_28 rfl rfl (Blk.cells (k := 6) (hS.box 0 rfl) rfl)) ?_
              refine HO.call (want_by rfl rfl c_6) rfl (ec en_29 rfl rfl) (addr_PrintMac_walk (fr := (Ow.box b_2 28 (arrCells r0_2).toArray :: Ow.box b_1 24 (e_api_Addr r0_1).toArray :: fr)) r0_2 hS hD hM) ?_
              rintro _ h_9 ⟨F_5, r_4, rfl, hk, hS, hM⟩
              replace hK := hK.trans hk
              replace hG_0 := hG_0.kp hk
              replace hG_1 := hG_1.kp hk
              replace hE_gvS := hE_gvS.kp hk
              replace hG_2 := hG_2.kp hk
              replace hE_gvR := hE_gvR.kp hk
              replace hG_3 := hG_3.kp hk
              replace hG_7 := hG_7.kp hk
              refine HO.val (v := .bool (decide ((r_4 : Str) = [48, 49, 58, 48, 48, 58, 53, 101, 58, 48, 49, 58, 48, 50, 58, 48, 51]))) (want_by rfl rfl c_6) rfl (q_eqlT rfl rfl) ?_
              refine HO.val (v := .bool (decide ((r_4 : Str) = [48, 49, 58, 48, 48, 58, 53, 101, 58, 48, 49, 58, 48, 50, 58, 48, 51]))) (want_none) rfl (q_pickK true rfl c_6 rfl) ?_
              refine HO.val (v := .bool (decide ((r_4 : Str) = [48, 49, 58, 48, 48, 58, 53, 101, 58, 48, 49, 58, 48, 50, 58, 48, 51]))) (want_none) rfl (q_assign rfl) ?_
              refine HO.nil (thenQ_normal (?_))
              refine HW.ret (?_)
              refine ⟨.inr rfl, .bool (decide ((r_4 : Str) = [48, 49, 58, 48, 48, 58, 53, 101, 58, 48, 49, 58, 48, 50, 58, 48, 51])), res1 rfl (rt rfl), ?_⟩
              replace hS : St F_5 (fr) h_9 := hS.perm2 [] 2 rfl rfl
              exact ⟨F_5, decide ((r_4 : Str) = [48, 49, 58, 48, 48, 58, 53, 101, 58, 48, 49, 58, 48, 50, 58, 48, 51]), rfl, hK, hS, hG_0, hG_1, hE_gvS, hG_2, hE_gvR, hG_3, hG_7, hM⟩
            · replace hM := hM.2 c_6
              refine HO.past (past_by rfl rfl c_6) rfl ?_
              refine HO.past (past_by rfl rfl c_6) rfl ?_
              refine HO.past (past_by rfl rfl c_6) rfl ?_
              refine HO.val (v := .bool false) (want_none) rfl (q_pickK false rfl c_6 rfl) ?_
              refine HO.val (v := .bool false) (want_none) rfl (q_assign rfl) ?_
              refine HO.nil (thenQ_normal (?_))
              refine HW.ret (?_)
              refine ⟨.inr rfl, .bool false, res1 rfl (rt rfl), ?_⟩
              replace hS : St F_4 (fr) h_8 := hS.perm2 [] 2 rfl rfl
              exact ⟨F_4, false, rfl, hK, hS, hG_0, hG_1, hE_gvS, hG_2, hE_gvR, hG_3, hG_7, hM⟩
          · replace hM := hM.2 (of_decide_eq_false c_5)
            refine HO.past (past_by rfl rfl c_5) rfl ?_
            refine HO.val (v := .bool false) (want_none) rfl (q_pickK false rfl c_5 rfl) ?_
            refine HO.val (v := .bool false) (want_none) rfl (q_move rfl) ?_
            refine HO.past (past_some rfl rfl) rfl ?_
            refine HO.past (past_some rfl rfl) rfl ?_
            refine HO.past (past_some rfl rfl) rfl ?_
            refine HO.val (v := .bool false) (want_none) rfl (q_pick rfl rfl) ?_
            refine HO.val (v := .bool false) (want_none) rfl (q_assign rfl) ?_
            refine HO.nil (thenQ_normal (?_))
            refine HW.ret (?_)
            refine ⟨.inr rfl, .bool false, res1 rfl (rt rfl), ?_⟩
            replace hS : St F_4 (fr) h_8 := hS.perm2 [] 2 rfl rfl
            exact ⟨F_4, false, rfl, hK, hS, hG_0, hG_1, hE_gvS, hG_2, hE_gvR, hG_3, hG_7, hM⟩
        · replace hM := hM.2 (of_decide_eq_false c_4)
          refine HO.past (past_by rfl rfl c_4) rfl ?_
          refine HO.past (past_by rfl rfl c_4) rfl ?_
          refine HO.past (past_by rfl rfl c_4) rfl ?_
          refine HO.val (v := .bool false) (want_none) rfl (q_pickK false rfl c_4 rfl) ?_
          refine HO.val (v := .bool false) (want_none) rfl (q_move rfl) ?_
          refine HO.past (past_some rfl rfl) rfl ?_
          refine HO.val (v := .bool false) (want_none) rfl (q_pick rfl rfl) ?_
          refine HO.val (v := .bool false) (want_none) rfl (q_move rfl) ?_
          refine HO.past (past_some rfl rfl) rfl ?_
          refine HO.past (past_some rfl rfl) rfl ?_
          refine HO.past (past_some rfl rfl) rfl ?_
          refine HO.val (v := .bool false) (want_none) rfl (q_pick rfl rfl) ?_
          refine HO.val (v := .bool false) (want_none) rfl (q_assign rfl) ?_
          refine HO.nil (thenQ_normal (?_))
          refine HW.ret (?_)
          refine ⟨.inr rfl, .bool false, res1 rfl (rt rfl), ?_⟩
          replace hS : St F_3 (fr) h_7 := hS.perm2 [] 2 rfl rfl
          exact ⟨F_3, false, rfl, hK, hS, hG_0, hG_1, hE_gvS, hG_2, hE_gvR, hG_3, hG_7, hM⟩
      · replace hM := hM.2 (of_decide_eq_false c_3)
        refine HO.past (past_by rfl rfl c_3) rfl ?_
        refine HO.past (past_by rfl rfl c_3) rfl ?_
        refine HO.past (past_by rfl rfl c_3) rfl ?_
        refine HO.past (past_by rfl rfl c_3) rfl ?_
        refine HO.val (v := .bool false) (want_none) rfl (q_pickK false rfl c_3 rfl) ?_
        refine HO.val (v := .bool false) (want_none) rfl (q_move rfl) ?_
        refine HO.past (past_some rfl rfl) rfl ?_
        refine HO.past (past_some rfl rfl) rfl ?_
        refine HO.past (past_some rfl rfl) rfl ?_
        refine HO.val (v := .bool false) (want_none) rfl (q_pick rfl rfl) ?_
        refine HO.val (v := .bool false) (want_none) rfl (q_move rfl) ?_
        refine HO.past (past_some rfl rfl) rfl ?_
        refine HO.val (v := .bool false) (want_none) rfl (q_pick rfl rfl) ?_
        refine HO.val (v := .bool false) (want_none) rfl (q_move rfl) ?_
        refine HO.past (past_some rfl rfl) rfl ?_
        refine HO.past (past_some rfl rfl) rfl ?_
        refine HO.past (past_some rfl rfl) rfl ?_
        refine HO.val (v := .bool false) (want_none) rfl (q_pick rfl rfl) ?_
        refine HO.val (v := .bool false) (want_none) rfl (q_assign rfl) ?_
        refine HO.nil (thenQ_normal (?_))
        refine HW.ret (?_)
        refine ⟨.inr rfl, .bool false, res1 rfl (rt rfl), ?_⟩
        replace hS : St F_3 (fr) h_7 := hS.perm2 [] 2 rfl rfl
        exact ⟨F_3, false, rfl, hK, hS, hG_0, hG_1, hE_gvS, hG_2, hE_gvR, hG_3, hG_7, hM⟩
    · replace hM := hM.2 c_2
      refine HO.past (past_by rfl rfl c_2) rfl ?_
      refine HO.past (past_by rfl rfl c_2) rfl ?_
      refine HO.past (past_by rfl rfl c_2) rfl ?_
      refine HO.past (past_by rfl rfl c_2) rfl ?_
      refine HO.val (v := .bool false) (want_none) rfl (q_pickK false rfl c_2 rfl) ?_
      refine HO.val (v := .bool false) (want_none) rfl (q_move rfl) ?_
      refine HO.past (past_some rfl rfl) rfl ?_
      refine HO.past (past_some rfl rfl) rfl ?_
      refine HO.past (past_some rfl rfl) rfl ?_
      refine HO.past (past_some rfl rfl) rfl ?_
      refine HO.val (v := .bool false) (want_none) rfl (q_pick rfl rfl) ?_
      refine HO.val (v := .bool false) (want_none) rfl (q_move rfl) ?_
      refine HO.past (past_some rfl rfl) rfl ?_
      refine HO.past (past_some rfl rfl) rfl ?_
      refine HO.past (past_some rfl rfl) rfl ?_
      refine HO.val (v := .bool false) (want_none) rfl (q_pick rfl rfl) ?_
      refine HO.val (v := .bool false) (want_none) rfl (q_move rfl) ?_
      refine HO.past (past_some rfl rfl) rfl ?_
      refine HO.val (v := .bool false) (want_none) rfl (q_pick rfl rfl) ?_
      refine HO.val (v := .bool false) (want_none) rfl (q_move rfl) ?_
      refine HO.past (past_some rfl rfl) rfl ?_
      refine HO.past (past_some rfl rfl) rfl ?_
      refine HO.past (past_some rfl rfl) rfl ?_
      refine HO.val (v := .bool false) (want_none) rfl (q_pick rfl rfl) ?_
      refine HO.val (v := .bool false) (want_none) rfl (q_assign rfl) ?_
      refine HO.nil (thenQ_normal (?_))
      refine HW.ret (?_)
      refine ⟨.inr rfl, .bool false, res1 rfl (rt rfl), ?_⟩
      replace hS : St F_3 (fr) h_7 := hS.perm2 [] 2 rfl rfl
      exact ⟨F_3, false, rfl, hK, hS, hG_0, hG_1, hE_gvS, hG_2, hE_gvR, hG_3, hG_7, hM⟩
  · replace hM := hM.2 (of_decide_eq_false c_1)
    refine HO.past (past_by rfl rfl c_1) rfl ?_
    refine HO.past (past_by rfl rfl c_1) rfl ?_
    refine HO.val (v := .bool false) (want_none) rfl (q_pickK false rfl c_1 rfl) ?_
    refine HO.val (v := .bool false) (want_none) rfl (q_move rfl) ?_
    refine HO.past (past_some rfl rfl) rfl ?_
    refine HO.past (past_some rfl rfl) rfl ?_
    refine HO.past (past_some rfl rfl) rfl ?_
    refine HO.past (past_some rfl rfl) rfl ?_
    refine HO.val (v := .bool false) (want_none) rfl (q_pick rfl rfl) ?_
    refine HO.val (v := .bool false) (want_none) rfl (q_move rfl) ?_
    refine HO.past (past_some rfl rfl) rfl ?_
    refine HO.past (past_some rfl rfl) rfl ?_
    refine HO.past (past_some rfl rfl) rfl ?_
    refine HO.past (past_some rfl rfl) rfl ?_
    refine HO.val (v := .bool false) (want_none) rfl (q_pick rfl rfl) ?_
    refine HO.val (v := .bool false) (want_none) rfl (q_move rfl) ?_
    refine HO.past (past_some rfl rfl) rfl ?_
    refine HO.past (past_some rfl rfl) rfl ?_
    refine HO.past (past_some rfl rfl) rfl ?_
    refine HO.val (v := .bool false) (want_none) rfl (q_pick rfl rfl) ?_
    refine HO.val (v := .bool false) (want_none) rfl (q_move rfl) ?_
    refine HO.past (past_some rfl rfl) rfl ?_
    refine HO.val (v := .bool false) (want_none) rfl (q_pick rfl rfl) ?_
    refine HO.val (v := .bool false) (want_none) rfl (q_move rfl) ?_
    refine HO.past (past_some rfl rfl) rfl ?_
    refine HO.past (past_some rfl rfl) rfl ?_
    refine HO.past (past_some rfl rfl) rfl ?_
    refine HO.val (v := .bool false) (want_none) rfl (q_pick rfl rfl) ?_
    refine HO.val (v := .bool false) (want_none) rfl (q_assign rfl) ?_
    refine HO.nil (thenQ_normal (?_))
    refine HW.ret (?_)
    refine ⟨.inr rfl, .bool false, res1 rfl (rt rfl), ?_⟩
    replace hS : St F_3 (fr) h_7 := hS.perm2 [] 2 rfl rfl
    exact ⟨F_3, false, rfl, hK, hS, hG_0, hG_1, hE_gvS, hG_2, hE_gvR, hG_3, hG_7, hM⟩

def law03_AddrTells_j1 (Q : Bool → Prop) (r_4 : T_api_Addr) (r0_1 : Ba 6) : Prop :=
  addr_Group_W r_4 (fun r_10 => ref03_Group_W r_4 (fun r_11 => ((r_10 == r_11) = true → addr_Local_W r_4 (fun r_12 => ref03_Local_W r_4 (fun r_13 => ((r_12 == r_13) = true → addr_Ssm_W r_4 (fun r_14 => ref03_Ssm_W r_4 (fun r_15 => ((r_14 == r_15) = true → addr_Scope_W r_4 (fun r_16 => ref03_Scope_W r_4 (fun r_17 => (r_16 = r_17 → ((0 : Int) ≤ ((b8 r0_1 0).tmod 2) ∧ ((b8 r0_1 0).tmod 2) < 256) ∧ (addr_Many_W r0_1 (fun r_18 => ((r_18 == (decide (((u8w ((b8 r0_1 0).tmod 2)).toNat : Int) = 1))) = true → law03_lives_W  (fun r_19 => Q r_19)) ∧ ((r_18 == (decide (((u8w ((b8 r0_1 0).tmod 2)).toNat : Int) = 1))) = false → Q false)))) ∧ (¬ (r_16 = r_17) → Q false)))) ∧ ((r_14 == r_15) = false → Q false)))) ∧ ((r_12 == r_13) = false → Q false)))) ∧ ((r_10 == r_11) = false → Q false)))
def law03_AddrTells_W (a : T_api_Addr) (Q : Bool → Prop) : Prop :=
  addr_Good_W a (fun r_2 => ref03_Good_W a (fun r_3 => ((!(r_2 == r_3)) = true → Q false) ∧ ((!(r_2 == r_3)) = false → ref03_Own_W a (fun r_4 => addr_Mac_W r_4 (fun r0_1 r1_1 => ref03_Mac_W r_4 (fun r0_2 r1_2 => (¬ ((r0_1 : Ba 6) = r0_2) → Q false) ∧ ((r0_1 : Ba 6) = r0_2 → ((!(r1_1 == r1_2)) = true → Q false) ∧ ((!(r1_1 == r1_2)) = false → addr_Bytes_W r_4 (fun r_5 => ref03_Bytes_W r_4 (fun r_6 => (¬ ((r_5 : Str) = r_6) → Q false) ∧ ((r_5 : Str) = r_6 → addr_Zero_W r_4 (fun r_7 => ref03_Zero_W r_4 (fun r_8 => ((!(r_7 == r_8)) = true → Q false) ∧ ((!(r_7 == r_8)) = false → (r1_1 = true → addr_Many_W r0_1 (fun r_9 => ((!r_9) = true → Q false) ∧ ((!r_9) = false → law03_AddrTells_j1 Q r_4 r0_1))) ∧ (r1_1 = false → law03_AddrTells_j1 Q r_4 r0_1)))))))))))))))
set_option maxHeartbeats 40000000 in
set_option maxRecDepth 100000 in
theorem law03_AddrTells_walk {F : Fz} {fr : List Ow} {h0 : Heap} (a : T_api_Addr) (gm : Int) (gvS : Value) (gbS : Bool) (gvR : Value) (gbR : Bool) (hS : St F (fr) h0) (hG_0 : RoF (Ow.box 0 3 #[.int .i64 gm]) F h0) (hG_1 : RoF (Ow.box 1 53 #[gvS]) F h0) (hE_gvS : ErrF gbS gvS F h0) (hG_2 : RoF (Ow.box 2 53 #[gvR]) F h0) (hE_gvR : ErrF gbR gvR F h0) (hG_3 : RoF (Ow.box 3 114 (tab10 ()).toArray) F h0) (hG_7 : RoF (Ow.box 7 124 (arrCells tab64).toArray) F h0) (hD : DM.on = false) {Q : Bool → Prop} (hM : law03_AddrTells_W a Q) :
    HC Tryz.prog 3 #[.agg (e_api_Addr a).toArray] h0 fun u h' => ∃ (F' : Fz) (r_1 : Bool), u = .bool r_1 ∧ Kp F h0 F' h' ∧ St F' (fr) h' ∧ (RoF (Ow.box 0 3 #[.int .i64 gm]) F' h') ∧ (RoF (Ow.box 1 53 #[gvS]) F' h') ∧ (ErrF gbS gvS F' h') ∧ (RoF (Ow.box 2 53 #[gvR]) F' h') ∧ (ErrF gbR gvR F' h') ∧ (RoF (Ow.box 3 114 (tab10 ()).toArray) F' h') ∧ (RoF (Ow.box 7 124 (arrCells tab64).toArray) F' h') ∧ Q r_1 := by
  unfold law03_AddrTells_W at hM
  have hK := Kp.refl F h0
  refine HC.of_HW (n := 92) Tryz.func3 rfl rfl (Nat.le_of_ble_eq_true rfl) ?_
  refine HW.seq ?_
  refine HW.region ?_
  refine HO.eff (want_none) rfl (st_box (c := (e_api_Addr a).toArray) (k' := 17) hS rfl rfl) ?_
  rintro _ h_1 ⟨b_1, rfl, hS, hk⟩
  replace hK := hK.trans hk
  replace hG_0 := hG_0.kp hk
  replace hG_1 := hG_1.kp hk
  replace hE_gvS := hE_gvS.kp hk
  replace hG_2 := hG_2.kp hk
  replace hE_gvR := hE_gvR.kp hk
  replace hG_3 := hG_3.kp hk
  replace hG_7 := hG_7.kp hk
  refine HO.val (v := .bool false) (want_none) rfl (q_assign rfl) ?_
  refine HO.nil (thenQ_normal (?_))
  refine HW.seq ?_
  refine HW.seq ?_
  refine HW.regionA 5 mixed (fun h => (Blk h b_1 (.cells (e_api_Addr a).toArray 24 (0, 0)))) [] (by kernel_rfl) ?_
  refine HA.val (k := 0) (v := .agg (e_api_Addr a).toArray) rfl rfl (by kernel_rfl) (by kernel_rfl) (want_none) rfl (fun _ c201 => q_loadAgg (cs := (e_api_Addr a)) ta_24 rfl rfl (Blk.cells (k := 17) c201 rfl)) ?_
  refine HA.val (k := 2) (v := .agg (e_api_Addr a).toArray) rfl rfl (by kernel_rfl) (by kernel_rfl) (want_none) rfl (fun _ c201 => q_loadAgg (cs := (e_api_Addr a)) ta_24 rfl rfl (Blk.cells (k := 17) c201 rfl)) ?_
  refine HA.one (k := 1) ⟨(hS.box 0 rfl), (Go.Wk.at_nil _ _)⟩ (by kernel_rfl) ?_
  refine HS.call rfl (want_none) rfl (ec en_4 rfl rfl) (addr_Good_walk (fr := (Ow.box b_1 24 (e_api_Addr a).toArray :: fr)) a hS hM) ?_
  rintro _ h_2 ⟨F_1, r_2, rfl, hk, hS, hM⟩
  replace hK := hK.trans hk
  replace hG_0 := hG_0.kp hk
  replace hG_1 := hG_1.kp hk
  replace hE_gvS := hE_gvS.kp hk
  replace hG_2 := hG_2.kp hk
  replace hE_gvR := hE_gvR.kp hk
  replace hG_3 := hG_3.kp hk
  replace hG_7 := hG_7.kp hk
  refine HA.one (k := 3) ⟨(hS.box 0 rfl), (Go.Wk.at_nil _ _)⟩ (by kernel_rfl) ?_
  refine HS.call rfl (want_none) rfl (ec en_5 rfl rfl) (ref03_Good_walk (fr := (Ow.box b_1 24 (e_api_Addr a).toArray :: fr)) a hS hM) ?_
  rintro _ h_3 ⟨F_2, r_3, rfl, hk, hS, hM⟩
  replace hK := hK.trans hk
  replace hG_0 := hG_0.kp hk
  replace hG_1 := hG_1.kp hk
  replace hE_gvS := hE_gvS.kp hk
  replace hG_2 := hG_2.kp hk
  replace hE_gvR := hE_gvR.kp hk
  replace hG_3 := hG_3.kp hk
  replace hG_7 := hG_7.kp hk
  refine HA.val (k := 4) (v := .bool (!(r_2 == r_3))) rfl rfl (by kernel_rfl) (by kernel_rfl) (want_none) rfl (fun _ c201 => q_neqB Tryz.underlying4 rfl rfl) ?_
  refine HA.nil ⟨(hS.box 0 rfl), (Go.Wk.at_nil _ _)⟩ (by kernel_rfl) (thenQ_normal (?_))
  refine HW.cond (!(r_2 == r_3)) rfl (fun c_1 => ?_) (fun c_1 => ?_)
  · replace hM := hM.1 c_1
    refine HW.seq ?_
    refine HW.region ?_
    refine HO.val (v := .bool false) (want_none) rfl (q_assign rfl) ?_
    refine HO.nil (thenQ_normal (?_))
    refine HW.ret (thenQ_ret (?_))
    refine ⟨.inr rfl, .bool false, res1 rfl (rt rfl), ?_⟩
    replace hS : St F_2 (fr) h_3 := hS.perm2 [] 1 rfl rfl
    exact ⟨F_2, false, rfl, hK, hS, hG_0, hG_1, hE_gvS, hG_2, hE_gvR, hG_3, hG_7, hM⟩
  · replace hM := hM.2 c_1
    refine HW.skip (thenQ_normal (?_))
    refine HW.seq ?_
    refine HW.region ?_
    refine HO.val (v := .agg (e_api_Addr a).toArray) (want_none) rfl (q_loadAgg (cs := (e_api_Addr a)) ta_24 rfl rfl (Blk.cells (k := 17) (hS.box 0 rfl) rfl)) ?_
    refine HO.call (want_none) rfl (ec en_6 rfl rfl) (ref03_Own_walk (fr := (Ow.box b_1 24 (e_api_Addr a).toArray :: fr)) a hS hM) ?_
    rintro _ h_4 ⟨F_3, r_4, rfl, hk, hS, hM⟩
    replace hK := hK.trans hk
    replace hG_0 := hG_0.kp hk
    replace hG_1 := hG_1.kp hk
    replace hE_gvS := hE_gvS.kp hk
    replace hG_2 := hG_2.kp hk
    replace hE_gvR := hE_gvR.kp hk
    replace hG_3 := hG_3.kp hk
    replace hG_7 := hG_7.kp hk
    refine HO.sto (want_none) rfl (st_storeAgg (c' := (e_api_Addr r_4).toArray) hS (i := 0) rfl ta_24 rfl rfl rfl (one_e_api_Addr _) (Nat.le_of_ble_eq_true rfl) rfl) ?_
    rintro h_5 ⟨hS, hk⟩
    replace hS : St F_3 (Ow.box b_1 24 (e_api_Addr r_4).toArray :: fr) h_5 := hS
    replace hK := hK.trans hk
    replace hG_0 := hG_0.kp hk
    replace hG_1 := hG_1.kp hk
    replace hE_gvS := hE_gvS.kp hk
    replace hG_2 := hG_2.kp hk
    replace hE_gvR := hE_gvR.kp hk
    replace hG_3 := hG_3.kp hk
    replace hG_7 := hG_7.kp hk
    refine HO.nil (thenQ_normal (?_))
    refine HW.seq ?_
    refine HW.region ?_
    refine HO.val (v := .agg (e_api_Addr r_4).toArray) (want_none) rfl (q_loadAgg (cs := (e_api_Addr r_4)) ta_24 rfl rfl (Blk.cells (k := 17) (hS.box 0 rfl) rfl)) ?_
    refine HO.call (want_none) rfl (ec en_7 rfl rfl) (addr_Mac_walk (fr := (Ow.box b_1 24 (e_api_Addr r_4).toArray :: fr)) r_4 hS hM) ?_
    rintro _ h_6 ⟨F_4, r0_1, r1_1, rfl, hk, hS, hM⟩
    replace hK := hK.trans hk
    replace hG_0 := hG_0.kp hk
    replace hG_1 := hG_1.kp hk
    replace hE_gvS := hE_gvS.kp hk
    replace hG_2 := hG_2.kp hk
    replace hE_gvR := hE_gvR.kp hk
    replace hG_3 := hG_3.kp hk
    replace hG_7 := hG_7.kp hk
    refine HO.val (v := .tuple #[.agg (arrCells r0_1).toArray, .bool r1_1]) (want_none) rfl (q_move rfl) ?_
    refine HO.val (v := .agg (arrCells r0_1).toArray) (want_none) rfl (q_extract rfl rfl) ?_
    refine HO.val (v := .bool r1_1) (want_none) rfl (q_extract rfl rfl) ?_
    refine HO.eff (want_none) rfl (st_alloc (c := (arrCells (default : Ba 6)).toArray) hS tz_28 rfl) ?_
    rintro _ h_7 ⟨b_2, rfl, hS, hk⟩
    replace hK := hK.trans hk
    replace hG_0 := hG_0.kp hk
    replace hG_1 := hG_1.kp hk
    replace hE_gvS := hE_gvS.kp hk
    replace hG_2 := hG_2.kp hk
    replace hE_gvR := hE_gvR.kp hk
    replace hG_3 := hG_3.kp hk
    replace hG_7 := hG_7.kp hk
    refine HO.sto (want_none) rfl (st_storeAgg (c' := (arrCells r0_1).toArray) hS (i := 0) rfl ta_28 rfl rfl rfl (one_arr _) (Nat.le_of_ble_eq_true rfl) rfl) ?_
    rintro h_8 ⟨hS, hk⟩
    replace hS : St F_4 (Ow.box b_2 28 (arrCells r0_1).toArray :: Ow.box b_1 24 (e_api_Addr r_4).toArray :: fr) h_8 := hS
    replace hK := hK.trans hk
    replace hG_0 := hG_0.kp hk
    replace hG_1 := hG_1.kp hk
    replace hE_gvS := hE_gvS.kp hk
    replace hG_2 := hG_2.kp hk
    replace hE_gvR := hE_gvR.kp hk
    replace hG_3 := hG_3.kp hk
    replace hG_7 := hG_7.kp hk
    refine HO.val (v := .bool r1_1) (want_none) rfl (q_assign rfl) ?_
    refine HO.nil (thenQ_normal (?_))
    refine HW.seq ?_
    refine HW.region ?_
    refine HO.val (v := .agg (e_api_Addr r_4).toArray) (want_none) rfl (q_loadAgg (cs := (e_api_Addr r_4)) ta_24 rfl rfl (Blk.cells (k := 17) (hS.box 1 rfl) rfl)) ?_
    refine HO.call (want_none) rfl (ec en_8 rfl rfl) (ref03_Mac_walk (fr := (Ow.box b_2 28 (arrCells r0_1).toArray :: Ow.box b_1 24 (e_api_Addr r_4).toArray :: fr)) r_4 hS hM) ?_
    rintro _ h_9 ⟨F_5, r0_2, r1_2, rfl, hk, hS, hM⟩
    replace hK := hK.trans hk
    replace hG_0 := hG_0.kp hk
    replace hG_1 := hG_1.kp hk
    replace hE_gvS := hE_gvS.kp hk
    replace hG_2 := hG_2.kp hk
    replace hE_gvR := hE_gvR.kp hk
    replace hG_3 := hG_3.kp hk
    replace hG_7 := hG_7.kp hk
    refine HO.val (v := .tuple #[.agg (arrCells r0_2).toArray, .bool r1_2]) (want_none) rfl (q_move rfl) ?_
    refine HO.val (v := .agg (arrCells r0_2).toArray) (want_none) rfl (q_extract rfl rfl) ?_
    refine HO.val (v := .bool r1_2) (want_none) rfl (q_extract rfl rfl) ?_
    refine HO.eff (want_none) rfl (st_alloc (c := (arrCells (default : Ba 6)).toArray) hS tz_28 rfl) ?_
    rintro _ h_10 ⟨b_3, rfl, hS, hk⟩
    replace hK := hK.trans hk
    replace hG_0 := hG_0.kp hk
    replace hG_1 := hG_1.kp hk
    replace hE_gvS := hE_gvS.kp hk
    replace hG_2 := hG_2.kp hk
    replace hE_gvR := hE_gvR.kp hk
    replace hG_3 := hG_3.kp hk
    replace hG_7 := hG_7.kp hk
    refine HO.sto (want_none) rfl (st_storeAgg (c' := (arrCells r0_2).toArray) hS (i := 0) rfl ta_28 rfl rfl rfl (one_arr _) (Nat.le_of_ble_eq_true rfl) rfl) ?_
    rintro h_11 ⟨hS, hk⟩
    replace hS : St F_5 (Ow.box b_3 28 (arrCells r0_2).toArray :: Ow.box b_2 28 (arrCells r0_1).toArray :: Ow.box b_1 24 (e_api_Addr r_4).toArray :: fr) h_11 := hS
    replace hK := hK.trans hk
    replace hG_0 := hG_0.kp hk
    replace hG_1 := hG_1.kp hk
    replace hE_gvS := hE_gvS.kp hk
    replace hG_2 := hG_2.kp hk
    replace hE_gvR := hE_gvR.kp hk
    replace hG_3 := hG_3.kp hk
    replace hG_7 := hG_7.kp hk
    refine HO.val (v := .bool r1_2) (want_none) rfl (q_assign rfl) ?_
    refine HO.nil (thenQ_normal (?_))
    refine HW.seq_mid (fun f h => ∃ (F' : Fz), f 1 = .pointer (some ⟨b_1, 0, none⟩) ∧ f 2 = .bool false ∧ f 3 = .pointer (some ⟨b_2, 0, none⟩) ∧ Kp F h0 F' h ∧ St F' (Ow.box b_1 24 (e_api_Addr r_4).toArray :: Ow.box b_2 28 (arrCells r0_1).toArray :: fr) h ∧ (RoF (Ow.box 0 3 #[.int .i64 gm]) F' h) ∧ (RoF (Ow.box 1 53 #[gvS]) F' h) ∧ (ErrF gbS gvS F' h) ∧ (RoF (Ow.box 2 53 #[gvR]) F' h) ∧ (ErrF gbR gvR F' h) ∧ (RoF (Ow.box 3 114 (tab10 ()).toArray) F' h) ∧ (RoF (Ow.box 7 124 (arrCells tab64).toArray) F' h) ∧ law03_AddrTells_j1 Q r_4 r0_1) ?_ ?_
    · refine HW.seq ?_
      refine HW.regionA 30 mixed (fun h => (Blk h b_3 (.cells (arrCells r0_2).toArray 28 (0, 0))) ∧ (Blk h b_2 (.cells (arrCells r0_1).toArray 28 (0, 0))) ∧ (Blk h b_1 (.cells (e_api_Addr r_4).toArray 24 (0, 0)))) [] (by kernel_rfl) ?_
      refine HA.val (k := 0) (v := .agg (arrCells r0_1).toArray) rfl rfl (by kernel_rfl) (by kernel_rfl) (want_none) rfl (fun _ ⟨c239, c238, c201⟩ => q_loadAgg (cs := (arrCells r0_1)) ta_28 rfl rfl (Blk.cells (k := 6) c238 rfl)) ?_
      refine HA.val (k := 1) (v := .agg (arrCells r0_2).toArray) rfl rfl (by kernel_rfl) (by kernel_rfl) (want_none) rfl (fun _ ⟨c239, c238, c201⟩ => q_loadAgg (cs := (arrCells r0_2)) ta_28 rfl rfl (Blk.cells (k := 6) c239 rfl)) ?_
      refine HA.val (k := 2) (v := .bool (!decide ((r0_1 : Ba 6) = r0_2))) rfl rfl (by kernel_rfl) (by kernel_rfl) (want_none) rfl (fun _ ⟨c239, c238, c201⟩ => q_neqAgg (a := r0_1) (b := r0_2) (fun a b w => teq_28 9998 a b w) (by kernel_rfl) rfl rfl rfl rfl) ?_
      refine HA.val (k := 3) (v := .bool (!decide ((r0_1 : Ba 6) = r0_2))) rfl rfl (by kernel_rfl) (by kernel_rfl) (want_none) rfl (fun _ ⟨c239, c238, c201⟩ => q_move rfl) ?_
      rcases Bool.eq_false_or_eq_true (!decide ((r0_1 : Ba 6) = r0_2)) with c_2 | c_2
      · replace hM := hM.1 (nd_true c_2)
        refine HA.past (k := 4) rfl rfl (by kernel_rfl) (by kernel_rfl) (past_by rfl rfl c_2) rfl ?_
        refine HA.past (k := 5) rfl rfl (by kernel_rfl) (by kernel_rfl) (past_by rfl rfl c_2) rfl ?_
        refine HA.past (k := 6) rfl rfl (by kernel_rfl) (by kernel_rfl) (past_by rfl rfl c_2) rfl ?_
        refine HA.val (k := 7) (v := .bool true) rfl rfl (by kernel_rfl) (by kernel_rfl) (want_none) rfl (fun _ ⟨c239, c238, c201⟩ => q_pickK true rfl c_2 rfl) ?_
        refine HA.val (k := 8) (v := .bool true) rfl rfl (by kernel_rfl) (by kernel_rfl) (want_none) rfl (fun _ ⟨c239, c238, c201⟩ => q_move rfl) ?_
        refine HA.past (k := 9) rfl rfl (by kernel_rfl) (by kernel_rfl) (past_some rfl rfl) rfl ?_
        refine HA.past (k := 11) rfl rfl (by kernel_rfl) (by kernel_rfl) (past_some rfl rfl) rfl ?_
        refine HA.one (k := 10) ⟨⟨(hS.box 0 rfl), (hS.box 1 rfl), (hS.box 2 rfl)⟩, (Go.Wk.at_nil _ _)⟩ (by kernel_rfl) ?_
        refine HS.past rfl (past_some rfl rfl) rfl ?_
        refine HA.one (k := 12) ⟨⟨(hS.box 0 rfl), (hS.box 1 rfl), (hS.box 2 rfl)⟩, (Go.Wk.at_nil _ _)⟩ (by kernel_rfl) ?_
        refine HS.past rfl (past_some rfl rfl) rfl ?_
        refine HA.past (k := 13) rfl rfl (by kernel_rfl) (by kernel_rfl) (past_some rfl rfl) rfl ?_
        refine HA.val (k := 14) (v := .bool true) rfl rfl (by kernel_rfl) (by kernel_rfl) (want_none) rfl (fun _ ⟨c239, c238, c201⟩ => q_pick rfl rfl) ?_
        refine HA.val (k := 15) (v := .bool true) rfl rfl (by kernel_rfl) (by kernel_rfl) (want_none) rfl (fun _ ⟨c239, c238, c201⟩ => q_move rfl) ?_
        refine HA.past (k := 16) rfl rfl (by kernel_rfl) (by kernel_rfl) (past_some rfl rfl) rfl ?_
        refine HA.past (k := 18) rfl rfl (by kernel_rfl) (by kernel_rfl) (past_some rfl rfl) rfl ?_
        refine HA.one (k := 17) ⟨⟨(hS.box 0 rfl), (hS.box 1 rfl), (hS.box 2 rfl)⟩, (Go.Wk.at_nil _ _)⟩ (by kernel_rfl) ?_
        refine HS.past rfl (past_some rfl rfl) rfl ?_
        refine HA.one (k := 19) ⟨⟨(hS.box 0 rfl), (hS.box 1 rfl), (hS.box 2 rfl)⟩, (Go.Wk.at_nil _ _)⟩ (by kernel_rfl) ?_
        refine HS.past rfl (past_some rfl rfl) rfl ?_
        refine HA.past (k := 20) rfl rfl (by kernel_rfl) (by kernel_rfl) (past_some rfl rfl) rfl ?_
        refine HA.val (k := 21) (v := .bool true) rfl rfl (by kernel_rfl) (by kernel_rfl) (want_none) rfl (fun _ ⟨c239, c238, c201⟩ => q_pick rfl rfl) ?_
        refine HA.val (k := 22) (v := .bool true) rfl rfl (by kernel_rfl) (by kernel_rfl) (want_none) rfl (fun _ ⟨c239, c238, c201⟩ => q_move rfl) ?_
        refine HA.past (k := 23) rfl rfl (by kernel_rfl) (by kernel_rfl) (past_some rfl rfl) rfl ?_
        refine HA.past (k := 24) rfl rfl (by kernel_rfl) (by kernel_rfl) (past_some rfl rfl) rfl ?_
        refine HA.past (k := 25) rfl rfl (by kernel_rfl) (by kernel_rfl) (past_undef rfl rfl) rfl ?_
        refine HA.one (k := 26) ⟨⟨(hS.box 0 rfl), (hS.box 1 rfl), (hS.box 2 rfl)⟩, (Go.Wk.at_nil _ _)⟩ (by kernel_rfl) ?_
        refine HS.past rfl (past_undef rfl rfl) rfl ?_
        refine HA.past (k := 27) rfl rfl (by kernel_rfl) (by kernel_rfl) (past_undef rfl rfl) rfl ?_
        refine HA.past (k := 28) rfl rfl (by kernel_rfl) (by kernel_rfl) (past_some rfl rfl) rfl ?_
        refine HA.val (k := 29) (v := .bool true) rfl rfl (by kernel_rfl) (by kernel_rfl) (want_none) rfl (fun _ ⟨c239, c238, c201⟩ => q_pick rfl rfl) ?_
        refine HA.nil ⟨⟨(hS.box 0 rfl), (hS.box 1 rfl), (hS.box 2 rfl)⟩, (Go.Wk.at_nil _ _)⟩ (by kernel_rfl) (thenQ_normal (?_))
        refine HW.condT rfl ?_
        refine HW.seq ?_
        refine HW.region ?_
        refine HO.val (v := .bool false) (want_none) rfl (q_assign rfl) ?_
        refine HO.nil (thenQ_normal (?_))
        refine HW.ret (thenQ_ret (?_))
        refine ⟨.inr rfl, .bool false, res1 rfl (rt rfl), ?_⟩
        replace hS : St F_5 (fr) h_11 := hS.perm2 [] 3 rfl rfl
        exact ⟨F_5, false, rfl, hK, hS, hG_0, hG_1, hE_gvS, hG_2, hE_gvR, hG_3, hG_7, hM⟩
      · replace hM := hM.2 (nd_false c_2)
        refine HA.val (k := 4) (v := .bool r1_1) rfl rfl (by kernel_rfl) (by kernel_rfl) (want_by rfl rfl c_2) rfl (fun _ ⟨c239, c238, c201⟩ => q_move rfl) ?_
        refine HA.val (k := 5) (v := .bool r1_2) rfl rfl (by kernel_rfl) (by kernel_rfl) (want_by rfl rfl c_2) rfl (fun _ ⟨c239, c238, c201⟩ => q_move rfl) ?_
        refine HA.val (k := 6) (v := .bool (!(r1_1 == r1_2))) rfl rfl (by kernel_rfl) (by kernel_rfl) (want_by rfl rfl c_2) rfl (fun _ ⟨c239, c238, c201⟩ => q_neqB Tryz.underlying4 rfl rfl) ?_
        refine HA.val (k := 7) (v := .bool (!(r1_1 == r1_2))) rfl rfl (by kernel_rfl) (by kernel_rfl) (want_none) rfl (fun _ ⟨c239, c238, c201⟩ => q_pickK false rfl c_2 rfl) ?_
        refine HA.val (k := 8) (v := .bool (!(r1_1 == r1_2))) rfl rfl (by kernel_rfl) (by kernel_rfl) (want_none) rfl (fun _ ⟨c239, c238, c201⟩ => q_move rfl) ?_
        rcases Bool.eq_false_or_eq_true (!(r1_1 == r1_2)) with c_3 | c_3
        · replace hM := hM.1 c_3
          refine HA.past (k := 9) rfl rfl (by kernel_rfl) (by kernel_rfl) (past_by rfl rfl c_3) rfl ?_
          refine HA.past (k := 11) rfl rfl (by kernel_rfl) (by kernel_rfl) (past_by rfl rfl c_3) rfl ?_
          refine HA.one (k := 10) ⟨⟨(hS.box 0 rfl), (hS.box 1 rfl), (hS.box 2 rfl)⟩, (Go.Wk.at_nil _ _)⟩ (by kernel_rfl) ?_
          refine HS.past rfl (past_by rfl rfl c_3) rfl ?_
          refine HA.one (k := 12) ⟨⟨(hS.box 0 rfl), (hS.box 1 rfl), (hS.box 2 rfl)⟩, (Go.Wk.at_nil _ _)⟩ (by kernel_rfl) ?_
          refine HS.past rfl (past_by rfl rfl c_3) rfl ?_
          refine HA.past (k := 13) rfl rfl (by kernel_rfl) (by kernel_rfl) (past_by rfl rfl c_3) rfl ?_
          refine HA.val (k := 14) (v := .bool true) rfl rfl (by kernel_rfl) (by kernel_rfl) (want_none) rfl (fun _ ⟨c239, c238, c201⟩ => q_pickK true rfl c_3 rfl) ?_
          refine HA.val (k := 15) (v := .bool true) rfl rfl (by kernel_rfl) (by kernel_rfl) (want_none) rfl (fun _ ⟨c239, c238, c201⟩ => q_move rfl) ?_
          refine HA.past (k := 16) rfl rfl (by kernel_rfl) (by kernel_rfl) (past_some rfl rfl) rfl ?_
          refine HA.past (k := 18) rfl rfl (by kernel_rfl) (by kernel_rfl) (past_some rfl rfl) rfl ?_
          refine HA.one (k := 17) ⟨⟨(hS.box 0 rfl), (hS.box 1 rfl), (hS.box 2 rfl)⟩, (Go.Wk.at_nil _ _)⟩ (by kernel_rfl) ?_
          refine HS.past rfl (past_some rfl rfl) rfl ?_
          refine HA.one (k := 19) ⟨⟨(hS.box 0 rfl), (hS.box 1 rfl), (hS.box 2 rfl)⟩, (Go.Wk.at_nil _ _)⟩ (by kernel_rfl) ?_
          refine HS.past rfl (past_some rfl rfl) rfl ?_
          refine HA.past (k := 20) rfl rfl (by kernel_rfl) (by kernel_rfl) (past_some rfl rfl) rfl ?_
          refine HA.val (k := 21) (v := .bool true) rfl rfl (by kernel_rfl) (by kernel_rfl) (want_none) rfl (fun _ ⟨c239, c238, c201⟩ => q_pick rfl rfl) ?_
          refine HA.val (k := 22) (v := .bool true) rfl rfl (by kernel_rfl) (by kernel_rfl) (want_none) rfl (fun _ ⟨c239, c238, c201⟩ => q_move rfl) ?_
          refine HA.past (k := 23) rfl rfl (by kernel_rfl) (by kernel_rfl) (past_some rfl rfl) rfl ?_
          refine HA.past (k := 24) rfl rfl (by kernel_rfl) (by kernel_rfl) (past_some rfl rfl) rfl ?_
          refine HA.past (k := 25) rfl rfl (by kernel_rfl) (by kernel_rfl) (past_undef rfl rfl) rfl ?_
          refine HA.one (k := 26) ⟨⟨(hS.box 0 rfl), (hS.box 1 rfl), (hS.box 2 rfl)⟩, (Go.Wk.at_nil _ _)⟩ (by kernel_rfl) ?_
          refine HS.past rfl (past_undef rfl rfl) rfl ?_
          refine HA.past (k := 27) rfl rfl (by kernel_rfl) (by kernel_rfl) (past_undef rfl rfl) rfl ?_
          refine HA.past (k := 28) rfl rfl (by kernel_rfl) (by kernel_rfl) (past_some rfl rfl) rfl ?_
          refine HA.val (k := 29) (v := .bool true) rfl rfl (by kernel_rfl) (by kernel_rfl) (want_none) rfl (fun _ ⟨c239, c238, c201⟩ => q_pick rfl rfl) ?_
          refine HA.nil ⟨⟨(hS.box 0 rfl), (hS.box 1 rfl), (hS.box 2 rfl)⟩, (Go.Wk.at_nil _ _)⟩ (by kernel_rfl) (thenQ_normal (?_))
          refine HW.condT rfl ?_
          refine HW.seq ?_
          refine HW.region ?_
          refine HO.val (v := .bool false) (want_none) rfl (q_assign rfl) ?_
          refine HO.nil (thenQ_normal (?_))
          refine HW.ret (thenQ_ret (?_))
          refine ⟨.inr rfl, .bool false, res1 rfl (rt rfl), ?_⟩
          replace hS : St F_5 (fr) h_11 := hS.perm2 [] 3 rfl rfl
          exact ⟨F_5, false, rfl, hK, hS, hG_0, hG_1, hE_gvS, hG_2, hE_gvR, hG_3, hG_7, hM⟩
        · replace hM := hM.2 c_3
          refine HA.val (k := 9) (v := .agg (e_api_Addr r_4).toArray) rfl rfl (by kernel_rfl) (by kernel_rfl) (want_by rfl rfl c_3) rfl (fun _ ⟨c239, c238, c201⟩ => q_loadAgg (cs := (e_api_Addr r_4)) ta_24 rfl rfl (Blk.cells (k := 17) c201 rfl)) ?_
          refine HA.val (k := 11) (v := .agg (e_api_Addr r_4).toArray) rfl rfl (by kernel_rfl) (by kernel_rfl) (want_by rfl rfl c_3) rfl (fun _ ⟨c239, c238, c201⟩ => q_loadAgg (cs := (e_api_Addr r_4)) ta_24 rfl rfl (Blk.cells (k := 17) c201 rfl)) ?_
          refine HA.one (k := 10) ⟨⟨(hS.box 0 rfl), (hS.box 1 rfl), (hS.box 2 rfl)⟩, (Go.Wk.at_nil _ _)⟩ (by kernel_rfl) ?_
          refine HS.call rfl (want_by rfl rfl c_3) rfl (ec en_9 rfl rfl) (addr_Bytes_walk (fr := (Ow.box b_3 28 (arrCells r0_2).toArray :: Ow.box b_2 28 (arrCells r0_1).toArray :: Ow.box b_1 24 (e_api_Addr r_4).toArray :: fr)) r_4 hS hM) ?_
          rintro _ h_12 ⟨F_6, r_5, rfl, hk, hS, hM⟩
          replace hK := hK.trans hk
          replace hG_0 := hG_0.kp hk
          replace hG_1 := hG_1.kp hk
          replace hE_gvS := hE_gvS.kp hk
          replace hG_2 := hG_2.kp hk
          replace hE_gvR := hE_gvR.kp hk
          replace hG_3 := hG_3.kp hk
          replace hG_7 := hG_7.kp hk
          refine HA.one (k := 12) ⟨⟨(hS.box 0 rfl), (hS.box 1 rfl), (hS.box 2 rfl)⟩, (Go.Wk.at_nil _ _)⟩ (by kernel_rfl) ?_
          refine HS.call rfl (want_by rfl rfl c_3) rfl (ec en_10 rfl rfl) (ref03_Bytes_walk (fr := (Ow.box b_3 28 (arrCells r0_2).toArray :: Ow.box b_2 28 (arrCells r0_1).toArray :: Ow.box b_1 24 (e_api_Addr r_4).toArray :: fr)) r_4 hS hM) ?_
          rintro _ h_13 ⟨F_7, r_6, rfl, hk, hS, hM⟩
          replace hK := hK.trans hk
          replace hG_0 := hG_0.kp hk
          replace hG_1 := hG_1.kp hk
          replace hE_gvS := hE_gvS.kp hk
          replace hG_2 := hG_2.kp hk
          replace hE_gvR := hE_gvR.kp hk
          replace hG_3 := hG_3.kp hk
          replace hG_7 := hG_7.kp hk
          refine HA.val (k := 13) (v := .bool (!decide ((r_5 : Str) = r_6))) rfl rfl (by kernel_rfl) (by kernel_rfl) (want_by rfl rfl c_3) rfl (fun _ ⟨c239, c238, c201⟩ => q_neqT rfl rfl) ?_
          refine HA.val (k := 14) (v := .bool (!decide ((r_5 : Str) = r_6))) rfl rfl (by kernel_rfl) (by kernel_rfl) (want_none) rfl (fun _ ⟨c239, c238, c201⟩ => q_pickK false rfl c_3 rfl) ?_
          refine HA.val (k := 15) (v := .bool (!decide ((r_5 : Str) = r_6))) rfl rfl (by kernel_rfl) (by kernel_rfl) (want_none) rfl (fun _ ⟨c239, c238, c201⟩ => q_move rfl) ?_
          rcases Bool.eq_false_or_eq_true (!decide ((r_5 : Str) = r_6)) with c_4 | c_4
          · replace hM := hM.1 (nd_true c_4)
            refine HA.past (k := 16) rfl rfl (by kernel_rfl) (by kernel_rfl) (past_by rfl rfl c_4) rfl ?_
            refine HA.past (k := 18) rfl rfl (by kernel_rfl) (by kernel_rfl) (past_by rfl rfl c_4) rfl ?_
            refine HA.one (k := 17) ⟨⟨(hS.box 0 rfl), (hS.box 1 rfl), (hS.box 2 rfl)⟩, (Go.Wk.at_nil _ _)⟩ (by kernel_rfl) ?_
            refine HS.past rfl (past_by rfl rfl c_4) rfl ?_
            refine HA.one (k := 19) ⟨⟨(hS.box 0 rfl), (hS.box 1 rfl), (hS.box 2 rfl)⟩, (Go.Wk.at_nil _ _)⟩ (by kernel_rfl) ?_
            refine HS.past rfl (past_by rfl rfl c_4) rfl ?_
            refine HA.past (k := 20) rfl rfl (by kernel_rfl) (by kernel_rfl) (past_by rfl rfl c_4) rfl ?_
            refine HA.val (k := 21) (v := .bool true) rfl rfl (by kernel_rfl) (by kernel_rfl) (want_none) rfl (fun _ ⟨c239, c238, c201⟩ => q_pickK true rfl c_4 rfl) ?_
            refine HA.val (k := 22) (v := .bool true) rfl rfl (by kernel_rfl) (by kernel_rfl) (want_none) rfl (fun _ ⟨c239, c238, c201⟩ => q_move rfl) ?_
            refine HA.past (k := 23) rfl rfl (by kernel_rfl) (by kernel_rfl) (past_some rfl rfl) rfl ?_
            refine HA.past (k := 24) rfl rfl (by kernel_rfl) (by kernel_rfl) (past_some rfl rfl) rfl ?_
            refine HA.past (k := 25) rfl rfl (by kernel_rfl) (by kernel_rfl) (past_undef rfl rfl) rfl ?_
            refine HA.one (k := 26) ⟨⟨(hS.box 0 rfl), (hS.box 1 rfl), (hS.box 2 rfl)⟩, (Go.Wk.at_nil _ _)⟩ (by kernel_rfl) ?_
            refine HS.past rfl (past_undef rfl rfl) rfl ?_
            refine HA.past (k := 27) rfl rfl (by kernel_rfl) (by kernel_rfl) (past_undef rfl rfl) rfl ?_
            refine HA.past (k := 28) rfl rfl (by kernel_rfl) (by kernel_rfl) (past_some rfl rfl) rfl ?_
            refine HA.val (k := 29) (v := .bool true) rfl rfl (by kernel_rfl) (by kernel_rfl) (want_none) rfl (fun _ ⟨c239, c238, c201⟩ => q_pick rfl rfl) ?_
            refine HA.nil ⟨⟨(hS.box 0 rfl), (hS.box 1 rfl), (hS.box 2 rfl)⟩, (Go.Wk.at_nil _ _)⟩ (by kernel_rfl) (thenQ_normal (?_))
            refine HW.condT rfl ?_
            refine HW.seq ?_
            refine HW.region ?_
            refine HO.val (v := .bool false) (want_none) rfl (q_assign rfl) ?_
            refine HO.nil (thenQ_normal (?_))
            refine HW.ret (thenQ_ret (?_))
            refine ⟨.inr rfl, .bool false, res1 rfl (rt rfl), ?_⟩
            replace hS : St F_7 (fr) h_13 := hS.perm2 [] 3 rfl rfl
            exact ⟨F_7, false, rfl, hK, hS, hG_0, hG_1, hE_gvS, hG_2, hE_gvR, hG_3, hG_7, hM⟩
          · replace hM := hM.2 (nd_false c_4)
            refine HA.val (k := 16) (v := .agg (e_api_Addr r_4).toArray) rfl rfl (by kernel_rfl) (by kernel_rfl) (want_by rfl rfl c_4) rfl (fun _ ⟨c239, c238, c201⟩ => q_loadAgg (cs := (e_api_Addr r_4)) ta_24 rfl rfl (Blk.cells (k := 17) c201 rfl)) ?_
            refine HA.val (k := 18) (v := .agg (e_api_Addr r_4).toArray) rfl rfl (by kernel_rfl) (by kernel_rfl) (want_by rfl rfl c_4) rfl (fun _ ⟨c239, c238, c201⟩ => q_loadAgg (cs := (e_api_Addr r_4)) ta_24 rfl rfl (Blk.cells (k := 17) c201 rfl)) ?_
            refine HA.one (k := 17) ⟨⟨(hS.box 0 rfl), (hS.box 1 rfl), (hS.box 2 rfl)⟩, (Go.Wk.at_nil _ _)⟩ (by kernel_rfl) ?_
            refine HS.call rfl (want_by rfl rfl c_4) rfl (ec en_11 rfl rfl) (addr_Zero_walk (fr := (Ow.box b_3 28 (arrCells r0_2).toArray :: Ow.box b_2 28 (arrCells r0_1).toArray :: Ow.box b_1 24 (e_api_Addr r_4).toArray :: fr)) r_4 hS hM) ?_
            rintro _ h_14 ⟨F_8, r_7, rfl, hk, hS, hM⟩
            replace hK := hK.trans hk
            replace hG_0 := hG_0.kp hk
            replace hG_1 := hG_1.kp hk
            replace hE_gvS := hE_gvS.kp hk
            replace hG_2 := hG_2.kp hk
            replace hE_gvR := hE_gvR.kp hk
            replace hG_3 := hG_3.kp hk
            replace hG_7 := hG_7.kp hk
            refine HA.one (k := 19) ⟨⟨(hS.box 0 rfl), (hS.box 1 rfl), (hS.box 2 rfl)⟩, (Go.Wk.at_nil _ _)⟩ (by kernel_rfl) ?_
            refine HS.call rfl (want_by rfl rfl c_4) rfl (ec en_12 rfl rfl) (ref03_Zero_walk (fr := (Ow.box b_3 28 (arrCells r0_2).toArray :: Ow.box b_2 28 (arrCells r0_1).toArray :: Ow.box b_1 24 (e_api_Addr r_4).toArray :: fr)) r_4 hS hM) ?_
            rintro _ h_15 ⟨F_9, r_8, rfl, hk, hS, hM⟩
            replace hK := hK.trans hk
            replace hG_0 := hG_0.kp hk
            replace hG_1 := hG_1.kp hk
            replace hE_gvS := hE_gvS.kp hk
            replace hG_2 := hG_2.kp hk
            replace hE_gvR := hE_gvR.kp hk
            replace hG_3 := hG_3.kp hk
            replace hG_7 := hG_7.kp hk
            refine HA.val (k := 20) (v := .bool (!(r_7 == r_8))) rfl rfl (by kernel_rfl) (by kernel_rfl) (want_by rfl rfl c_4) rfl (fun _ ⟨c239, c238, c201⟩ => q_neqB Tryz.underlying4 rfl rfl) ?_
            refine HA.val (k := 21) (v := .bool (!(r_7 == r_8))) rfl rfl (by kernel_rfl) (by kernel_rfl) (want_none) rfl (fun _ ⟨c239, c238, c201⟩ => q_pickK false rfl c_4 rfl) ?_
            refine HA.val (k := 22) (v := .bool (!(r_7 == r_8))) rfl rfl (by kernel_rfl) (by kernel_rfl) (want_none) rfl (fun _ ⟨c239, c238, c201⟩ => q_move rfl) ?_
            rcases Bool.eq_false_or_eq_true (!(r_7 == r_8)) with c_5 | c_5
            · replace hM := hM.1 c_5
              refine HA.past (k := 23) rfl rfl (by kernel_rfl) (by kernel_rfl) (past_by rfl rfl c_5) rfl ?_
              refine HA.past (k := 24) rfl rfl (by kernel_rfl) (by kernel_rfl) (past_by rfl rfl c_5) rfl ?_
              refine HA.past (k := 25) rfl rfl (by kernel_rfl) (by kernel_rfl) (past_undef rfl rfl) rfl ?_
              refine HA.one (k := 26) ⟨⟨(hS.box 0 rfl), (hS.box 1 rfl), (hS.box 2 rfl)⟩, (Go.Wk.at_nil _ _)⟩ (by kernel_rfl) ?_
              refine HS.past rfl (past_undef rfl rfl) rfl ?_
              refine HA.past (k := 27) rfl rfl (by kernel_rfl) (by kernel_rfl) (past_undef rfl rfl) rfl ?_
              refine HA.past (k := 28) rfl rfl (by kernel_rfl) (by kernel_rfl) (past_by rfl rfl c_5) rfl ?_
              refine HA.val (k := 29) (v := .bool true) rfl rfl (by kernel_rfl) (by kernel_rfl) (want_none) rfl (fun _ ⟨c239, c238, c201⟩ => q_pickK true rfl c_5 rfl) ?_
              refine HA.nil ⟨⟨(hS.box 0 rfl), (hS.box 1 rfl), (hS.box 2 rfl)⟩, (Go.Wk.at_nil _ _)⟩ (by kernel_rfl) (thenQ_normal (?_))
              refine HW.condT rfl ?_
              refine HW.seq ?_
              refine HW.region ?_
              refine HO.val (v := .bool false) (want_none) rfl (q_assign rfl) ?_
              refine HO.nil (thenQ_normal (?_))
              refine HW.ret (thenQ_ret (?_))
              refine ⟨.inr rfl, .bool false, res1 rfl (rt rfl), ?_⟩
              replace hS : St F_9 (fr) h_15 := hS.perm2 [] 3 rfl rfl
              exact ⟨F_9, false, rfl, hK, hS, hG_0, hG_1, hE_gvS, hG_2, hE_gvR, hG_3, hG_7, hM⟩
            · replace hM := hM.2 c_5
              refine HA.val (k := 23) (v := .bool r1_1) rfl rfl (by kernel_rfl) (by kernel_rfl) (want_by rfl rfl c_5) rfl (fun _ ⟨c239, c238, c201⟩ => q_move rfl) ?_
              refine HA.val (k := 24) (v := .bool r1_1) rfl rfl (by kernel_rfl) (by kernel_rfl) (want_by rfl rfl c_5) rfl (fun _ ⟨c239, c238, c201⟩ => q_move rfl) ?_
              rcases Bool.eq_false_or_eq_true r1_1 with c_6 | c_6
              · replace hM := hM.1 c_6
                refine HA.val (k := 25) (v := .agg (arrCells r0_1).toArray) rfl rfl (by kernel_rfl) (by kernel_rfl) (want_by rfl rfl c_6) rfl (fun _ ⟨c239, c238, c201⟩ => q_loadAgg (cs := (arrCells r0_1)) ta_28 rfl rfl (Blk.cells (k := 6) c238 rfl)) ?_
                refine HA.one (k := 26) ⟨⟨(hS.box 0 rfl), (hS.box 1 rfl), (hS.box 2 rfl)⟩, (Go.Wk.at_nil _ _)⟩ (by kernel_rfl) ?_
                refine HS.call rfl (want_by rfl rfl c_6) rfl (ec en_13 rfl rfl) (addr_Many_walk (fr := (Ow.box b_3 28 (arrCells r0_2).toArray :: Ow.box b_2 28 (arrCells r0_1).toArray :: Ow.box b_1 24 (e_api_Addr r_4).toArray :: fr)) r0_1 hS hM) ?_
                rintro _ h_16 ⟨F_10, r_9, rfl, hk, hS, hM⟩
                replace hK := hK.trans hk
                replace hG_0 := hG_0.kp hk
                replace hG_1 := hG_1.kp hk
                replace hE_gvS := hE_gvS.kp hk
                replace hG_2 := hG_2.kp hk
                replace hE_gvR := hE_gvR.kp hk
                replace hG_3 := hG_3.kp hk
                replace hG_7 := hG_7.kp hk
                refine HA.val (k := 27) (v := .bool (!r_9)) rfl rfl (by kernel_rfl) (by kernel_rfl) (want_by rfl rfl c_6) rfl (fun _ ⟨c239, c238, c201⟩ => q_not rfl) ?_
                refine HA.val (k := 28) (v := .bool (!r_9)) rfl rfl (by kernel_rfl) (by kernel_rfl) (want_by rfl rfl c_5) rfl (fun _ ⟨c239, c238, c201⟩ => q_pickK true rfl c_6 rfl) ?_
                refine HA.val (k := 29) (v := .bool (!r_9)) rfl rfl (by kernel_rfl) (by kernel_rfl) (want_none) rfl (fun _ ⟨c239, c238, c201⟩ => q_pickK false rfl c_5 rfl) ?_
                refine HA.nil ⟨⟨(hS.box 0 rfl), (hS.box 1 rfl), (hS.box 2 rfl)⟩, (Go.Wk.at_nil _ _)⟩ (by kernel_rfl) (thenQ_normal (?_))
                refine HW.cond (!r_9) rfl (fun c_7 => ?_) (fun c_7 => ?_)
                · replace hM := hM.1 c_7
                  refine HW.seq ?_
                  refine HW.region ?_
                  refine HO.val (v := .bool false) (want_none) rfl (q_assign rfl) ?_
                  refine HO.nil (thenQ_normal (?_))
                  refine HW.ret (thenQ_ret (?_))
                  refine ⟨.inr rfl, .bool false, res1 rfl (rt rfl), ?_⟩
                  replace hS : St F_10 (fr) h_16 := hS.perm2 [] 3 rfl rfl
                  exact ⟨F_10, false, rfl, hK, hS, hG_0, hG_1, hE_gvS, hG_2, hE_gvR, hG_3, hG_7, hM⟩
                · replace hM := hM.2 c_7
                  refine HW.skip (thenQ_normal (?_))
                  replace hS : St F_10 (Ow.box b_1 24 (e_api_Addr r_4).toArray :: Ow.box b_2 28 (arrCells r0_1).toArray :: fr) h_16 := hS.perm2 [2, 1] 3 rfl rfl
                  exact ⟨F_10, rfl, rfl, rfl, hK, hS, hG_0, hG_1, hE_gvS, hG_2, hE_gvR, hG_3, hG_7, hM⟩
              · replace hM := hM.2 c_6
                refine HA.past (k := 25) rfl rfl (by kernel_rfl) (by kernel_rfl) (past_by rfl rfl c_6) rfl ?_
                refine HA.one (k := 26) ⟨⟨(hS.box 0 rfl), (hS.box 1 rfl), (hS.box 2 rfl)⟩, (Go.Wk.at_nil _ _)⟩ (by kernel_rfl) ?_
                refine HS.past rfl (past_by rfl rfl c_6) rfl ?_
                refine HA.past (k := 27) rfl rfl (by kernel_rfl) (by kernel_rfl) (past_by rfl rfl c_6) rfl ?_
                refine HA.val (k := 28) (v := .bool false) rfl rfl (by kernel_rfl) (by kernel_rfl) (want_by rfl rfl c_5) rfl (fun _ ⟨c239, c238, c201⟩ => q_pickK false rfl c_6 rfl) ?_
                refine HA.val (k := 29) (v := .bool false) rfl rfl (by kernel_rfl) (by kernel_rfl) (want_none) rfl (fun _ ⟨c239, c238, c201⟩ => q_pickK false rfl c_5 rfl) ?_
                refine HA.nil ⟨⟨(hS.box 0 rfl), (hS.box 1 rfl), (hS.box 2 rfl)⟩, (Go.Wk.at_nil _ _)⟩ (by kernel_rfl) (thenQ_normal (?_))
                refine HW.condF rfl ?_
                refine HW.skip (thenQ_normal (?_))
                replace hS : St F_9 (Ow.box b_1 24 (e_api_Addr r_4).toArray :: Ow.box b_2 28 (arrCells r0_1).toArray :: fr) h_15 := hS.perm2 [2, 1] 3 rfl rfl
                exact ⟨F_9, rfl, rfl, rfl, hK, hS, hG_0, hG_1, hE_gvS, hG_2, hE_gvR, hG_3, hG_7, hM⟩
    · rintro f_1 h_17 ⟨F_11, e1, e2, e3, hK, hS, hG_0, hG_1, hE_gvS, hG_2, hE_gvR, hG_3, hG_7, hM⟩
      unfold law03_AddrTells_j1 at hM
      refine HW.fr [(1, .pointer (some ⟨b_1, 0, none⟩)), (2, .bool false), (3, .pointer (some ⟨b_2, 0, none⟩))] ⟨e1, e2, e3, trivial⟩ ?_
      refine HW.seq ?_
      refine HW.regionA 39 mixed (fun h => (Blk h b_1 (.cells (e_api_Addr r_4).toArray 24 (0, 0))) ∧ (Blk h b_2 (.cells (arrCells r0_1).toArray 28 (0, 0)))) [] (by kernel_rfl) ?_
      refine HA.val (k := 0) (v := .agg (e_api_Addr r_4).toArray) rfl rfl (by kernel_rfl) (by kernel_rfl) (want_none) rfl (fun _ ⟨c240, c241⟩ => q_loadAgg (cs := (e_api_Addr r_4)) ta_24 rfl rfl (Blk.cells (k := 17) c240 rfl)) ?_
      refine HA.val (k := 2) (v := .agg (e_api_Addr r_4).toArray) rfl rfl (by kernel_rfl) (by kernel_rfl) (want_none) rfl (fun _ ⟨c240, c241⟩ => q_loadAgg (cs := (e_api_Addr r_4)) ta_24 rfl rfl (Blk.cells (k := 17) c240 rfl)) ?_
      refine HA.one (k := 1) ⟨⟨(hS.box 0 rfl), (hS.box 1 rfl)⟩, (Go.Wk.at_nil _ _)⟩ (by kernel_rfl) ?_
      refine HS.call rfl (want_none) rfl (ec en_14 rfl rfl) (addr_Group_walk (fr := (Ow.box b_1 24 (e_api_Addr r_4).toArray :: Ow.box b_2 28 (arrCells r0_1).toArray :: fr)) r_4 hS hM) ?_
      rintro _ h_18 ⟨F_12, r_10, rfl, hk, hS, hM⟩
      replace hK := hK.trans hk
      replace hG_0 := hG_0.kp hk
      replace hG_1 := hG_1.kp hk
      replace hE_gvS := hE_gvS.kp hk
      replace hG_2 := hG_2.kp hk
      replace hE_gvR := hE_gvR.kp hk
      replace hG_3 := hG_3.kp hk
      replace hG_7 := hG_7.kp hk
      refine HA.one (k := 3) ⟨⟨(hS.box 0 rfl), (hS.box 1 rfl)⟩, (Go.Wk.at_nil _ _)⟩ (by kernel_rfl) ?_
      refine HS.call rfl (want_none) rfl (ec en_15 rfl rfl) (ref03_Group_walk (fr := (Ow.box b_1 24 (e_api_Addr r_4).toArray :: Ow.box b_2 28 (arrCells r0_1).toArray :: fr)) r_4 hS hM) ?_
      rintro _ h_19 ⟨F_13, r_11, rfl, hk, hS, hM⟩
      replace hK := hK.trans hk
      replace hG_0 := hG_0.kp hk
      replace hG_1 := hG_1.kp hk
      replace hE_gvS := hE_gvS.kp hk
      replace hG_2 := hG_2.kp hk
      replace hE_gvR := hE_gvR.kp hk
      replace hG_3 := hG_3.kp hk
      replace hG_7 := hG_7.kp hk
      refine HA.val (k := 4) (v := .bool (r_10 == r_11)) rfl rfl (by kernel_rfl) (by kernel_rfl) (want_none) rfl (fun _ ⟨c240, c241⟩ => q_eqlB Tryz.underlying4 rfl rfl) ?_
      refine HA.val (k := 5) (v := .bool (r_10 == r_11)) rfl rfl (by kernel_rfl) (by kernel_rfl) (want_none) rfl (fun _ ⟨c240, c241⟩ => q_move rfl) ?_
      rcases Bool.eq_false_or_eq_true (r_10 == r_11) with c_8 | c_8
      · replace hM := hM.1 c_8
        refine HA.val (k := 6) (v := .agg (e_api_Addr r_4).toArray) rfl rfl (by kernel_rfl) (by kernel_rfl) (want_by rfl rfl c_8) rfl (fun _ ⟨c240, c241⟩ => q_loadAgg (cs := (e_api_Addr r_4)) ta_24 rfl rfl (Blk.cells (k := 17) c240 rfl)) ?_
        refine HA.val (k := 8) (v := .agg (e_api_Addr r_4).toArray) rfl rfl (by kernel_rfl) (by kernel_rfl) (want_by rfl rfl c_8) rfl (fun _ ⟨c240, c241⟩ => q_loadAgg (cs := (e_api_Addr r_4)) ta_24 rfl rfl (Blk.cells (k := 17) c240 rfl)) ?_
        refine HA.one (k := 7) ⟨⟨(hS.box 0 rfl), (hS.box 1 rfl)⟩, (Go.Wk.at_nil _ _)⟩ (by kernel_rfl) ?_
        refine HS.call rfl (want_by rfl rfl c_8) rfl (ec en_16 rfl rfl) (addr_Local_walk (fr := (Ow.box b_1 24 (e_api_Addr r_4).toArray :: Ow.box b_2 28 (arrCells r0_1).toArray :: fr)) r_4 hS hM) ?_
        rintro _ h_20 ⟨F_14, r_12, rfl, hk, hS, hM⟩
        replace hK := hK.trans hk
        replace hG_0 := hG_0.kp hk
        replace hG_1 := hG_1.kp hk
        replace hE_gvS := hE_gvS.kp hk
        replace hG_2 := hG_2.kp hk
        replace hE_gvR := hE_gvR.kp hk
        replace hG_3 := hG_3.kp hk
        replace hG_7 := hG_7.kp hk
        refine HA.one (k := 9) ⟨⟨(hS.box 0 rfl), (hS.box 1 rfl)⟩, (Go.Wk.at_nil _ _)⟩ (by kernel_rfl) ?_
        refine HS.call rfl (want_by rfl rfl c_8) rfl (ec en_17 rfl rfl) (ref03_Local_walk (fr := (Ow.box b_1 24 (e_api_Addr r_4).toArray :: Ow.box b_2 28 (arrCells r0_1).toArray :: fr)) r_4 hS hM) ?_
        rintro _ h_21 ⟨F_15, r_13, rfl, hk, hS, hM⟩
        replace hK := hK.trans hk
        replace hG_0 := hG_0.kp hk
        replace hG_1 := hG_1.kp hk
        replace hE_gvS := hE_gvS.kp hk
        replace hG_2 := hG_2.kp hk
        replace hE_gvR := hE_gvR.kp hk
        replace hG_3 := hG_3.kp hk
        replace hG_7 := hG_7.kp hk
        refine HA.val (k := 10) (v := .bool (r_12 == r_13)) rfl rfl (by kernel_rfl) (by kernel_rfl) (want_by rfl rfl c_8) rfl (fun _ ⟨c240, c241⟩ => q_eqlB Tryz.underlying4 rfl rfl) ?_
        refine HA.val (k := 11) (v := .bool (r_12 == r_13)) rfl rfl (by kernel_rfl) (by kernel_rfl) (want_none) rfl (fun _ ⟨c240, c241⟩ => q_pickK true rfl c_8 rfl) ?_
        refine HA.val (k := 12) (v := .bool (r_12 == r_13)) rfl rfl (by kernel_rfl) (by kernel_rfl) (want_none) rfl (fun _ ⟨c240, c241⟩ => q_move rfl) ?_
        rcases Bool.eq_false_or_eq_true (r_12 == r_13) with c_9 | c_9
        · replace hM := hM.1 c_9
          refine HA.val (k := 13) (v := .agg (e_api_Addr r_4).toArray) rfl rfl (by kernel_rfl) (by kernel_rfl) (want_by rfl rfl c_9) rfl (fun _ ⟨c240, c241⟩ => q_loadAgg (cs := (e_api_Addr r_4)) ta_24 rfl rfl (Blk.cells (k := 17) c240 rfl)) ?_
          refine HA.val (k := 15) (v := .agg (e_api_Addr r_4).toArray) rfl rfl (by kernel_rfl) (by kernel_rfl) (want_by rfl rfl c_9) rfl (fun _ ⟨c240, c241⟩ => q_loadAgg (cs := (e_api_Addr r_4)) ta_24 rfl rfl (Blk.cells (k := 17) c240 rfl)) ?_
          refine HA.one (k := 14) ⟨⟨(hS.box 0 rfl), (hS.box 1 rfl)⟩, (Go.Wk.at_nil _ _)⟩ (by kernel_rfl) ?_
          refine HS.call rfl (want_by rfl rfl c_9) rfl (ec en_18 rfl rfl) (addr_Ssm_walk (fr := (Ow.box b_1 24 (e_api_Addr r_4).toArray :: Ow.box b_2 28 (arrCells r0_1).toArray :: fr)) r_4 hS hM) ?_
          rintro _ h_22 ⟨F_16, r_14, rfl, hk, hS, hM⟩
          replace hK := hK.trans hk
          replace hG_0 := hG_0.kp hk
          replace hG_1 := hG_1.kp hk
          replace hE_gvS := hE_gvS.kp hk
          replace hG_2 := hG_2.kp hk
          replace hE_gvR := hE_gvR.kp hk
          replace hG_3 := hG_3.kp hk
          replace hG_7 := hG_7.kp hk
          refine HA.one (k := 16) ⟨⟨(hS.box 0 rfl), (hS.box 1 rfl)⟩, (Go.Wk.at_nil _ _)⟩ (by kernel_rfl) ?_
          refine HS.call rfl (want_by rfl rfl c_9) rfl (ec en_19 rfl rfl) (ref03_Ssm_walk (fr := (Ow.box b_1 24 (e_api_Addr r_4).toArray :: Ow.box b_2 28 (arrCells r0_1).toArray :: fr)) r_4 hS hM) ?_
          rintro _ h_23 ⟨F_17, r_15, rfl, hk, hS, hM⟩
          replace hK := hK.trans hk
          replace hG_0 := hG_0.kp hk
          replace hG_1 := hG_1.kp hk
          replace hE_gvS := hE_gvS.kp hk
          replace hG_2 := hG_2.kp hk
          replace hE_gvR := hE_gvR.kp hk
          replace hG_3 := hG_3.kp hk
          replace hG_7 := hG_7.kp hk
          refine HA.val (k := 17) (v := .bool (r_14 == r_15)) rfl rfl (by kernel_rfl) (by kernel_rfl) (want_by rfl rfl c_9) rfl (fun _ ⟨c240, c241⟩ => q_eqlB Tryz.underlying4 rfl rfl) ?_
          refine HA.val (k := 18) (v := .bool (r_14 == r_15)) rfl rfl (by kernel_rfl) (by kernel_rfl) (want_none) rfl (fun _ ⟨c240, c241⟩ => q_pickK true rfl c_9 rfl) ?_
          refine HA.val (k := 19) (v := .bool (r_14 == r_15)) rfl rfl (by kernel_rfl) (by kernel_rfl) (want_none) rfl (fun _ ⟨c240, c241⟩ => q_move rfl) ?_
          rcases Bool.eq_false_or_eq_true (r_14 == r_15) with c_10 | c_10
          · replace hM := hM.1 c_10
            refine HA.val (k := 20) (v := .agg (e_api_Addr r_4).toArray) rfl rfl (by kernel_rfl) (by kernel_rfl) (want_by rfl rfl c_10) rfl (fun _ ⟨c240, c241⟩ => q_loadAgg (cs := (e_api_Addr r_4)) ta_24 rfl rfl (Blk.cells (k := 17) c240 rfl)) ?_
            refine HA.val (k := 22) (v := .agg (e_api_Addr r_4).toArray) rfl rfl (by kernel_rfl) (by kernel_rfl) (want_by rfl rfl c_10) rfl (fun _ ⟨c240, c241⟩ => q_loadAgg (cs := (e_api_Addr r_4)) ta_24 rfl rfl (Blk.cells (k := 17) c240 rfl)) ?_
            refine HA.one (k := 21) ⟨⟨(hS.box 0 rfl), (hS.box 1 rfl)⟩, (Go.Wk.at_nil _ _)⟩ (by kernel_rfl) ?_
            refine HS.call rfl (want_by rfl rfl c_10) rfl (ec en_20 rfl rfl) (addr_Scope_walk (fr := (Ow.box b_1 24 (e_api_Addr r_4).toArray :: Ow.box b_2 28 (arrCells r0_1).toArray :: fr)) r_4 hS hM) ?_
            rintro _ h_24 ⟨F_18, r_16, rfl, hk, hS, hM⟩
            replace hK := hK.trans hk
            replace hG_0 := hG_0.kp hk
            replace hG_1 := hG_1.kp hk
            replace hE_gvS := hE_gvS.kp hk
            replace hG_2 := hG_2.kp hk
            replace hE_gvR := hE_gvR.kp hk
            replace hG_3 := hG_3.kp hk
            replace hG_7 := hG_7.kp hk
            refine HA.one (k := 23) ⟨⟨(hS.box 0 rfl), (hS.box 1 rfl)⟩, (Go.Wk.at_nil _ _)⟩ (by kernel_rfl) ?_
            refine HS.call rfl (want_by rfl rfl c_10) rfl (ec en_21 rfl rfl) (ref03_Scope_walk (fr := (Ow.box b_1 24 (e_api_Addr r_4).toArray :: Ow.box b_2 28 (arrCells r0_1).toArray :: fr)) r_4 hS hM) ?_
            rintro _ h_25 ⟨F_19, r_17, rfl, hk, hS, hM⟩
            replace hK := hK.trans hk
            replace hG_0 := hG_0.kp hk
            replace hG_1 := hG_1.kp hk
            replace hE_gvS := hE_gvS.kp hk
            replace hG_2 := hG_2.kp hk
            replace hE_gvR := hE_gvR.kp hk
            replace hG_3 := hG_3.kp hk
            replace hG_7 := hG_7.kp hk
            refine HA.val (k := 24) (v := .bool (decide (r_16 = r_17))) rfl rfl (by kernel_rfl) (by kernel_rfl) (want_by rfl rfl c_10) rfl (fun _ ⟨c240, c241⟩ => q_eql rfl rfl) ?_
            refine HA.val (k := 25) (v := .bool (decide (r_16 = r_17))) rfl rfl (by kernel_rfl) (by kernel_rfl) (want_none) rfl (fun _ ⟨c240, c241⟩ => q_pickK true rfl c_10 rfl) ?_
            refine HA.val (k := 26) (v := .bool (decide (r_16 = r_17))) rfl rfl (by kernel_rfl) (by kernel_rfl) (want_none) rfl (fun _ ⟨c240, c241⟩ => q_move rfl) ?_
            rcases Bool.eq_false_or_eq_true (decide (r_16 = r_17)) with c_11 | c_11
            · replace hM := hM.1 (of_decide_eq_true c_11)
              refine HA.val (k := 27) (v := .agg (arrCells r0_1).toArray) rfl rfl (by kernel_rfl) (by kernel_rfl) (want_by rfl rfl c_11) rfl (fun _ ⟨c240, c241⟩ => q_loadAgg (cs := (arrCells r0_1)) ta_28 rfl rfl (Blk.cells (k := 6) c241 rfl)) ?_
              refine HA.val (k := 29) (v := .pointer (some ⟨b_2, 0, none⟩)) rfl rfl (by kernel_rfl) (by kernel_rfl) (want_by rfl rfl c_11) rfl (fun _ ⟨c240, c241⟩ => q_idxA (o := 0) (t := 0) tr_28 rfl rfl ⟨by decide, by decide⟩) ?_
              refine HA.val (k := 30) (v := .int .u8 (b8 r0_1 0)) rfl rfl (by kernel_rfl) (by kernel_rfl) (want_by rfl rfl c_11) rfl (fun _ ⟨c240, c241⟩ => q_load to_5 rfl (Blk.cell c241 rfl)) ?_
              obtain ⟨ho_1, hM⟩ := hM
              refine HA.val (k := 31) (v := .int .u8 ((u8w ((b8 r0_1 0).tmod 2)).toNat : Int)) rfl rfl (by kernel_rfl) (by kernel_rfl) (want_by rfl rfl c_11) rfl (fun _ ⟨c240, c241⟩ => (q_rem rfl rfl (by decide)).of_eq (u8r_v ho_1)) ?_
              refine HA.val (k := 32) (v := .bool (decide (((u8w ((b8 r0_1 0).tmod 2)).toNat : Int) = 1))) rfl rfl (by kernel_rfl) (by kernel_rfl) (want_by rfl rfl c_11) rfl (fun _ ⟨c240, c241⟩ => q_eql rfl rfl) ?_
              refine HA.one (k := 28) ⟨⟨(hS.box 0 rfl), (hS.box 1 rfl)⟩, (Go.Wk.at_nil _ _)⟩ (by kernel_rfl) ?_
              refine HS.call rfl (want_by rfl rfl c_11) rfl (ec en_13 rfl rfl) (addr_Many_walk (fr := (Ow.box b_1 24 (e_api_Addr r_4).toArray :: Ow.box b_2 28 (arrCells r0_1).toArray :: fr)) r0_1 hS hM) ?_
              rintro _ h_26 ⟨F_20, r_18, rfl, hk, hS, hM⟩
              replace hK := hK.trans hk
              replace hG_0 := hG_0.kp hk
              replace hG_1 := hG_1.kp hk
              replace hE_gvS := hE_gvS.kp hk
              replace hG_2 := hG_2.kp hk
              replace hE_gvR := hE_gvR.kp hk
              replace hG_3 := hG_3.kp hk
              replace hG_7 := hG_7.kp hk
              refine HA.val (k := 33) (v := .bool (r_18 == (decide (((u8w ((b8 r0_1 0).tmod 2)).toNat : Int) = 1)))) rfl rfl (by kernel_rfl) (by kernel_rfl) (want_by rfl rfl c_11) rfl (fun _ ⟨c240, c241⟩ => q_eqlB Tryz.underlying4 rfl rfl) ?_
              refine HA.val (k := 34) (v := .bool (r_18 == (decide (((u8w ((b8 r0_1 0).tmod 2)).toNat : Int) = 1)))) rfl rfl (by kernel_rfl) (by kernel_rfl) (want_none) rfl (fun _ ⟨c240, c241⟩ => q_pickK true rfl c_11 rfl) ?_
              refine HA.val (k := 35) (v := .bool (r_18 == (decide (((u8w ((b8 r0_1 0).tmod 2)).toNat : Int) = 1)))) rfl rfl (by kernel_rfl) (by kernel_rfl) (want_none) rfl (fun _ ⟨c240, c241⟩ => q_move rfl) ?_
              rcases Bool.eq_false_or_eq_true (r_18 == (decide (((u8w ((b8 r0_1 0).tmod 2)).toNat : Int) = 1))) with c_12 | c_12
              · replace hM := hM.1 c_12
                refine HA.one (k := 36) ⟨⟨(hS.box 0 rfl), (hS.box 1 rfl)⟩, (Go.Wk.at_nil _ _)⟩ (by kernel_rfl) ?_
                refine HS.call rfl (want_by rfl rfl c_12) rfl (ec en_22 rfl rfl) (law03_lives_walk (fr := (Ow.box b_1 24 (e_api_Addr r_4).toArray :: Ow.box b_2 28 (arrCells r0_1).toArray :: fr)) gm gvS gbS gvR gbR hS hG_0 hG_1 hE_gvS hG_2 hE_gvR hG_3 hG_7 hD hM) ?_
                rintro _ h_27 ⟨F_21, r_19, rfl, hk, hS, _, _, _, _, _, _, _, hM⟩
                replace hK := hK.trans hk
                replace hG_0 := hG_0.kp hk
                replace hG_1 := hG_1.kp hk
                replace hE_gvS := hE_gvS.kp hk
                replace hG_2 := hG_2.kp hk
                replace hE_gvR := hE_gvR.kp hk
                replace hG_3 := hG_3.kp hk
                replace hG_7 := hG_7.kp hk
                refine HA.val (k := 37) (v := .bool r_19) rfl rfl (by kernel_rfl) (by kernel_rfl) (want_none) rfl (fun _ ⟨c240, c241⟩ => q_pickK true rfl c_12 rfl) ?_
                refine HA.val (k := 38) (v := .bool r_19) rfl rfl (by kernel_rfl) (by kernel_rfl) (want_none) rfl (fun _ ⟨c240, c241⟩ => q_assign rfl) ?_
                refine HA.nil ⟨⟨(hS.box 0 rfl), (hS.box 1 rfl)⟩, (Go.Wk.at_nil _ _)⟩ (by kernel_rfl) (thenQ_normal (?_))
                refine HW.ret (?_)
                refine ⟨.inr rfl, .bool r_19, res1 rfl (rt rfl), ?_⟩
                replace hS : St F_21 (fr) h_27 := hS.perm2 [] 2 rfl rfl
                exact ⟨F_21, r_19, rfl, hK, hS, hG_0, hG_1, hE_gvS, hG_2, hE_gvR, hG_3, hG_7, hM⟩
              · replace hM := hM.2 c_12
                refine HA.one (k := 36) ⟨⟨(hS.box 0 rfl), (hS.box 1 rfl)⟩, (Go.Wk.at_nil _ _)⟩ (by kernel_rfl) ?_
                refine HS.past rfl (past_by rfl rfl c_12) rfl ?_
                refine HA.val (k := 37) (v := .bool false) rfl rfl (by kernel_rfl) (by kernel_rfl) (want_none) rfl (fun _ ⟨c240, c241⟩ => q_pickK false rfl c_12 rfl) ?_
                refine HA.val (k := 38) (v := .bool false) rfl rfl (by kernel_rfl) (by kernel_rfl) (want_none) rfl (fun _ ⟨c240, c241⟩ => q_assign rfl) ?_
                refine HA.nil ⟨⟨(hS.box 0 rfl), (hS.box 1 rfl)⟩, (Go.Wk.at_nil _ _)⟩ (by kernel_rfl) (thenQ_normal (?_))
                refine HW.ret (?_)
                refine ⟨.inr rfl, .bool false, res1 rfl (rt rfl), ?_⟩
                replace hS : St F_20 (fr) h_26 := hS.perm2 [] 2 rfl rfl
                exact ⟨F_20, false, rfl, hK, hS, hG_0, hG_1, hE_gvS, hG_2, hE_gvR, hG_3, hG_7, hM⟩
            · replace hM := hM.2 (of_decide_eq_false c_11)
              refine HA.past (k := 27) rfl rfl (by kernel_rfl) (by kernel_rfl) (past_by rfl rfl c_11) rfl ?_
              refine HA.past (k := 29) rfl rfl (by kernel_rfl) (by kernel_rfl) (past_by rfl rfl c_11) rfl ?_
              refine HA.past (k := 30) rfl rfl (by kernel_rfl) (by kernel_rfl) (past_by rfl rfl c_11) rfl ?_
              refine HA.past (k := 31) rfl rfl (by kernel_rfl) (by kernel_rfl) (past_by rfl rfl c_11) rfl ?_
              refine HA.past (k := 32) rfl rfl (by kernel_rfl) (by kernel_rfl) (past_by rfl rfl c_11) rfl ?_
              refine HA.one (k := 28) ⟨⟨(hS.box 0 rfl), (hS.box 1 rfl)⟩, (Go.Wk.at_nil _ _)⟩ (by kernel_rfl) ?_
              refine HS.past rfl (past_by rfl rfl c_11) rfl ?_
              refine HA.past (k := 33) rfl rfl (by kernel_rfl) (by kernel_rfl) (past_by rfl rfl c_11) rfl ?_
              refine HA.val (k := 34) (v := .bool false) rfl rfl (by kernel_rfl) (by kernel_rfl) (want_none) rfl (fun _ ⟨c240, c241⟩ => q_pickK false rfl c_11 rfl) ?_
              refine HA.val (k := 35) (v := .bool false) rfl rfl (by kernel_rfl) (by kernel_rfl) (want_none) rfl (fun _ ⟨c240, c241⟩ => q_move rfl) ?_
              refine HA.one (k := 36) ⟨⟨(hS.box 0 rfl), (hS.box 1 rfl)⟩, (Go.Wk.at_nil _ _)⟩ (by kernel_rfl) ?_
              refine HS.past rfl (past_some rfl rfl) rfl ?_
              refine HA.val (k := 37) (v := .bool false) rfl rfl (by kernel_rfl) (by kernel_rfl) (want_none) rfl (fun _ ⟨c240, c241⟩ => q_pick rfl rfl) ?_
              refine HA.val (k := 38) (v := .bool false) rfl rfl (by kernel_rfl) (by kernel_rfl) (want_none) rfl (fun _ ⟨c240, c241⟩ => q_assign rfl) ?_
              refine HA.nil ⟨⟨(hS.box 0 rfl), (hS.box 1 rfl)⟩, (Go.Wk.at_nil _ _)⟩ (by kernel_rfl) (thenQ_normal (?_))
              refine HW.ret (?_)
              refine ⟨.inr rfl, .bool false, res1 rfl (rt rfl), ?_⟩
              replace hS : St F_19 (fr) h_25 := hS.perm2 [] 2 rfl rfl
              exact ⟨F_19, false, rfl, hK, hS, hG_0, hG_1, hE_gvS, hG_2, hE_gvR, hG_3, hG_7, hM⟩
          · replace hM := hM.2 c_10
            refine HA.past (k := 20) rfl rfl (by kernel_rfl) (by kernel_rfl) (past_by rfl rfl c_10) rfl ?_
            refine HA.past (k := 22) rfl rfl (by kernel_rfl) (by kernel_rfl) (past_by rfl rfl c_10) rfl ?_
            refine HA.one (k := 21) ⟨⟨(hS.box 0 rfl), (hS.box 1 rfl)⟩, (Go.Wk.at_nil _ _)⟩ (by kernel_rfl) ?_
            refine HS.past rfl (past_by rfl rfl c_10) rfl ?_
            refine HA.one (k := 23) ⟨⟨(hS.box 0 rfl), (hS.box 1 rfl)⟩, (Go.Wk.at_nil _ _)⟩ (by kernel_rfl) ?_
            refine HS.past rfl (past_by rfl rfl c_10) rfl ?_
            refine HA.past (k := 24) rfl rfl (by kernel_rfl) (by kernel_rfl) (past_by rfl rfl c_10) rfl ?_
            refine HA.val (k := 25) (v := .bool false) rfl rfl (by kernel_rfl) (by kernel_rfl) (want_none) rfl (fun _ ⟨c240, c241⟩ => q_pickK false rfl c_10 rfl) ?_
            refine HA.val (k := 26) (v := .bool false) rfl rfl (by kernel_rfl) (by kernel_rfl) (want_none) rfl (fun _ ⟨c240, c241⟩ => q_move rfl) ?_
            refine HA.past (k := 27) rfl rfl (by kernel_rfl) (by kernel_rfl) (past_some rfl rfl) rfl ?_
            refine HA.past (k := 29) rfl rfl (by kernel_rfl) (by kernel_rfl) (past_some rfl rfl) rfl ?_
            refine HA.past (k := 30) rfl rfl (by kernel_rfl) (by kernel_rfl) (past_some rfl rfl) rfl ?_
            refine HA.past (k := 31) rfl rfl (by kernel_rfl) (by kernel_rfl) (past_some rfl rfl) rfl ?_
            refine HA.past (k := 32) rfl rfl (by kernel_rfl) (by kernel_rfl) (past_some rfl rfl) rfl ?_
            refine HA.one (k := 28) ⟨⟨(hS.box 0 rfl), (hS.box 1 rfl)⟩, (Go.Wk.at_nil _ _)⟩ (by kernel_rfl) ?_
            refine HS.past rfl (past_some rfl rfl) rfl ?_
            refine HA.past (k := 33) rfl rfl (by kernel_rfl) (by kernel_rfl) (past_some rfl rfl) rfl ?_
            refine HA.val (k := 34) (v := .bool false) rfl rfl (by kernel_rfl) (by kernel_rfl) (want_none) rfl (fun _ ⟨c240, c241⟩ => q_pick rfl rfl) ?_
            refine HA.val (k := 35) (v := .bool false) rfl rfl (by kernel_rfl) (by kernel_rfl) (want_none) rfl (fun _ ⟨c240, c241⟩ => q_move rfl) ?_
            refine HA.one (k := 36) ⟨⟨(hS.box 0 rfl), (hS.box 1 rfl)⟩, (Go.Wk.at_nil _ _)⟩ (by kernel_rfl) ?_
            refine HS.past rfl (past_some rfl rfl) rfl ?_
            refine HA.val (k := 37) (v := .bool false) rfl rfl (by kernel_rfl) (by kernel_rfl) (want_none) rfl (fun _ ⟨c240, c241⟩ => q_pick rfl rfl) ?_
            refine HA.val (k := 38) (v := .bool false) rfl rfl (by kernel_rfl) (by kernel_rfl) (want_none) rfl (fun _ ⟨c240, c241⟩ => q_assign rfl) ?_
            refine HA.nil ⟨⟨(hS.box 0 rfl), (hS.box 1 rfl)⟩, (Go.Wk.at_nil _ _)⟩ (by kernel_rfl) (thenQ_normal (?_))
            refine HW.ret (?_)
            refine ⟨.inr rfl, .bool false, res1 rfl (rt rfl), ?_⟩
            replace hS : St F_17 (fr) h_23 := hS.perm2 [] 2 rfl rfl
            exact ⟨F_17, false, rfl, hK, hS, hG_0, hG_1, hE_gvS, hG_2, hE_gvR, hG_3, hG_7, hM⟩
        · replace hM := hM.2 c_9
          refine HA.past (k := 13) rfl rfl (by kernel_rfl) (by kernel_rfl) (past_by rfl rfl c_9) rfl ?_
          refine HA.past (k := 15) rfl rfl (by kernel_rfl) (by kernel_rfl) (past_by rfl rfl c_9) rfl ?_
          refine HA.one (k := 14) ⟨⟨(hS.box 0 rfl), (hS.box 1 rfl)⟩, (Go.Wk.at_nil _ _)⟩ (by kernel_rfl) ?_
          refine HS.past rfl (past_by rfl rfl c_9) rfl ?_
          refine HA.one (k := 16) ⟨⟨(hS.box 0 rfl), (hS.box 1 rfl)⟩, (Go.Wk.at_nil _ _)⟩ (by kernel_rfl) ?_
          refine HS.past rfl (past_by rfl rfl c_9) rfl ?_
          refine HA.past (k := 17) rfl rfl (by kernel_rfl) (by kernel_rfl) (past_by rfl rfl c_9) rfl ?_
          refine HA.val (k := 18) (v := .bool false) rfl rfl (by kernel_rfl) (by kernel_rfl) (want_none) rfl (fun _ ⟨c240, c241⟩ => q_pickK false rfl c_9 rfl) ?_
          refine HA.val (k := 19) (v := .bool false) rfl rfl (by kernel_rfl) (by kernel_rfl) (want_none) rfl (fun _ ⟨c240, c241⟩ => q_move rfl) ?_
          refine HA.past (k := 20) rfl rfl (by kernel_rfl) (by kernel_rfl) (past_some rfl rfl) rfl ?_
          refine HA.past (k := 22) rfl rfl (by kernel_rfl) (by kernel_rfl) (past_some rfl rfl) rfl ?_
          refine HA.one (k := 21) ⟨⟨(hS.box 0 rfl), (hS.box 1 rfl)⟩, (Go.Wk.at_nil _ _)⟩ (by kernel_rfl) ?_
          refine HS.past rfl (past_some rfl rfl) rfl ?_
          refine HA.one (k := 23) ⟨⟨(hS.box 0 rfl), (hS.box 1 rfl)⟩, (Go.Wk.at_nil _ _)⟩ (by kernel_rfl) ?_
          refine HS.past rfl (past_some rfl rfl) rfl ?_
          refine HA.past (k := 24) rfl rfl (by kernel_rfl) (by kernel_rfl) (past_some rfl rfl) rfl ?_
          refine HA.val (k := 25) (v := .bool false) rfl rfl (by kernel_rfl) (by kernel_rfl) (want_none) rfl (fun _ ⟨c240, c241⟩ => q_pick rfl rfl) ?_
          refine HA.val (k := 26) (v := .bool false) rfl rfl (by kernel_rfl) (by kernel_rfl) (want_none) rfl (fun _ ⟨c240, c241⟩ => q_move rfl) ?_
          refine HA.past (k := 27) rfl rfl (by kernel_rfl) (by kernel_rfl) (past_some rfl rfl) rfl ?_
          refine HA.past (k := 29) rfl rfl (by kernel_rfl) (by kernel_rfl) (past_some rfl rfl) rfl ?_
          refine HA.past (k := 30) rfl rfl (by kernel_rfl) (by kernel_rfl) (past_some rfl rfl) rfl ?_
          refine HA.past (k := 31) rfl rfl (by kernel_rfl) (by kernel_rfl) (past_some rfl rfl) rfl ?_
          refine HA.past (k := 32) rfl rfl (by kernel_rfl) (by kernel_rfl) (past_some rfl rfl) rfl ?_
          refine HA.one (k := 28) ⟨⟨(hS.box 0 rfl), (hS.box 1 rfl)⟩, (Go.Wk.at_nil _ _)⟩ (by kernel_rfl) ?_
          refine HS.past rfl (past_some rfl rfl) rfl ?_
          refine HA.past (k := 33) rfl rfl (by kernel_rfl) (by kernel_rfl) (past_some rfl rfl) rfl ?_
          refine HA.val (k := 34) (v := .bool false) rfl rfl (by kernel_rfl) (by kernel_rfl) (want_none) rfl (fun _ ⟨c240, c241⟩ => q_pick rfl rfl) ?_
          refine HA.val (k := 35) (v := .bool false) rfl rfl (by kernel_rfl) (by kernel_rfl) (want_none) rfl (fun _ ⟨c240, c241⟩ => q_move rfl) ?_
          refine HA.one (k := 36) ⟨⟨(hS.box 0 rfl), (hS.box 1 rfl)⟩, (Go.Wk.at_nil _ _)⟩ (by kernel_rfl) ?_
          refine HS.past rfl (past_some rfl rfl) rfl ?_
          refine HA.val (k := 37) (v := .bool false) rfl rfl (by kernel_rfl) (by kernel_rfl) (want_none) rfl (fun _ ⟨c240, c241⟩ => q_pick rfl rfl) ?_
          refine HA.val (k := 38) (v := .bool false) rfl rfl (by kernel_rfl) (by kernel_rfl) (want_none) rfl (fun _ ⟨c240, c241⟩ => q_assign rfl) ?_
          refine HA.nil ⟨⟨(hS.box 0 rfl), (hS.box 1 rfl)⟩, (Go.Wk.at_nil _ _)⟩ (by kernel_rfl) (thenQ_normal (?_))
          refine HW.ret (?_)
          refine ⟨.inr rfl, .bool false, res1 rfl (rt rfl), ?_⟩
          replace hS : St F_15 (fr) h_21 := hS.perm2 [] 2 rfl rfl
          exact ⟨F_15, false, rfl, hK, hS, hG_0, hG_1, hE_gvS, hG_2, hE_gvR, hG_3, hG_7, hM⟩
      · replace hM := hM.2 c_8
        refine HA.past (k := 6) rfl rfl (by kernel_rfl) (by kernel_rfl) (past_by rfl rfl c_8) rfl ?_
        refine HA.past (k := 8) rfl rfl (by kernel_rfl) (by kernel_rfl) (past_by rfl rfl c_8) rfl ?_
        refine HA.one (k := 7) ⟨⟨(hS.box 0 rfl), (hS.box 1 rfl)⟩, (Go.Wk.at_nil _ _)⟩ (by kernel_rfl) ?_
        refine HS.past rfl (past_by rfl rfl c_8) rfl ?_
        refine HA.one (k := 9) ⟨⟨(hS.box 0 rfl), (hS.box 1 rfl)⟩, (Go.Wk.at_nil _ _)⟩ (by kernel_rfl) ?_
        refine HS.past rfl (past_by rfl rfl c_8) rfl ?_
        refine HA.past (k := 10) rfl rfl (by kernel_rfl) (by kernel_rfl) (past_by rfl rfl c_8) rfl ?_
        refine HA.val (k := 11) (v := .bool false) rfl rfl (by kernel_rfl) (by kernel_rfl) (want_none) rfl (fun _ ⟨c240, c241⟩ => q_pickK false rfl c_8 rfl) ?_
        refine HA.val (k := 12) (v := .bool false) rfl rfl (by kernel_rfl) (by kernel_rfl) (want_none) rfl (fun _ ⟨c240, c241⟩ => q_move rfl) ?_
        refine HA.past (k := 13) rfl rfl (by kernel_rfl) (by kernel_rfl) (past_some rfl rfl) rfl ?_
        refine HA.past (k := 15) rfl rfl (by kernel_rfl) (by kernel_rfl) (past_some rfl rfl) rfl ?_
        refine HA.one (k := 14) ⟨⟨(hS.box 0 rfl), (hS.box 1 rfl)⟩, (Go.Wk.at_nil _ _)⟩ (by kernel_rfl) ?_
        refine HS.past rfl (past_some rfl rfl) rfl ?_
        refine HA.one (k := 16) ⟨⟨(hS.box 0 rfl), (hS.box 1 rfl)⟩, (Go.Wk.at_nil _ _)⟩ (by kernel_rfl) ?_
        refine HS.past rfl (past_some rfl rfl) rfl ?_
        refine HA.past (k := 17) rfl rfl (by kernel_rfl) (by kernel_rfl) (past_some rfl rfl) rfl ?_
        refine HA.val (k := 18) (v := .bool false) rfl rfl (by kernel_rfl) (by kernel_rfl) (want_none) rfl (fun _ ⟨c240, c241⟩ => q_pick rfl rfl) ?_
        refine HA.val (k := 19) (v := .bool false) rfl rfl (by kernel_rfl) (by kernel_rfl) (want_none) rfl (fun _ ⟨c240, c241⟩ => q_move rfl) ?_
        refine HA.past (k := 20) rfl rfl (by kernel_rfl) (by kernel_rfl) (past_some rfl rfl) rfl ?_
        refine HA.past (k := 22) rfl rfl (by kernel_rfl) (by kernel_rfl) (past_some rfl rfl) rfl ?_
        refine HA.one (k := 21) ⟨⟨(hS.box 0 rfl), (hS.box 1 rfl)⟩, (Go.Wk.at_nil _ _)⟩ (by kernel_rfl) ?_
        refine HS.past rfl (past_some rfl rfl) rfl ?_
        refine HA.one (k := 23) ⟨⟨(hS.box 0 rfl), (hS.box 1 rfl)⟩, (Go.Wk.at_nil _ _)⟩ (by kernel_rfl) ?_
        refine HS.past rfl (past_some rfl rfl) rfl ?_
        refine HA.past (k := 24) rfl rfl (by kernel_rfl) (by kernel_rfl) (past_some rfl rfl) rfl ?_
        refine HA.val (k := 25) (v := .bool false) rfl rfl (by kernel_rfl) (by kernel_rfl) (want_none) rfl (fun _ ⟨c240, c241⟩ => q_pick rfl rfl) ?_
        refine HA.val (k := 26) (v := .bool false) rfl rfl (by kernel_rfl) (by kernel_rfl) (want_none) rfl (fun _ ⟨c240, c241⟩ => q_move rfl) ?_
        refine HA.past (k := 27) rfl rfl (by kernel_rfl) (by kernel_rfl) (past_some rfl rfl) rfl ?_
        refine HA.past (k := 29) rfl rfl (by kernel_rfl) (by kernel_rfl) (past_some rfl rfl) rfl ?_
        refine HA.past (k := 30) rfl rfl (by kernel_rfl) (by kernel_rfl) (past_some rfl rfl) rfl ?_
        refine HA.past (k := 31) rfl rfl (by kernel_rfl) (by kernel_rfl) (past_some rfl rfl) rfl ?_
        refine HA.past (k := 32) rfl rfl (by kernel_rfl) (by kernel_rfl) (past_some rfl rfl) rfl ?_
        refine HA.one (k := 28) ⟨⟨(hS.box 0 rfl), (hS.box 1 rfl)⟩, (Go.Wk.at_nil _ _)⟩ (by kernel_rfl) ?_
        refine HS.past rfl (past_some rfl rfl) rfl ?_
        refine HA.past (k := 33) rfl rfl (by kernel_rfl) (by kernel_rfl) (past_some rfl rfl) rfl ?_
        refine HA.val (k := 34) (v := .bool false) rfl rfl (by kernel_rfl) (by kernel_rfl) (want_none) rfl (fun _ ⟨c240, c241⟩ => q_pick rfl rfl) ?_
        refine HA.val (k := 35) (v := .bool false) rfl rfl (by kernel_rfl) (by kernel_rfl) (want_none) rfl (fun _ ⟨c240, c241⟩ => q_move rfl) ?_
        refine HA.one (k := 36) ⟨⟨(hS.box 0 rfl), (hS.box 1 rfl)⟩, (Go.Wk.at_nil _ _)⟩ (by kernel_rfl) ?_
        refine HS.past rfl (past_some rfl rfl) rfl ?_
        refine HA.val (k := 37) (v := .bool false) rfl rfl (by kernel_rfl) (by kernel_rfl) (want_none) rfl (fun _ ⟨c240, c241⟩ => q_pick rfl rfl) ?_
        refine HA.val (k := 38) (v := .bool false) rfl rfl (by kernel_rfl) (by kernel_rfl) (want_none) rfl (fun _ ⟨c240, c241⟩ => q_assign rfl) ?_
        refine HA.nil ⟨⟨(hS.box 0 rfl), (hS.box 1 rfl)⟩, (Go.Wk.at_nil _ _)⟩ (by kernel_rfl) (thenQ_normal (?_))
        refine HW.ret (?_)
        refine ⟨.inr rfl, .bool false, res1 rfl (rt rfl), ?_⟩
        replace hS : St F_13 (fr) h_19 := hS.perm2 [] 2 rfl rfl
        exact ⟨F_13, false, rfl, hK, hS, hG_0, hG_1, hE_gvS, hG_2, hE_gvR, hG_3, hG_7, hM⟩
end Go.Wk
