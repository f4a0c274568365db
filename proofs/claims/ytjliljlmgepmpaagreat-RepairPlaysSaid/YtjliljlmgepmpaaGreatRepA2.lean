/- Walks of repair: what both laws share. -/
import Derived.Test.YtjliljlmgepmpaaGreatRepA1
set_option linter.unusedSimpArgs false
set_option linter.unusedVariables false
set_option linter.unusedSectionVars false
set_option maxHeartbeats 40000000
set_option maxRecDepth 100000
namespace Go.Wk
open Go.HL
open Go.Proofs hiding encI
variable [DM]
def repair_join_j1 (tR : Int) (tL : List TB) (n : Int) (services : List Int) (Q : Int → (List TB) → Prop) (r_2 : List Int) (r_4 : List TB) (r_5 : Int) (b_4 : Bool) : Prop :=
 (b_4 = true → plan_Star_W tR r_2 (fun r_0_4 r_1_4 => Q r_0_4 r_1_4)) ∧ (b_4 = false → ((0 : Int) ≤ r_5 ∧ r_5 < (services.length : Int)) ∧ (tree_Next_W tR tL tR (fun r_6 => (I64 ((r_6.length : Int) - 1)) ∧ (((0 : Int) ≤ (r_6.length : Int) - 1 ∧ (r_6.length : Int) - 1 < (r_6.length : Int)) ∧ (∃ cf_2 : TB → Bool, (∀ x0, repair_join_2_W x0 (gi r_6 ((r_6.length : Int) - 1)) (fun r => r = cf_2 x0)) ∧ (slices_DeleteFunc_s_api_Branch_api_Branch_W r_4 cf_2 (fun r_7 => ((r_7.length + ([(tR, (gi services r_5)), ((gi services r_5), (gi r_6 ((r_6.length : Int) - 1))), ((gi services r_5), n)] : List TB).length) * 16 ≤ 140737488355328) ∧ (repair_of_W tR (r_7 ++ ([(tR, (gi services r_5)), ((gi services r_5), (gi r_6 ((r_6.length : Int) - 1))), ((gi services r_5), n)] : List TB)) (fun r_0_5 r_1_5 => Q r_0_5 r_1_5)))))))))
def repair_join_W (tR : Int) (tL : List TB) (n : Int) (services : List Int) (fan : Int) (Q : Int → (List TB) → Prop) : Prop :=
 tree_Leaves_W tR tL (fun r_1 => repair_with_W r_1 n (fun r_2 => repair_star_W tR tL fan (fun r_3 => (r_3 = true → plan_Make_W tR r_2 services fan (fun r_0_2 r_1_2 => Q r_0_2 r_1_2)) ∧ (r_3 = false → slices_Clone_s_api_Branch_api_Branch_W tL (fun r_4 => repair_room_W tR tL services fan (fun r0_1 r1_1 => (r1_1 = true → ((r_4.length + ([(r0_1, n)] : List TB).length) * 16 ≤ 140737488355328) ∧ (repair_of_W tR (r_4 ++ ([(r0_1, n)] : List TB)) (fun r_0_3 r_1_3 => Q r_0_3 r_1_3))) ∧ (r1_1 = false → ∃ cf_1 : Int → Bool, (∀ x0, repair_join_1_W x0 tR tL (fun r => r = cf_1 x0)) ∧ (slices_IndexFunc_s_int_int_W services cf_1 (fun r_5 => (r_5 < 0 → repair_join_j1 tR tL n services Q r_2 r_4 r_5 true) ∧ (¬ (r_5 < 0) → repair_join_j1 tR tL n services Q r_2 r_4 r_5 (decide (fan < 2))))))))))))
theorem repair_join_walk {F : Fz} {fr : List Ow} {h0 : Heap} (tR : Int) (tL : List TB) (n : Int) (services : List Int) (fan : Int) (vT : Value) (vs_ : Value) (hS : St F (fr) h0) (hLT : SliceF F h0 2 eB vT tL) (hLs : SliceF F h0 1 encI vs_ services) (hD : DM.on = false) {Q : Int → (List TB) → Prop} (hM : repair_join_W tR tL n services fan Q) :
  HC Tryz.prog 36 #[.agg #[.int .i64 tR, vT], .int .i64 n, vs_, .int .i64 fan] h0 fun u h' => ∃ (F' : Fz) (r_0_1 : Int) (r_1_1 : List TB) (vr_1_1 : Value), u = .agg #[.int .i64 r_0_1, vr_1_1] ∧ Kp F h0 F' h' ∧ St F' (Ow.own 52 2 eB vr_1_1 r_1_1 :: fr) h' ∧ (SliceF F' h' 2 eB vT tL) ∧ (SliceF F' h' 1 encI vs_ services) ∧ Q r_0_1 r_1_1 := by
 unfold repair_join_W at hM
 have hK := Kp.refl F h0
 refine HC.of_HW (n := 96) Tryz.func36 rfl rfl (Nat.le_of_ble_eq_true rfl) ?_
 refine HW.seq ?_
 refine HW.region ?_
 refine HO.eff (wn) rfl (st_box (c := #[.int .i64 tR, vT]) (k' := 2) hS rfl rfl) ?_
 rintro _ h_1 ⟨b_1, rfl, hS, hk⟩
 replace hK := hK.trans hk
 replace hLT := hLT.kp hk
 replace hLs := hLs.kp hk
 refine HO.eff (wn) rfl (st_alloc (c := #[.int .i64 0, .slice none 0 0]) hS tz_31 rfl) ?_
 rintro _ h_2 ⟨b_2, rfl, hS, hk⟩
 replace hK := hK.trans hk
 replace hLT := hLT.kp hk
 replace hLs := hLs.kp hk
 refine HO.nil (tqn (?_))
 refine HW.seq ?_
 refine HW.region ?_
 refine oV (.agg #[.int .i64 tR, vT]) (q_loadAgg (cs := [.int .i64 tR, vT]) ta_31 rfl rfl (Blk.cells (k := 2) (hS.box 1 rfl) rfl)) rfl ?_
 refine HO.call (wn) rfl (ec en_47 rfl rfl) (tree_Leaves_walk (fr := (Ow.box b_2 31 #[.int .i64 0, .slice none 0 0] :: Ow.box b_1 31 #[.int .i64 tR, vT] :: fr)) tR tL vT hS hLT hM) ?_
 rintro vr_1 h_3 ⟨F_1, r_1, _, rfl, hk, hS, _, hM⟩
 replace hK := hK.trans hk
 replace hLT := hLT.kp hk
 replace hLs := hLs.kp hk
 refine oM (.int .i64 n) rfl rfl ?_
 replace hS : St F_1 (Ow.own 3 1 encI vr_1 r_1 :: Ow.box b_2 31 #[.int .i64 0, .slice none 0 0] :: Ow.box b_1 31 #[.int .i64 tR, vT] :: fr) h_3 := hS
 have hZ_1 := hS
 have hkz_1 := (hS.freeze).2
 replace hS := hS.freeze.1
 have hL_1 : SliceF (fun bz_ => F_1 bz_ ∨ (Ow.own 3 1 encI vr_1 r_1).foot bz_) h_3 1 encI vr_1 r_1 := ⟨(hZ_1.own 0 rfl).slice, fun _ b hb => .inr hb⟩
 refine HO.call (wn) rfl (ec en_59 rfl rfl) (repair_with_walk (fr := (Ow.box b_2 31 #[.int .i64 0, .slice none 0 0] :: Ow.box b_1 31 #[.int .i64 tR, vT] :: fr)) r_1 n vr_1 hS hL_1 hD hM) ?_
 rintro vr_2 h_4 ⟨F_2, r_2, _, rfl, hk, hS, _, hM⟩
 obtain ⟨hS, hk⟩ := hZ_1.back hk hS
 generalize (fun bz_ => F_2 bz_ ∧ ¬ (Ow.own 3 1 encI vr_1 r_1).foot bz_) = F_3 at hS hk
 replace hK := hK.trans hk
 replace hLT := hLT.kp hk
 replace hLs := hLs.kp hk
 refine oA (vr_2) rfl rfl ?_
 refine HO.nil (tqn (?_))
 refine HW.seq ?_
 refine HW.seq ?_
 refine HW.region ?_
 refine oV (.agg #[.int .i64 tR, vT]) (q_loadAgg (cs := [.int .i64 tR, vT]) ta_31 rfl rfl (Blk.cells (k := 2) (hS.box 3 rfl) rfl)) rfl ?_
 refine oM (.int .i64 fan) rfl rfl ?_
 refine HO.call (wn) rfl (ec en_43 rfl rfl) (repair_star_walk (fr := (Ow.own 3 1 encI vr_1 r_1 :: Ow.own 3 1 encI vr_2 r_2 :: Ow.box b_2 31 #[.int .i64 0, .slice none 0 0] :: Ow.box b_1 31 #[.int .i64 tR, vT] :: fr)) tR tL fan vT hS hLT hM) ?_
 rintro _ h_5 ⟨F_4, r_3, rfl, hk, hS, _, hM⟩
 replace hK := hK.trans hk
 replace hLT := hLT.kp hk
 replace hLs := hLs.kp hk
 refine HO.nil (tqn (?_))
 refine HW.cond r_3 rfl (fun c_1 => ?_) (fun c_1 => ?_)
 ·
  replace hM := hM.1 c_1
  refine HW.seq ?_
  refine HW.region ?_
  refine oV (.pointer (some ⟨b_1, 0, none⟩)) (qfA fa_31_0 rfl rfl) rfl ?_
  refine oV (.int .i64 tR) (q_load to_3 rfl (Blk.cell (hS.box 3 rfl) rfl)) rfl ?_
  refine oM (vr_2) rfl rfl ?_
  refine oM (vs_) rfl rfl ?_
  refine oM (.int .i64 fan) rfl rfl ?_
  replace hS : St F_4 (Ow.own 3 1 encI vr_2 r_2 :: Ow.own 3 1 encI vr_1 r_1 :: Ow.box b_2 31 #[.int .i64 0, .slice none 0 0] :: Ow.box b_1 31 #[.int .i64 tR, vT] :: fr) h_5 := hS.perm2 [1, 0, 2, 3] 4 rfl rfl
  have hZ_2 := hS
  have hkz_2 := (hS.freeze).2
  replace hS := hS.freeze.1
  have hL_2 : SliceF (fun bz_ => F_4 bz_ ∨ (Ow.own 3 1 encI vr_2 r_2).foot bz_) h_5 1 encI vr_2 r_2 := ⟨(hZ_2.own 0 rfl).slice, fun _ b hb => .inr hb⟩
  refine HO.call (wn) rfl (ec en_46 rfl rfl) (plan_Make_walk (fr := (Ow.own 3 1 encI vr_1 r_1 :: Ow.box b_2 31 #[.int .i64 0, .slice none 0 0] :: Ow.box b_1 31 #[.int .i64 tR, vT] :: fr)) tR r_2 services fan vr_2 vs_ hS hL_2 (hLs.kp hkz_2) hD hM) ?_
  rintro _ h_6 ⟨F_5, r_0_2, r_1_2, vr_1_2, rfl, hk, hS, _, _, hM⟩
  obtain ⟨hS, hk⟩ := hZ_2.back hk hS
  generalize (fun bz_ => F_5 bz_ ∧ ¬ (Ow.own 3 1 encI vr_2 r_2).foot bz_) = F_6 at hS hk
  replace hK := hK.trans hk
  replace hLT := hLT.kp hk
  replace hLs := hLs.kp hk
  refine HO.sto (wn) rfl (st_storeAgg (c' := #[.int .i64 r_0_2, vr_1_2]) hS (i := 3) rfl ta_31 rfl rfl rfl (List.forall_mem_cons.2 ⟨rfl, (List.forall_mem_cons.2 ⟨(shp (hS.own 1 rfl).slice).one, (fun _ h => by cases h)⟩)⟩) (Nat.le_of_ble_eq_true rfl) rfl) ?_
  rintro h_7 ⟨hS, hk⟩
  replace hK := hK.trans hk
  replace hLT := hLT.kp hk
  replace hLs := hLs.kp hk
  refine HO.nil (tqn (?_))
  refine HW.ret (thenQ_ret (?_))
  refine ⟨.inr rfl, .agg #[.int .i64 r_0_2, vr_1_2], res1 rfl (rca (cs := [.int .i64 r_0_2, vr_1_2]) ta_31 rfl rfl (Blk.cells (k := 2) (hS.box 3 rfl) rfl)), ?_⟩
  replace hS : St F_6 (Ow.own 52 2 eB vr_1_2 r_1_2 :: fr) h_7 := hS.perm2 [1] 5 rfl rfl
  exact ⟨F_6, r_0_2, r_1_2, vr_1_2, rfl, hK, hS, hLT, hLs, hM⟩
 ·
  replace hM := hM.2 c_1
  refine HW.skip (tqn (?_))
  refine HW.seq ?_
  refine HW.region ?_
  refine oV (.pointer (some ⟨b_1, 1, none⟩)) (qfA fa_31_1 rfl rfl) rfl ?_
  refine oV (vT) (q_load to_29 rfl (Blk.cell (hS.box 3 rfl) rfl)) rfl ?_
  refine HO.call (wn) rfl (ec en_51 rfl rfl) (slices_Clone_s_api_Branch_api_Branch_walk (fr := (Ow.own 3 1 encI vr_1 r_1 :: Ow.own 3 1 encI vr_2 r_2 :: Ow.box b_2 31 #[.int .i64 0, .slice none 0 0] :: Ow.box b_1 31 #[.int .i64 tR, vT] :: fr)) tL vT hS hLT hM) ?_
  rintro vr_3 h_8 ⟨F_7, r_4, _, rfl, hk, hS, _, hM⟩
  replace hK := hK.trans hk
  replace hLT := hLT.kp hk
  replace hLs := hLs.kp hk
  refine oA (vr_3) rfl rfl ?_
  refine HO.nil (tqn (?_))
  refine HW.seq ?_
  refine HW.seq ?_
  refine HW.region ?_
  refine oV (.agg #[.int .i64 tR, vT]) (q_loadAgg (cs := [.int .i64 tR, vT]) ta_31 rfl rfl (Blk.cells (k := 2) (hS.box 4 rfl) rfl)) rfl ?_
  refine oM (vs_) rfl rfl ?_
  refine oM (.int .i64 fan) rfl rfl ?_
  refine HO.call (wn) rfl (ec en_60 rfl rfl) (repair_room_walk (fr := (Ow.own 52 2 eB vr_3 r_4 :: Ow.own 3 1 encI vr_1 r_1 :: Ow.own 3 1 encI vr_2 r_2 :: Ow.box b_2 31 #[.int .i64 0, .slice none 0 0] :: Ow.box b_1 31 #[.int .i64 tR, vT] :: fr)) tR tL services fan vT vs_ hS hLT hLs hM) ?_
  rintro _ h_9 ⟨F_8, r0_1, r1_1, rfl, hk, hS, _, _, hM⟩
  replace hK := hK.trans hk
  replace hLT := hLT.kp hk
  replace hLs := hLs.kp hk
  refine oM (.tuple #[.int .i64 r0_1, .bool r1_1]) rfl rfl ?_
  refine oV (.int .i64 r0_1) (q_extract rfl rfl) rfl ?_
  refine oV (.bool r1_1) (q_extract rfl rfl) rfl ?_
  refine oA (.int .i64 r0_1) rfl rfl ?_
  refine oA (.bool r1_1) rfl rfl ?_
  refine HO.nil (tqn (?_))
  refine HW.seq ?_
  refine HW.region ?_
  refine oM (.bool r1_1) rfl rfl ?_
  refine HO.nil (tqn (?_))
  refine HW.cond r1_1 rfl (fun c_2 => ?_) (fun c_2 => ?_)
  ·
   replace hM := hM.1 c_2
   refine HW.seq ?_
   refine HW.regionA 10 mixed (fun h => (Blk h b_1 (.cells #[.int .i64 tR, vT] 31 (0, 0)))) [] (by kernel_rfl) ?_
   refine HA.val (k := 0) (v := .pointer (some ⟨b_1, 0, none⟩)) rfl rfl (by kernel_rfl) (by kernel_rfl) (wn) rfl (fun _ c202 => qfA fa_31_0 rfl rfl) ?_
   refine HA.val (k := 1) (v := .int .i64 tR) rfl rfl (by kernel_rfl) (by kernel_rfl) (wn) rfl (fun _ c202 => q_load to_3 rfl (Blk.cell c202 rfl)) ?_
   refine HA.val (k := 2) (v := vr_3) rfl rfl (by kernel_rfl) (by kernel_rfl) (wn) rfl (fun _ c202 => q_move rfl) ?_
   refine HA.val (k := 3) (v := .int .i64 r0_1) rfl rfl (by kernel_rfl) (by kernel_rfl) (wn) rfl (fun _ c202 => q_move rfl) ?_
   refine HA.val (k := 4) (v := .int .i64 n) rfl rfl (by kernel_rfl) (by kernel_rfl) (wn) rfl (fun _ c202 => q_move rfl) ?_
   refine HA.val (k := 5) (v := .agg #[.int .i64 r0_1, .int .i64 n]) rfl rfl (by kernel_rfl) (by kernel_rfl) (wn) rfl (fun _ c202 => q_build tp_52 rfl) ?_
   refine HA.one (k := 6) ⟨(hS.box 4 rfl), (Go.Wk.at_nil _ _)⟩ (by kernel_rfl) ?_
   refine HS.eff rfl (wn) rfl (st_lit (enc := eB) (cells := #[.int .i64 r0_1, .int .i64 n]) #[.int .i64 0, .int .i64 0] ([(r0_1, n)] : List TB) hS tl_29 (by decide) (by decide) (by kernel_rfl) (by kernel_rfl) rfl (by intro x hx; rfl) rfl) ?_
   rintro _ h_10 ⟨b_3, rfl, hS, hk⟩
   replace hK := hK.trans hk
   replace hLT := hLT.kp hk
   replace hLs := hLs.kp hk
   refine HA.one (k := 7) ⟨(hS.box 5 rfl), (Go.Wk.at_nil _ _)⟩ (by kernel_rfl) ?_
   obtain ⟨ho_1, hM⟩ := hM
   refine HS.eff rfl (wn) rfl (st_append te_29 hS (i := 1) rfl (hS.own 0 rfl).slice rfl rfl rfl (by intro a _ u hu; simp [eB, encI, encN, encB, encT] at hu; rcases hu with rfl | rfl <;> rfl) ho_1 (by omega)) ?_
   rintro v_1 h_11 ⟨hS, hk⟩
   replace hK := hK.trans hk
   replace hLT := hLT.kp hk
   replace hLs := hLs.kp hk
   refine HA.one (k := 8) ⟨(hS.box 5 rfl), (Go.Wk.at_nil _ _)⟩ (by kernel_rfl) ?_
   replace hS : St F_8 (Ow.own 52 2 eB v_1 (r_4 ++ ([(r0_1, n)] : List TB)) :: Ow.own 52 2 eB (.slice (some ⟨b_3, 0, none⟩) 1 1) ([(r0_1, n)] : List TB) :: Ow.own 3 1 encI vr_1 r_1 :: Ow.own 3 1 encI vr_2 r_2 :: Ow.box b_2 31 #[.int .i64 0, .slice none 0 0] :: Ow.box b_1 31 #[.int .i64 tR, vT] :: fr) h_11 := hS.perm2 [1, 0, 2, 3, 4, 5] 6 rfl rfl
   have hZ_3 := hS
   have hkz_3 := (hS.freeze).2
   replace hS := hS.freeze.1
   have hL_3 : SliceF (fun bz_ => F_8 bz_ ∨ (Ow.own 52 2 eB v_1 (r_4 ++ ([(r0_1, n)] : List TB))).foot bz_) h_11 2 eB v_1 (r_4 ++ ([(r0_1, n)] : List TB)) := ⟨(hZ_3.own 0 rfl).slice, fun _ b hb => .inr hb⟩
   refine HS.call rfl (wn) rfl (ec en_50 rfl rfl) (repair_of_walk (fr := (Ow.own 52 2 eB (.slice (some ⟨b_3, 0, none⟩) 1 1) ([(r0_1, n)] : List TB) :: Ow.own 3 1 encI vr_1 r_1 :: Ow.own 3 1 encI vr_2 r_2 :: Ow.box b_2 31 #[.int .i64 0, .slice none 0 0] :: Ow.box b_1 31 #[.int .i64 tR, vT] :: fr)) tR (r_4 ++ ([(r0_1, n)] : List TB)) v_1 hS hL_3 hM) ?_
   rintro _ h_12 ⟨F_9, r_0_3, r_1_3, vr_1_3, rfl, hk, hS, _, hM⟩
   obtain ⟨hS, hk⟩ := hZ_3.back hk hS
   generalize (fun bz_ => F_9 bz_ ∧ ¬ (Ow.own 52 2 eB v_1 (r_4 ++ ([(r0_1, n)] : List TB))).foot bz_) = F_10 at hS hk
   replace hK := hK.trans hk
   replace hLT := hLT.kp hk
   replace hLs := hLs.kp hk
   refine HA.one (k := 9) ⟨(hS.box 6 rfl), (Go.Wk.at_nil _ _)⟩ (by kernel_rfl) ?_
   refine HS.sto rfl (wn) rfl (st_storeAgg (c' := #[.int .i64 r_0_3, vr_1_3]) hS (i := 5) rfl ta_31 rfl rfl rfl (List.forall_mem_cons.2 ⟨rfl, (List.forall_mem_cons.2 ⟨(shp (hS.own 1 rfl).slice).one, (fun _ h => by cases h)⟩)⟩) (Nat.le_of_ble_eq_true rfl) rfl) ?_
   rintro h_13 ⟨hS, hk⟩
   replace hK := hK.trans hk
   replace hLT := hLT.kp hk
   replace hLs := hLs.kp hk
   refine HA.nil ⟨(hS.box 6 rfl), (Go.Wk.at_nil _ _)⟩ (by kernel_rfl) (tqn (?_))
   refine HW.ret (thenQ_ret (?_))
   refine ⟨.inr rfl, .agg #[.int .i64 r_0_3, vr_1_3], res1 rfl (rca (cs := [.int .i64 r_0_3, vr_1_3]) ta_31 rfl rfl (Blk.cells (k := 2) (hS.box 5 rfl) rfl)), ?_⟩
   replace hS : St F_10 (Ow.own 52 2 eB vr_1_3 r_1_3 :: fr) h_13 := hS.perm2 [1] 7 rfl rfl
   exact ⟨F_10, r_0_3, r_1_3, vr_1_3, rfl, hK, hS, hLT, hLs, hM⟩
  ·
   replace hM := hM.2 c_2
   refine HW.skip (tqn (?_))
   refine HW.seq ?_
   refine HW.region ?_
   refine oM (vs_) rfl rfl ?_
   refine oV (.func (.func 62) #[] #[.pointer (some ⟨b_1, 0, none⟩)]) (q_makeFunc rfl rfl) rfl ?_
   replace hS : St F_8 (Ow.box b_1 31 #[.int .i64 tR, vT] :: Ow.own 52 2 eB vr_3 r_4 :: Ow.own 3 1 encI vr_1 r_1 :: Ow.own 3 1 encI vr_2 r_2 :: Ow.box b_2 31 #[.int .i64 0, .slice none 0 0] :: fr) h_9 := hS.perm2 [4, 0, 1, 2, 3] 5 rfl rfl
   have hZ_4 := hS
   have hkz_4 := (hS.freeze).2
   replace hS := hS.freeze.1
   have hL_4 := hZ_4.lent
   obtain ⟨cf_1, hc_1, hM⟩ := hM
   have hF_1 : FnP Tryz.prog (fun bz_ => F_8 bz_ ∨ (Ow.box b_1 31 #[.int .i64 tR, vT]).foot bz_) h_9 62 #[] #[.pointer (some ⟨b_1, 0, none⟩)] (fun x : Int => [.int .i64 x]) (fun x => .bool (cf_1 x)) := FnP.of en_62 (fun x h' hk_ => @HC.mono ⟨true⟩ _ _ _ _ _ _ (@repair_join_1_walk ⟨true⟩ (allF h') [] h' x tR tL b_1 vT (St.init h') ((hLT.kp hkz_4).kp hk_) (hL_4.kp hk_) (fun r => r = cf_1 x) (hc_1 x)) (fun u h'' ⟨F', r, hu, k_, _, _, _, hr⟩ => ⟨by rw [hu, hr], F', k_⟩))
   refine HO.call (wn) rfl (ec en_61 rfl rfl) (slices_IndexFunc_s_int_int_walk (fr := (Ow.own 52 2 eB vr_3 r_4 :: Ow.own 3 1 encI vr_1 r_1 :: Ow.own 3 1 encI vr_2 r_2 :: Ow.box b_2 31 #[.int .i64 0, .slice none 0 0] :: fr)) services cf_1 vs_ 62 (#[]) (#[.pointer (some ⟨b_1, 0, none⟩)]) hS (hLs.kp hkz_4) hF_1 hM) ?_
   rintro _ h_14 ⟨F_11, r_5, rfl, hk, hS, _, _, hM⟩
   obtain ⟨hS, hk⟩ := hZ_4.back hk hS
   generalize (fun bz_ => F_11 bz_ ∧ ¬ (Ow.box b_1 31 #[.int .i64 tR, vT]).foot bz_) = F_12 at hS hk
   replace hK := hK.trans hk
   replace hLT := hLT.kp hk
   replace hLs := hLs.kp hk
   refine oA (.int .i64 r_5) rfl rfl ?_
   refine HO.nil (tqn (?_))
   refine HW.seq ?_
   refine HW.seq_mid (fun f h => ∃ (F' : Fz) (b_4 : Bool), f 1 = .int .i64 n ∧ f 2 = vs_ ∧ f 4 = .pointer (some ⟨b_1, 0, none⟩) ∧ f 8 = .pointer (some ⟨b_2, 0, none⟩) ∧ f 9 = vr_2 ∧ f 10 = vr_3 ∧ f 13 = .int .i64 r_5 ∧ f 58 = .bool b_4 ∧ Kp F h0 F' h ∧ St F' (Ow.box b_1 31 #[.int .i64 tR, vT] :: Ow.box b_2 31 #[.int .i64 0, .slice none 0 0] :: Ow.own 3 1 encI vr_2 r_2 :: Ow.own 52 2 eB vr_3 r_4 :: fr) h ∧ (SliceF F' h 2 eB vT tL) ∧ (SliceF F' h 1 encI vs_ services) ∧ repair_join_j1 tR tL n services Q r_2 r_4 r_5 b_4) ?_ ?_
   ·
    refine HW.region ?_
    refine oM (.int .i64 r_5) rfl rfl ?_
    refine oV (.bool (decide (r_5 < 0))) (q_lss rfl rfl) rfl ?_
    refine oM (.bool (decide (r_5 < 0))) rfl rfl ?_
    rcases Bool.eq_false_or_eq_true (decide (r_5 < 0)) with c_3 | c_3
    ·
     replace hM := hM.1 (of_decide_eq_true c_3)
     refine HO.past (pby rfl rfl c_3) rfl ?_
     refine HO.past (pby rfl rfl c_3) rfl ?_
     refine oV (.bool true) (q_pickK true rfl c_3 rfl) rfl ?_
     refine HO.nil (tqn (?_))
     replace hS : St F_12 (Ow.box b_1 31 #[.int .i64 tR, vT] :: Ow.box b_2 31 #[.int .i64 0, .slice none 0 0] :: Ow.own 3 1 encI vr_2 r_2 :: Ow.own 52 2 eB vr_3 r_4 :: fr) h_14 := hS.perm2 [0, 4, 3, 1] 5 rfl rfl
     exact ⟨F_12, true, rfl, rfl, rfl, rfl, rfl, rfl, rfl, rfl, hK, hS, hLT, hLs, hM⟩
    ·
     replace hM := hM.2 (of_decide_eq_false c_3)
     refine HO.val (v := .int .i64 fan) (wby rfl rfl c_3) rfl (q_move rfl) ?_
     refine HO.val (v := .bool (decide (fan < 2))) (wby rfl rfl c_3) rfl (q_lss rfl rfl) ?_
     refine oV (.bool (decide (fan < 2))) (q_pickK false rfl c_3 rfl) rfl ?_
     refine HO.nil (tqn (?_))
     replace hS : St F_12 (Ow.box b_1 31 #[.int .i64 tR, vT] :: Ow.box b_2 31 #[.int .i64 0, .slice none 0 0] :: Ow.own 3 1 encI vr_2 r_2 :: Ow.own 52 2 eB vr_3 r_4 :: fr) h_14 := hS.perm2 [0, 4, 3, 1] 5 rfl rfl
     exact ⟨F_12, decide (fan < 2), rfl, rfl, rfl, rfl, rfl, rfl, rfl, rfl, hK, hS, hLT, hLs, hM⟩
   ·
    rintro f_1 h_15 ⟨F_13, b_4, e1, e2, e4, e8, e9, e10, e13, e58, hK, hS, hLT, hLs, hM⟩
    unfold repair_join_j1 at hM
    refine HW.fr [(1, .int .i64 n), (2, vs_), (4, .pointer (some ⟨b_1, 0, none⟩)), (8, .pointer (some ⟨b_2, 0, none⟩)), (9, vr_2), (10, vr_3), (13, .int .i64 r_5), (58, .bool b_4)] ⟨e1, e2, e4, e8, e9, e10, e13, e58, trivial⟩ ?_
    refine HW.cond b_4 rfl (fun c_4 => ?_) (fun c_4 => ?_)
    ·
     replace hM := hM.1 c_4
     refine HW.seq ?_
     refine HW.region ?_
     refine oV (.pointer (some ⟨b_1, 0, none⟩)) (qfA fa_31_0 rfl rfl) rfl ?_
     refine oV (.int .i64 tR) (q_load to_3 rfl (Blk.cell (hS.box 0 rfl) rfl)) rfl ?_
     refine oM (vr_2) rfl rfl ?_
     replace hS : St F_13 (Ow.own 3 1 encI vr_2 r_2 :: Ow.box b_1 31 #[.int .i64 tR, vT] :: Ow.box b_2 31 #[.int .i64 0, .slice none 0 0] :: Ow.own 52 2 eB vr_3 r_4 :: fr) h_15 := hS.perm2 [2, 0, 1, 3] 4 rfl rfl
     have hZ_5 := hS
     have hkz_5 := (hS.freeze).2
     replace hS := hS.freeze.1
     have hL_5 : SliceF (fun bz_ => F_13 bz_ ∨ (Ow.own 3 1 encI vr_2 r_2).foot bz_) h_15 1 encI vr_2 r_2 := ⟨(hZ_5.own 0 rfl).slice, fun _ b hb => .inr hb⟩
     refine HO.call (wn) rfl (ec en_63 rfl rfl) (plan_Star_walk (fr := (Ow.box b_1 31 #[.int .i64 tR, vT] :: Ow.box b_2 31 #[.int .i64 0, .slice none 0 0] :: Ow.own 52 2 eB vr_3 r_4 :: fr)) tR r_2 vr_2 hS hL_5 hM) ?_
     rintro _ h_16 ⟨F_14, r_0_4, r_1_4, vr_1_4, rfl, hk, hS, _, hM⟩
     obtain ⟨hS, hk⟩ := hZ_5.back hk hS
     generalize (fun bz_ => F_14 bz_ ∧ ¬ (Ow.own 3 1 encI vr_2 r_2).foot bz_) = F_15 at hS hk
     replace hK := hK.trans hk
     replace hLT := hLT.kp hk
     replace hLs := hLs.kp hk
     refine HO.sto (wn) rfl (st_storeAgg (c' := #[.int .i64 r_0_4, vr_1_4]) hS (i := 3) rfl ta_31 rfl rfl rfl (List.forall_mem_cons.2 ⟨rfl, (List.forall_mem_cons.2 ⟨(shp (hS.own 1 rfl).slice).one, (fun _ h => by cases h)⟩)⟩) (Nat.le_of_ble_eq_true rfl) rfl) ?_
     rintro h_17 ⟨hS, hk⟩
     replace hK := hK.trans hk
     replace hLT := hLT.kp hk
     replace hLs := hLs.kp hk
     refine HO.nil (tqn (?_))
     refine HW.ret (thenQ_ret (?_))
     refine ⟨.inr rfl, .agg #[.int .i64 r_0_4, vr_1_4], res1 rfl (rca (cs := [.int .i64 r_0_4, vr_1_4]) ta_31 rfl rfl (Blk.cells (k := 2) (hS.box 3 rfl) rfl)), ?_⟩
     replace hS : St F_15 (Ow.own 52 2 eB vr_1_4 r_1_4 :: fr) h_17 := hS.perm2 [1] 5 rfl rfl
     exact ⟨F_15, r_0_4, r_1_4, vr_1_4, rfl, hK, hS, hLT, hLs, hM⟩
    ·
     replace hM := hM.2 c_4
     refine HW.skip (tqn (?_))
     refine HW.seq ?_
     refine HW.region ?_
     refine oM (vs_) rfl rfl ?_
     refine oM (.int .i64 r_5) rfl rfl ?_
     obtain ⟨ho_2, hM⟩ := hM
     refine oV (elemPtr 1 vs_ (r_5).toNat) (q_idx ts_22 hLs.is rfl rfl ho_2) rfl ?_
     refine oV (.int .i64 (gi services r_5)) (q_ldElem to_3 hLs.is rfl ho_2 rfl) rfl ?_
     refine oA (.int .i64 (gi services r_5)) rfl rfl ?_
     refine HO.nil (tqn (?_))
     refine HW.seq ?_
     refine HW.region ?_
     refine oV (.agg #[.int .i64 tR, vT]) (q_loadAgg (cs := [.int .i64 tR, vT]) ta_31 rfl rfl (Blk.cells (k := 2) (hS.box 0 rfl) rfl)) rfl ?_
     refine oV (.pointer (some ⟨b_1, 0, none⟩)) (qfA fa_31_0 rfl rfl) rfl ?_
     refine oV (.int .i64 tR) (q_load to_3 rfl (Blk.cell (hS.box 0 rfl) rfl)) rfl ?_
     refine HO.call (wn) rfl (ec en_64 rfl rfl) (tree_Next_walk (fr := (Ow.box b_1 31 #[.int .i64 tR, vT] :: Ow.box b_2 31 #[.int .i64 0, .slice none 0 0] :: Ow.own 3 1 encI vr_2 r_2 :: Ow.own 52 2 eB vr_3 r_4 :: fr)) tR tL tR vT hS hLT hM) ?_
     rintro vr_4 h_18 ⟨F_16, r_6, _, rfl, hk, hS, _, hL_6, hM⟩
     replace hK := hK.trans hk
     replace hLT := hLT.kp hk
     replace hLs := hLs.kp hk
     refine oA (vr_4) rfl rfl ?_
     refine HO.nil (tqn (?_))
     refine HW.seq ?_
     refine HW.region ?_
     refine oM (vr_4) rfl rfl ?_
     refine oM (vr_4) rfl rfl ?_
     refine oV (.int .i64 (r_6.length : Int)) (q_len ts_22 (shp hL_6.is) rfl rfl) rfl ?_
     obtain ⟨ho_3, hM⟩ := hM
     refine oV (.int .i64 ((r_6.length : Int) - 1)) (q_subN _ rfl rfl rfl ho_3.1 ho_3.2) rfl ?_
     obtain ⟨ho_4, hM⟩ := hM
     refine oV (elemPtr 1 vr_4 ((r_6.length : Int) - 1).toNat) (q_idx ts_22 hL_6.is rfl rfl ho_4) rfl ?_
     refine oV (.int .i64 (gi r_6 ((r_6.length : Int) - 1))) (q_ldElem to_3 hL_6.is rfl ho_4 rfl) rfl ?_
     refine HO.eff (wn) rfl (st_alloc (c := #[.int .i64 0]) hS tz_3 rfl) ?_
     rintro _ h_19 ⟨b_5, rfl, hS, hk⟩
     replace hK := hK.trans hk
     replace hLT := hLT.kp hk
     replace hLs := hLs.kp hk
     refine HO.sto (wn) rfl (st_store (c' := #[.int .i64 (gi r_6 ((r_6.length : Int) - 1))]) hS (i := 0) rfl to_3 rfl rfl rfl rfl (Nat.le_of_ble_eq_true rfl) rfl) ?_
     rintro h_20 ⟨hS, hk⟩
     replace hK := hK.trans hk
     replace hLT := hLT.kp hk
     replace hLs := hLs.kp hk
     refine HO.nil (tqn (?_))
     refine HW.seq ?_
     refine HW.region ?_
     refine oM (vr_3) rfl rfl ?_
     refine oV (.func (.func 65) #[] #[.pointer (some ⟨b_5, 0, none⟩)]) (q_makeFunc rfl rfl) rfl ?_
     replace hS : St F_16 (Ow.box b_5 3 #[.int .i64 (gi r_6 ((r_6.length : Int) - 1))] :: Ow.box b_1 31 #[.int .i64 tR, vT] :: Ow.box b_2 31 #[.int .i64 0, .slice none 0 0] :: Ow.own 3 1 encI vr_2 r_2 :: Ow.own 52 2 eB vr_3 r_4 :: fr) h_20 := hS
     have hZ_6 := hS
     have hkz_6 := (hS.freeze).2
     replace hS := hS.freeze.1
     have hL_7 := hZ_6.lent
     obtain ⟨cf_2, hc_2, hM⟩ := hM
     have hF_2 : FnP Tryz.prog (fun bz_ => F_16 bz_ ∨ (Ow.box b_5 3 #[.int .i64 (gi r_6 ((r_6.length : Int) - 1))]).foot bz_) h_20 65 #[] #[.pointer (some ⟨b_5, 0, none⟩)] (fun x : TB => [.agg #[.int .i64 x.1, .int .i64 x.2]]) (fun x => .bool (cf_2 x)) := FnP.of en_65 (fun x h' hk_ => @HC.mono ⟨true⟩ _ _ _ _ _ _ (@repair_join_2_walk ⟨true⟩ (allF h') [] h' x (gi r_6 ((r_6.length : Int) - 1)) b_5 (St.init h') (hL_7.kp hk_) (fun r => r = cf_2 x) (hc_2 x)) (fun u h'' ⟨F', r, hu, k_, _, _, hr⟩ => ⟨by rw [hu, hr], F', k_⟩))
     replace hS : St (fun bz_ => F_16 bz_ ∨ (Ow.box b_5 3 #[.int .i64 (gi r_6 ((r_6.length : Int) - 1))]).foot bz_) (Ow.own 52 2 eB vr_3 r_4 :: Ow.box b_1 31 #[.int .i64 tR, vT] :: Ow.box b_2 31 #[.int .i64 0, .slice none 0 0] :: Ow.own 3 1 encI vr_2 r_2 :: fr) h_20 := hS.perm2 [3, 0, 1, 2] 4 rfl rfl
     refine HO.call (wn) rfl (ec en_55 rfl rfl) (slices_DeleteFunc_s_api_Branch_api_Branch_walk (fr := (Ow.box b_1 31 #[.int .i64 tR, vT] :: Ow.box b_2 31 #[.int .i64 0, .slice none 0 0] :: Ow.own 3 1 encI vr_2 r_2 :: fr)) r_4 cf_2 vr_3 65 (#[]) (#[.pointer (some ⟨b_5, 0, none⟩)]) hS hF_2 hM) ?_
     rintro vr_5 h_21 ⟨F_17, r_7, _, rfl, hk, hS, _, hM⟩
     obtain ⟨hS, hk⟩ := hZ_6.back hk hS
     generalize (fun bz_ => F_17 bz_ ∧ ¬ (Ow.box b_5 3 #[.int .i64 (gi r_6 ((r_6.length : Int) - 1))]).foot bz_) = F_18 at hS hk
     replace hK := hK.trans hk
     replace hLT := hLT.kp hk
     replace hLs := hLs.kp hk
     refine oA (vr_5) rfl rfl ?_
     refine HO.nil (tqn (?_))
     refine HW.seq ?_
     refine HW.regionA 17 mixed (fun h => (Blk h b_5 (.cells #[.int .i64 (gi r_6 ((r_6.length : Int) - 1))] 3 (0, 0))) ∧ (Blk h b_1 (.cells #[.int .i64 tR, vT] 31 (0, 0)))) [] (by kernel_rfl) ?_
     refine HA.val (k := 0) (v := .pointer (some ⟨b_1, 0, none⟩)) rfl rfl (by kernel_rfl) (by kernel_rfl) (wn) rfl (fun _ ⟨c211, c207⟩ => qfA fa_31_0 rfl rfl) ?_
     refine HA.val (k := 1) (v := .int .i64 tR) rfl rfl (by kernel_rfl) (by kernel_rfl) (wn) rfl (fun _ ⟨c211, c207⟩ => q_load to_3 rfl (Blk.cell c207 rfl)) ?_
     refine HA.val (k := 2) (v := vr_5) rfl rfl (by kernel_rfl) (by kernel_rfl) (wn) rfl (fun _ ⟨c211, c207⟩ => q_move rfl) ?_
     refine HA.val (k := 3) (v := .pointer (some ⟨b_1, 0, none⟩)) rfl rfl (by kernel_rfl) (by kernel_rfl) (wn) rfl (fun _ ⟨c211, c207⟩ => qfA fa_31_0 rfl rfl) ?_
     refine HA.val (k := 4) (v := .int .i64 tR) rfl rfl (by kernel_rfl) (by kernel_rfl) (wn) rfl (fun _ ⟨c211, c207⟩ => q_load to_3 rfl (Blk.cell c207 rfl)) ?_
     refine HA.val (k := 5) (v := .int .i64 (gi services r_5)) rfl rfl (by kernel_rfl) (by kernel_rfl) (wn) rfl (fun _ ⟨c211, c207⟩ => q_move rfl) ?_
     refine HA.val (k := 6) (v := .agg #[.int .i64 tR, .int .i64 (gi services r_5)]) rfl rfl (by kernel_rfl) (by kernel_rfl) (wn) rfl (fun _ ⟨c211, c207⟩ => q_build tp_52 rfl) ?_
     refine HA.val (k := 7) (v := .int .i64 (gi services r_5)) rfl rfl (by kernel_rfl) (by kernel_rfl) (wn) rfl (fun _ ⟨c211, c207⟩ => q_move rfl) ?_
     refine HA.val (k := 8) (v := .int .i64 (gi r_6 ((r_6.length : Int) - 1))) rfl rfl (by kernel_rfl) (by kernel_rfl) (wn) rfl (fun _ ⟨c211, c207⟩ => q_load to_3 rfl (Blk.cell c211 rfl)) ?_
     refine HA.val (k := 9) (v := .agg #[.int .i64 (gi services r_5), .int .i64 (gi r_6 ((r_6.length : Int) - 1))]) rfl rfl (by kernel_rfl) (by kernel_rfl) (wn) rfl (fun _ ⟨c211, c207⟩ => q_build tp_52 rfl) ?_
     refine HA.val (k := 10) (v := .int .i64 (gi services r_5)) rfl rfl (by kernel_rfl) (by kernel_rfl) (wn) rfl (fun _ ⟨c211, c207⟩ => q_move rfl) ?_
     refine HA.val (k := 11) (v := .int .i64 n) rfl rfl (by kernel_rfl) (by kernel_rfl) (wn) rfl (fun _ ⟨c211, c207⟩ => q_move rfl) ?_
     refine HA.val (k := 12) (v := .agg #[.int .i64 (gi services r_5), .int .i64 n]) rfl rfl (by kernel_rfl) (by kernel_rfl) (wn) rfl (fun _ ⟨c211, c207⟩ => q_build tp_52 rfl) ?_
     refine HA.one (k := 13) ⟨⟨(hS.box 0 rfl), (hS.box 2 rfl)⟩, (Go.Wk.at_nil _ _)⟩ (by kernel_rfl) ?_
     refine HS.eff rfl (wn) rfl (st_lit (enc := eB) (cells := #[.int .i64 tR, .int .i64 (gi services r_5), .int .i64 (gi services r_5), .int .i64 (gi r_6 ((r_6.length : Int) - 1)), .int .i64 (gi services r_5), .int .i64 n]) #[.int .i64 0, .int .i64 0, .int .i64 0, .int .i64 0, .int .i64 0, .int .i64 0] ([(tR, (gi services r_5)), ((gi services r_5), (gi r_6 ((r_6.length : Int) - 1))), ((gi services r_5), n)] : List TB) hS tl_29 (by decide) (by decide) (by kernel_rfl) (by kernel_rfl) rfl (by intro x hx; rfl) rfl) ?_
     rintro _ h_22 ⟨b_6, rfl, hS, hk⟩
     replace hK := hK.trans hk
     replace hLT := hLT.kp hk
     replace hLs := hLs.kp hk
     refine HA.one (k := 14) ⟨⟨(hS.box 1 rfl), (hS.box 3 rfl)⟩, (Go.Wk.at_nil _ _)⟩ (by kernel_rfl) ?_
     obtain ⟨ho_5, hM⟩ := hM
     refine HS.eff rfl (wn) rfl (st_append te_29 hS (i := 2) rfl (hS.own 0 rfl).slice rfl rfl rfl (by intro a _ u hu; simp [eB, encI, encN, encB, encT] at hu; rcases hu with rfl | rfl <;> rfl) ho_5 (by omega)) ?_
     rintro v_2 h_23 ⟨hS, hk⟩
     replace hK := hK.trans hk
     replace hLT := hLT.kp hk
     replace hLs := hLs.kp hk
     refine HA.one (k := 15) ⟨⟨(hS.box 1 rfl), (hS.box 3 rfl)⟩, (Go.Wk.at_nil _ _)⟩ (by kernel_rfl) ?_
     replace hS : St F_18 (Ow.own 52 2 eB v_2 (r_7 ++ ([(tR, (gi services r_5)), ((gi services r_5), (gi r_6 ((r_6.length : Int) - 1))), ((gi services r_5), n)] : List TB)) :: Ow.own 52 2 eB (.slice (some ⟨b_6, 0, none⟩) 3 3) ([(tR, (gi services r_5)), ((gi services r_5), (gi r_6 ((r_6.length : Int) - 1))), ((gi services r_5), n)] : List TB) :: Ow.box b_5 3 #[.int .i64 (gi r_6 ((r_6.length : Int) - 1))] :: Ow.box b_1 31 #[.int .i64 tR, vT] :: Ow.box b_2 31 #[.int .i64 0, .slice none 0 0] :: Ow.own 3 1 encI vr_2 r_2 :: fr) h_23 := hS.perm2 [2, 0, 1, 3, 4, 5] 6 rfl rfl
     have hZ_7 := hS
     have hkz_7 := (hS.freeze).2
     replace hS := hS.freeze.1
     have hL_8 : SliceF (fun bz_ => F_18 bz_ ∨ (Ow.own 52 2 eB v_2 (r_7 ++ ([(tR, (gi services r_5)), ((gi services r_5), (gi r_6 ((r_6.length : Int) - 1))), ((gi services r_5), n)] : List TB))).foot bz_) h_23 2 eB v_2 (r_7 ++ ([(tR, (gi services r_5)), ((gi services r_5), (gi r_6 ((r_6.length : Int) - 1))), ((gi services r_5), n)] : List TB)) := ⟨(hZ_7.own 0 rfl).slice, fun _ b hb => .inr hb⟩
     refine HS.call rfl (wn) rfl (ec en_50 rfl rfl) (repair_of_walk (fr := (Ow.own 52 2 eB (.slice (some ⟨b_6, 0, none⟩) 3 3) ([(tR, (gi services r_5)), ((gi services r_5), (gi r_6 ((r_6.length : Int) - 1))), ((gi services r_5), n)] : List TB) :: Ow.box b_5 3 #[.int .i64 (gi r_6 ((r_6.length : Int) - 1))] :: Ow.box b_1 31 #[.int .i64 tR, vT] :: Ow.box b_2 31 #[.int .i64 0, .slice none 0 0] :: Ow.own 3 1 encI vr_2 r_2 :: fr)) tR (r_7 ++ ([(tR, (gi services r_5)), ((gi services r_5), (gi r_6 ((r_6.length : Int) - 1))), ((gi services r_5), n)] : List TB)) v_2 hS hL_8 hM) ?_
     rintro _ h_24 ⟨F_19, r_0_5, r_1_5, vr_1_5, rfl, hk, hS, _, hM⟩
     obtain ⟨hS, hk⟩ := hZ_7.back hk hS
     generalize (fun bz_ => F_19 bz_ ∧ ¬ (Ow.own 52 2 eB v_2 (r_7 ++ ([(tR, (gi services r_5)), ((gi services r_5), (gi r_6 ((r_6.length : Int) - 1))), ((gi services r_5), n)] : List TB))).foot bz_) = F_20 at hS hk
     replace hK := hK.trans hk
     replace hLT := hLT.kp hk
     replace hLs := hLs.kp hk
     refine HA.one (k := 16) ⟨⟨(hS.box 3 rfl), (hS.box 4 rfl)⟩, (Go.Wk.at_nil _ _)⟩ (by kernel_rfl) ?_
     refine HS.sto rfl (wn) rfl (st_storeAgg (c' := #[.int .i64 r_0_5, vr_1_5]) hS (i := 5) rfl ta_31 rfl rfl rfl (List.forall_mem_cons.2 ⟨rfl, (List.forall_mem_cons.2 ⟨(shp (hS.own 1 rfl).slice).one, (fun _ h => by cases h)⟩)⟩) (Nat.le_of_ble_eq_true rfl) rfl) ?_
     rintro h_25 ⟨hS, hk⟩
     replace hK := hK.trans hk
     replace hLT := hLT.kp hk
     replace hLs := hLs.kp hk
     refine HA.nil ⟨⟨(hS.box 3 rfl), (hS.box 4 rfl)⟩, (Go.Wk.at_nil _ _)⟩ (by kernel_rfl) (tqn (?_))
     refine HW.ret (?_)
     refine ⟨.inr rfl, .agg #[.int .i64 r_0_5, vr_1_5], res1 rfl (rca (cs := [.int .i64 r_0_5, vr_1_5]) ta_31 rfl rfl (Blk.cells (k := 2) (hS.box 5 rfl) rfl)), ?_⟩
     replace hS : St F_20 (Ow.own 52 2 eB vr_1_5 r_1_5 :: fr) h_25 := hS.perm2 [1] 7 rfl rfl
     exact ⟨F_20, r_0_5, r_1_5, vr_1_5, rfl, hK, hS, hLT, hLs, hM⟩
def repair_Join_W (tR : Int) (tL : List TB) (n : Int) (services : List Int) (fan : Int) (Q : Int → (List TB) → Prop) : Prop :=
 repair_join_W tR tL n services fan (fun r_0_2 r_1_2 => Q r_0_2 r_1_2)
theorem repair_Join_walk {F : Fz} {fr : List Ow} {h0 : Heap} (tR : Int) (tL : List TB) (n : Int) (services : List Int) (fan : Int) (vT : Value) (vs_ : Value) (hS : St F (fr) h0) (hLT : SliceF F h0 2 eB vT tL) (hLs : SliceF F h0 1 encI vs_ services) (hD : DM.on = false) {Q : Int → (List TB) → Prop} (hM : repair_Join_W tR tL n services fan Q) :
  HC Tryz.prog 16 #[.agg #[.int .i64 tR, vT], .int .i64 n, vs_, .int .i64 fan] h0 fun u h' => ∃ (F' : Fz) (r_0_1 : Int) (r_1_1 : List TB) (vr_1_1 : Value), u = .agg #[.int .i64 r_0_1, vr_1_1] ∧ Kp F h0 F' h' ∧ St F' (Ow.own 52 2 eB vr_1_1 r_1_1 :: fr) h' ∧ (SliceF F' h' 2 eB vT tL) ∧ (SliceF F' h' 1 encI vs_ services) ∧ Q r_0_1 r_1_1 := by
 unfold repair_Join_W at hM
 have hK := Kp.refl F h0
 refine HC.of_HW (n := 14) Tryz.func16 rfl rfl (Nat.le_of_ble_eq_true rfl) ?_
 refine HW.seq ?_
 refine HW.region ?_
 refine HO.eff (wn) rfl (st_box (c := #[.int .i64 tR, vT]) (k' := 2) hS rfl rfl) ?_
 rintro _ h_1 ⟨b_1, rfl, hS, hk⟩
 replace hK := hK.trans hk
 replace hLT := hLT.kp hk
 replace hLs := hLs.kp hk
 refine HO.eff (wn) rfl (st_alloc (c := #[.int .i64 0, .slice none 0 0]) hS tz_31 rfl) ?_
 rintro _ h_2 ⟨b_2, rfl, hS, hk⟩
 replace hK := hK.trans hk
 replace hLT := hLT.kp hk
 replace hLs := hLs.kp hk
 refine HO.nil (tqn (?_))
 refine HW.seq ?_
 refine HW.region ?_
 refine oV (.agg #[.int .i64 tR, vT]) (q_loadAgg (cs := [.int .i64 tR, vT]) ta_31 rfl rfl (Blk.cells (k := 2) (hS.box 1 rfl) rfl)) rfl ?_
 refine oM (.int .i64 n) rfl rfl ?_
 refine oM (vs_) rfl rfl ?_
 refine oM (.int .i64 fan) rfl rfl ?_
 refine HO.call (wn) rfl (ec en_36 rfl rfl) (repair_join_walk (fr := (Ow.box b_2 31 #[.int .i64 0, .slice none 0 0] :: Ow.box b_1 31 #[.int .i64 tR, vT] :: fr)) tR tL n services fan vT vs_ hS hLT hLs hD hM) ?_
 rintro _ h_3 ⟨F_1, r_0_2, r_1_2, vr_1_2, rfl, hk, hS, _, _, hM⟩
 replace hK := hK.trans hk
 replace hLT := hLT.kp hk
 replace hLs := hLs.kp hk
 refine HO.sto (wn) rfl (st_storeAgg (c' := #[.int .i64 r_0_2, vr_1_2]) hS (i := 1) rfl ta_31 rfl rfl rfl (List.forall_mem_cons.2 ⟨rfl, (List.forall_mem_cons.2 ⟨(shp (hS.own 0 rfl).slice).one, (fun _ h => by cases h)⟩)⟩) (Nat.le_of_ble_eq_true rfl) rfl) ?_
 rintro h_4 ⟨hS, hk⟩
 replace hK := hK.trans hk
 replace hLT := hLT.kp hk
 replace hLs := hLs.kp hk
 refine HO.nil (tqn (?_))
 refine HW.ret (?_)
 refine ⟨.inr rfl, .agg #[.int .i64 r_0_2, vr_1_2], res1 rfl (rca (cs := [.int .i64 r_0_2, vr_1_2]) ta_31 rfl rfl (Blk.cells (k := 2) (hS.box 1 rfl) rfl)), ?_⟩
 replace hS : St F_1 (Ow.own 52 2 eB vr_1_2 r_1_2 :: fr) h_4 := hS.perm2 [0] 3 rfl rfl
 exact ⟨F_1, r_0_2, r_1_2, vr_1_2, rfl, hK, hS, hLT, hLs, hM⟩
def repair_without_1_W (x : Int) (c0_v : Int) (Q : Bool → Prop) : Prop :=
 Q (decide (x = c0_v))
theorem repair_without_1_walk {F : Fz} {fr : List Ow} {h0 : Heap} (x : Int) (c0_v : Int) (bc0 : Nat) (hS : St F (fr) h0) (hB_bc0 : RoF (Ow.box bc0 3 #[.int .i64 c0_v]) F h0) {Q : Bool → Prop} (hM : repair_without_1_W x c0_v Q) :
  HC Tryz.prog 83 #[.int .i64 x, .pointer (some ⟨bc0, 0, none⟩)] h0 fun u h' => ∃ (F' : Fz) (r_1 : Bool), u = .bool r_1 ∧ Kp F h0 F' h' ∧ St F' (fr) h' ∧ (RoF (Ow.box bc0 3 #[.int .i64 c0_v]) F' h') ∧ Q r_1 := by
 unfold repair_without_1_W at hM
 have hK := Kp.refl F h0
 refine HC.of_HW (n := 7) Tryz.func83 rfl rfl (Nat.le_of_ble_eq_true rfl) ?_
 refine HW.seq ?_
 refine HW.region ?_
 refine oA (.bool false) rfl rfl ?_
 refine HO.nil (tqn (?_))
 refine HW.seq ?_
 refine HW.region ?_
 refine oM (.int .i64 x) rfl rfl ?_
 refine oV (.int .i64 c0_v) (q_load to_3 rfl (Blk.cell hB_bc0.box rfl)) rfl ?_
 refine oV (.bool (decide (x = c0_v))) (q_eql rfl rfl) rfl ?_
 refine oA (.bool (decide (x = c0_v))) rfl rfl ?_
 refine HO.nil (tqn (?_))
 refine HW.ret (?_)
 refine ⟨.inr rfl, .bool (decide (x = c0_v)), res1 rfl (rt rfl), ?_⟩
 exact ⟨F, decide (x = c0_v), rfl, hK, hS, hB_bc0, hM⟩
def repair_without_W (l : List Int) (n : Int) (Q : (List Int) → Prop) : Prop :=
 slices_Clone_s_int_int_W l (fun r_2 => ∃ cf_1 : Int → Bool, (∀ x0, repair_without_1_W x0 n (fun r => r = cf_1 x0)) ∧ (slices_DeleteFunc_s_int_int_W r_2 cf_1 (fun r_3 => Q r_3)))
theorem repair_without_walk {F : Fz} {fr : List Ow} {h0 : Heap} (l : List Int) (n : Int) (vl : Value) (hS : St F (fr) h0) (hL_l : SliceF F h0 1 encI vl l) {Q : (List Int) → Prop} (hM : repair_without_W l n Q) :
  HC Tryz.prog 53 #[vl, .int .i64 n] h0 fun u h' => ∃ (F' : Fz) (r_1 : List Int) (vr_1 : Value), u = vr_1 ∧ Kp F h0 F' h' ∧ St F' (Ow.own 3 1 encI vr_1 r_1 :: fr) h' ∧ (SliceF F' h' 1 encI vl l) ∧ Q r_1 := by
 unfold repair_without_W at hM
 have hK := Kp.refl F h0
 refine HC.of_HW (n := 9) Tryz.func53 rfl rfl (Nat.le_of_ble_eq_true rfl) ?_
 refine HW.seq ?_
 refine HW.region ?_
 refine HO.eff (wn) rfl (st_box (c := #[.int .i64 n]) (k' := 1) hS rfl rfl) ?_
 rintro _ h_1 ⟨b_1, rfl, hS, hk⟩
 replace hK := hK.trans hk
 replace hL_l := hL_l.kp hk
 refine oA (.slice none 0 0) rfl rfl ?_
 refine HO.nil (tqn (?_))
 refine HW.seq ?_
 refine HW.region ?_
 refine oM (vl) rfl rfl ?_
 refine HO.call (wn) rfl (ec en_82 rfl rfl) (slices_Clone_s_int_int_walk (fr := (Ow.box b_1 3 #[.int .i64 n] :: fr)) l vl hS hL_l hM) ?_
 rintro vr_2 h_2 ⟨F_1, r_2, _, rfl, hk, hS, _, hM⟩
 replace hK := hK.trans hk
 replace hL_l := hL_l.kp hk
 refine oV (.func (.func 83) #[] #[.pointer (some ⟨b_1, 0, none⟩)]) (q_makeFunc rfl rfl) rfl ?_
 replace hS : St F_1 (Ow.box b_1 3 #[.int .i64 n] :: Ow.own 3 1 encI vr_2 r_2 :: fr) h_2 := hS.perm2 [1, 0] 2 rfl rfl
 have hZ_1 := hS
 have hkz_1 := (hS.freeze).2
 replace hS := hS.freeze.1
 have hL_1 := hZ_1.lent
 obtain ⟨cf_1, hc_1, hM⟩ := hM
 have hF_1 : FnP Tryz.prog (fun bz_ => F_1 bz_ ∨ (Ow.box b_1 3 #[.int .i64 n]).foot bz_) h_2 83 #[] #[.pointer (some ⟨b_1, 0, none⟩)] (fun x : Int => [.int .i64 x]) (fun x => .bool (cf_1 x)) := FnP.of en_83 (fun x h' hk_ => @HC.mono ⟨true⟩ _ _ _ _ _ _ (@repair_without_1_walk ⟨true⟩ (allF h') [] h' x n b_1 (St.init h') (hL_1.kp hk_) (fun r => r = cf_1 x) (hc_1 x)) (fun u h'' ⟨F', r, hu, k_, _, _, hr⟩ => ⟨by rw [hu, hr], F', k_⟩))
 refine HO.call (wn) rfl (ec en_77 rfl rfl) (slices_DeleteFunc_s_int_int_walk (fr := (fr)) r_2 cf_1 vr_2 83 (#[]) (#[.pointer (some ⟨b_1, 0, none⟩)]) hS hF_1 hM) ?_
 rintro vr_3 h_3 ⟨F_2, r_3, _, rfl, hk, hS, _, hM⟩
 obtain ⟨hS, hk⟩ := hZ_1.back hk hS
 generalize (fun bz_ => F_2 bz_ ∧ ¬ (Ow.box b_1 3 #[.int .i64 n]).foot bz_) = F_3 at hS hk
 replace hK := hK.trans hk
 replace hL_l := hL_l.kp hk
 refine oA (vr_3) rfl rfl ?_
 refine HO.nil (tqn (?_))
 refine HW.ret (?_)
 refine ⟨.inr rfl, vr_3, res1 rfl (rt rfl), ?_⟩
 replace hS : St F_3 (Ow.own 3 1 encI vr_3 r_3 :: fr) h_3 := hS.perm2 [1] 2 rfl rfl
 exact ⟨F_3, r_3, vr_3, rfl, hK, hS, hL_l, hM⟩
def tree_parent_1_W (l : TB) (c0_v : Int) (Q : Bool → Prop) : Prop :=
 Q (decide (l.2 = c0_v))
theorem tree_parent_1_walk {F : Fz} {fr : List Ow} {h0 : Heap} (l : TB) (c0_v : Int) (bc0 : Nat) (hS : St F (fr) h0) (hB_bc0 : RoF (Ow.box bc0 3 #[.int .i64 c0_v]) F h0) {Q : Bool → Prop} (hM : tree_parent_1_W l c0_v Q) :
  HC Tryz.prog 96 #[.agg #[.int .i64 l.1, .int .i64 l.2], .pointer (some ⟨bc0, 0, none⟩)] h0 fun u h' => ∃ (F' : Fz) (r_1 : Bool), u = .bool r_1 ∧ Kp F h0 F' h' ∧ St F' (fr) h' ∧ (RoF (Ow.box bc0 3 #[.int .i64 c0_v]) F' h') ∧ Q r_1 := by
 unfold tree_parent_1_W at hM
 have hK := Kp.refl F h0
 refine HC.of_HW (n := 8) Tryz.func96 rfl rfl (Nat.le_of_ble_eq_true rfl) ?_
 refine HW.seq ?_
 refine HW.region ?_
 refine HO.eff (wn) rfl (st_box (c := #[.int .i64 l.1, .int .i64 l.2]) (k' := 2) hS rfl rfl) ?_
 rintro _ h_1 ⟨b_1, rfl, hS, hk⟩
 replace hK := hK.trans hk
 replace hB_bc0 := hB_bc0.kp hk
 refine oA (.bool false) rfl rfl ?_
 refine HO.nil (tqn (?_))
 refine HW.seq ?_
 refine HW.region ?_
 refine oV (.pointer (some ⟨b_1, 1, none⟩)) (qfA fa_52_1 rfl rfl) rfl ?_
 refine oV (.int .i64 l.2) (q_load to_3 rfl (Blk.cell (hS.box 0 rfl) rfl)) rfl ?_
 refine oV (.int .i64 c0_v) (q_load to_3 rfl (Blk.cell hB_bc0.box rfl)) rfl ?_
 refine oV (.bool (decide (l.2 = c0_v))) (q_eql rfl rfl) rfl ?_
 refine oA (.bool (decide (l.2 = c0_v))) rfl rfl ?_
 refine HO.nil (tqn (?_))
 refine HW.ret (?_)
 refine ⟨.inr rfl, .bool (decide (l.2 = c0_v)), res1 rfl (rt rfl), ?_⟩
 replace hS : St F (fr) h_1 := hS.perm2 [] 1 rfl rfl
 exact ⟨F, decide (l.2 = c0_v), rfl, hK, hS, hB_bc0, hM⟩
def tree_parent_W (tR : Int) (tL : List TB) (n : Int) (Q : Int → Bool → Prop) : Prop :=
 ∃ cf_1 : TB → Bool, (∀ x0, tree_parent_1_W x0 n (fun r => r = cf_1 x0)) ∧ (slices_IndexFunc_s_api_Branch_api_Branch_W tL cf_1 (fun r_1 => (r_1 < 0 → Q 0 false) ∧ (¬ (r_1 < 0) → ((0 : Int) ≤ r_1 ∧ r_1 < (tL.length : Int)) ∧ (Q ((gi tL r_1).1) true))))
theorem tree_parent_walk {F : Fz} {fr : List Ow} {h0 : Heap} (tR : Int) (tL : List TB) (n : Int) (vT : Value) (hS : St F (fr) h0) (hLT : SliceF F h0 2 eB vT tL) {Q : Int → Bool → Prop} (hM : tree_parent_W tR tL n Q) :
  HC Tryz.prog 84 #[.agg #[.int .i64 tR, vT], .int .i64 n] h0 fun u h' => ∃ (F' : Fz) (r0_1 : Int) (r1_1 : Bool), u = .tuple #[.int .i64 r0_1, .bool r1_1] ∧ Kp F h0 F' h' ∧ St F' (fr) h' ∧ (SliceF F' h' 2 eB vT tL) ∧ Q r0_1 r1_1 := by
 unfold tree_parent_W at hM
 have hK := Kp.refl F h0
 refine HC.of_HW (n := 19) Tryz.func84 rfl rfl (Nat.le_of_ble_eq_true rfl) ?_
 refine HW.seq ?_
 refine HW.region ?_
 refine HO.eff (wn) rfl (st_box (c := #[.int .i64 tR, vT]) (k' := 2) hS rfl rfl) ?_
 rintro _ h_1 ⟨b_1, rfl, hS, hk⟩
 replace hK := hK.trans hk
 replace hLT := hLT.kp hk
 refine HO.eff (wn) rfl (st_box (c := #[.int .i64 n]) (k' := 1) hS rfl rfl) ?_
 rintro _ h_2 ⟨b_2, rfl, hS, hk⟩
 replace hK := hK.trans hk
 replace hLT := hLT.kp hk
 refine oA (.int .i64 0) rfl rfl ?_
 refine oA (.bool false) rfl rfl ?_
 refine HO.nil (tqn (?_))
 refine HW.seq ?_
 refine HW.region ?_
 refine oV (.pointer (some ⟨b_1, 1, none⟩)) (qfA fa_31_1 rfl rfl) rfl ?_
 refine oV (vT) (q_load to_29 rfl (Blk.cell (hS.box 1 rfl) rfl)) rfl ?_
 refine oV (.func (.func 96) #[] #[.pointer (some ⟨b_2, 0, none⟩)]) (q_makeFunc rfl rfl) rfl ?_
 replace hS : St F (Ow.box b_2 3 #[.int .i64 n] :: Ow.box b_1 31 #[.int .i64 tR, vT] :: fr) h_2 := hS
 have hZ_1 := hS
 have hkz_1 := (hS.freeze).2
 replace hS := hS.freeze.1
 have hL_1 := hZ_1.lent
 obtain ⟨cf_1, hc_1, hM⟩ := hM
 have hF_1 : FnP Tryz.prog (fun bz_ => F bz_ ∨ (Ow.box b_2 3 #[.int .i64 n]).foot bz_) h_2 96 #[] #[.pointer (some ⟨b_2, 0, none⟩)] (fun x : TB => [.agg #[.int .i64 x.1, .int .i64 x.2]]) (fun x => .bool (cf_1 x)) := FnP.of en_96 (fun x h' hk_ => @HC.mono ⟨true⟩ _ _ _ _ _ _ (@tree_parent_1_walk ⟨true⟩ (allF h') [] h' x n b_2 (St.init h') (hL_1.kp hk_) (fun r => r = cf_1 x) (hc_1 x)) (fun u h'' ⟨F', r, hu, k_, _, _, hr⟩ => ⟨by rw [hu, hr], F', k_⟩))
 refine HO.call (wn) rfl (ec en_85 rfl rfl) (slices_IndexFunc_s_api_Branch_api_Branch_walk (fr := (Ow.box b_1 31 #[.int .i64 tR, vT] :: fr)) tL cf_1 vT 96 (#[]) (#[.pointer (some ⟨b_2, 0, none⟩)]) hS (hLT.kp hkz_1) hF_1 hM) ?_
 rintro _ h_3 ⟨F_1, r_1, rfl, hk, hS, _, _, hM⟩
 obtain ⟨hS, hk⟩ := hZ_1.back hk hS
 generalize (fun bz_ => F_1 bz_ ∧ ¬ (Ow.box b_2 3 #[.int .i64 n]).foot bz_) = F_2 at hS hk
 replace hK := hK.trans hk
 replace hLT := hLT.kp hk
 refine oA (.int .i64 r_1) rfl rfl ?_
 refine HO.nil (tqn (?_))
 refine HW.seq ?_
 refine HW.seq ?_
 refine HW.region ?_
 refine oM (.int .i64 r_1) rfl rfl ?_
 refine oV (.bool (decide (r_1 < 0))) (q_lss rfl rfl) rfl ?_
 refine HO.nil (tqn (?_))
 refine HW.cond (decide (r_1 < 0)) rfl (fun c_1 => ?_) (fun c_1 => ?_)
 ·
  replace hM := hM.1 (of_decide_eq_true c_1)
  refine HW.seq ?_
  refine HW.region ?_
  refine oA (.int .i64 0) rfl rfl ?_
  refine oA (.bool false) rfl rfl ?_
  refine HO.nil (tqn (?_))
  refine HW.ret (thenQ_ret (?_))
  refine ⟨.inr rfl, .tuple #[.int .i64 0, .bool false], res2 rfl (rt rfl) (rt rfl), ?_⟩
  replace hS : St F_2 (fr) h_3 := hS.perm2 [] 2 rfl rfl
  exact ⟨F_2, 0, false, rfl, hK, hS, hLT, hM⟩
 ·
  replace hM := hM.2 (of_decide_eq_false c_1)
  refine HW.skip (tqn (?_))
  refine HW.seq ?_
  refine HW.region ?_
  refine oV (.pointer (some ⟨b_1, 1, none⟩)) (qfA fa_31_1 rfl rfl) rfl ?_
  refine oV (vT) (q_load to_29 rfl (Blk.cell (hS.box 1 rfl) rfl)) rfl ?_
  refine oM (.int .i64 r_1) rfl rfl ?_
  obtain ⟨ho_1, hM⟩ := hM
  refine oV (elemPtr 2 vT (r_1).toNat) (q_idx ts_29 hLT.is rfl rfl ho_1) rfl ?_
  refine oV (fieldPtr 2 vT (r_1).toNat 0) (q_fldElem fa_52_0 hLT.is rfl ho_1) rfl ?_
  refine oV (.int .i64 ((gi tL r_1).1)) (q_ldField to_3 hLT.is rfl ho_1 (by decide) rfl) rfl ?_
  refine oA (.int .i64 ((gi tL r_1).1)) rfl rfl ?_
  refine oA (.bool true) rfl rfl ?_
  refine HO.nil (tqn (?_))
  refine HW.ret (?_)
  refine ⟨.inr rfl, .tuple #[.int .i64 ((gi tL r_1).1), .bool true], res2 rfl (rt rfl) (rt rfl), ?_⟩
  replace hS : St F_2 (fr) h_3 := hS.perm2 [] 2 rfl rfl
  exact ⟨F_2, (gi tL r_1).1, true, rfl, hK, hS, hLT, hM⟩
def tree_Parent_W (tR : Int) (tL : List TB) (n : Int) (Q : Int → Bool → Prop) : Prop :=
 tree_parent_W tR tL n (fun r0_2 r1_2 => Q r0_2 r1_2)
theorem tree_Parent_walk {F : Fz} {fr : List Ow} {h0 : Heap} (tR : Int) (tL : List TB) (n : Int) (vT : Value) (hS : St F (fr) h0) (hLT : SliceF F h0 2 eB vT tL) {Q : Int → Bool → Prop} (hM : tree_Parent_W tR tL n Q) :
  HC Tryz.prog 54 #[.agg #[.int .i64 tR, vT], .int .i64 n] h0 fun u h' => ∃ (F' : Fz) (r0_1 : Int) (r1_1 : Bool), u = .tuple #[.int .i64 r0_1, .bool r1_1] ∧ Kp F h0 F' h' ∧ St F' (fr) h' ∧ (SliceF F' h' 2 eB vT tL) ∧ Q r0_1 r1_1 := by
 unfold tree_Parent_W at hM
 have hK := Kp.refl F h0
 refine HC.of_HW (n := 11) Tryz.func54 rfl rfl (Nat.le_of_ble_eq_true rfl) ?_
 refine HW.seq ?_
 refine HW.region ?_
 refine HO.eff (wn) rfl (st_box (c := #[.int .i64 tR, vT]) (k' := 2) hS rfl rfl) ?_
 rintro _ h_1 ⟨b_1, rfl, hS, hk⟩
 replace hK := hK.trans hk
 replace hLT := hLT.kp hk
 refine oA (.int .i64 0) rfl rfl ?_
 refine oA (.bool false) rfl rfl ?_
 refine HO.nil (tqn (?_))
 refine HW.seq ?_
 refine HW.region ?_
 refine oV (.agg #[.int .i64 tR, vT]) (q_loadAgg (cs := [.int .i64 tR, vT]) ta_31 rfl rfl (Blk.cells (k := 2) (hS.box 0 rfl) rfl)) rfl ?_
 refine oM (.int .i64 n) rfl rfl ?_
 refine HO.call (wn) rfl (ec en_84 rfl rfl) (tree_parent_walk (fr := (Ow.box b_1 31 #[.int .i64 tR, vT] :: fr)) tR tL n vT hS hLT hM) ?_
 rintro _ h_2 ⟨F_1, r0_2, r1_2, rfl, hk, hS, _, hM⟩
 replace hK := hK.trans hk
 replace hLT := hLT.kp hk
 refine oV (.int .i64 r0_2) (q_extract rfl rfl) rfl ?_
 refine oV (.bool r1_2) (q_extract rfl rfl) rfl ?_
 refine oA (.int .i64 r0_2) rfl rfl ?_
 refine oA (.bool r1_2) rfl rfl ?_
 refine HO.nil (tqn (?_))
 refine HW.ret (?_)
 refine ⟨.inr rfl, .tuple #[.int .i64 r0_2, .bool r1_2], res2 rfl (rt rfl) (rt rfl), ?_⟩
 replace hS : St F_1 (fr) h_2 := hS.perm2 [] 1 rfl rfl
 exact ⟨F_1, r0_2, r1_2, rfl, hK, hS, hLT, hM⟩
def repair_leave_1_W (b : TB) (c0_v : Int) (Q : Bool → Prop) : Prop :=
 Q (decide (b.2 = c0_v))
theorem repair_leave_1_walk {F : Fz} {fr : List Ow} {h0 : Heap} (b : TB) (c0_v : Int) (bc0 : Nat) (hS : St F (fr) h0) (hB_bc0 : RoF (Ow.box bc0 3 #[.int .i64 c0_v]) F h0) {Q : Bool → Prop} (hM : repair_leave_1_W b c0_v Q) :
  HC Tryz.prog 56 #[.agg #[.int .i64 b.1, .int .i64 b.2], .pointer (some ⟨bc0, 0, none⟩)] h0 fun u h' => ∃ (F' : Fz) (r_1 : Bool), u = .bool r_1 ∧ Kp F h0 F' h' ∧ St F' (fr) h' ∧ (RoF (Ow.box bc0 3 #[.int .i64 c0_v]) F' h') ∧ Q r_1 := by
 unfold repair_leave_1_W at hM
 have hK := Kp.refl F h0
 refine HC.of_HW (n := 8) Tryz.func56 rfl rfl (Nat.le_of_ble_eq_true rfl) ?_
 refine HW.seq ?_
 refine HW.region ?_
 refine HO.eff (wn) rfl (st_box (c := #[.int .i64 b.1, .int .i64 b.2]) (k' := 2) hS rfl rfl) ?_
 rintro _ h_1 ⟨b_1, rfl, hS, hk⟩
 replace hK := hK.trans hk
 replace hB_bc0 := hB_bc0.kp hk
 refine oA (.bool false) rfl rfl ?_
 refine HO.nil (tqn (?_))
 refine HW.seq ?_
 refine HW.region ?_
 refine oV (.pointer (some ⟨b_1, 1, none⟩)) (qfA fa_52_1 rfl rfl) rfl ?_
 refine oV (.int .i64 b.2) (q_load to_3 rfl (Blk.cell (hS.box 0 rfl) rfl)) rfl ?_
 refine oV (.int .i64 c0_v) (q_load to_3 rfl (Blk.cell hB_bc0.box rfl)) rfl ?_
 refine oV (.bool (decide (b.2 = c0_v))) (q_eql rfl rfl) rfl ?_
 refine oA (.bool (decide (b.2 = c0_v))) rfl rfl ?_
 refine HO.nil (tqn (?_))
 refine HW.ret (?_)
 refine ⟨.inr rfl, .bool (decide (b.2 = c0_v)), res1 rfl (rt rfl), ?_⟩
 replace hS : St F (fr) h_1 := hS.perm2 [] 1 rfl rfl
 exact ⟨F, decide (b.2 = c0_v), rfl, hK, hS, hB_bc0, hM⟩
def repair_leave_2_W (b : TB) (c0_v : Int) (Q : Bool → Prop) : Prop :=
 Q (decide (b.1 = c0_v))
theorem repair_leave_2_walk {F : Fz} {fr : List Ow} {h0 : Heap} (b : TB) (c0_v : Int) (bc0 : Nat) (hS : St F (fr) h0) (hB_bc0 : RoF (Ow.box bc0 3 #[.int .i64 c0_v]) F h0) {Q : Bool → Prop} (hM : repair_leave_2_W b c0_v Q) :
  HC Tryz.prog 58 #[.agg #[.int .i64 b.1, .int .i64 b.2], .pointer (some ⟨bc0, 0, none⟩)] h0 fun u h' => ∃ (F' : Fz) (r_1 : Bool), u = .bool r_1 ∧ Kp F h0 F' h' ∧ St F' (fr) h' ∧ (RoF (Ow.box bc0 3 #[.int .i64 c0_v]) F' h') ∧ Q r_1 := by
 unfold repair_leave_2_W at hM
 have hK := Kp.refl F h0
 refine HC.of_HW (n := 8) Tryz.func58 rfl rfl (Nat.le_of_ble_eq_true rfl) ?_
 refine HW.seq ?_
 refine HW.region ?_
 refine HO.eff (wn) rfl (st_box (c := #[.int .i64 b.1, .int .i64 b.2]) (k' := 2) hS rfl rfl) ?_
 rintro _ h_1 ⟨b_1, rfl, hS, hk⟩
 replace hK := hK.trans hk
 replace hB_bc0 := hB_bc0.kp hk
 refine oA (.bool false) rfl rfl ?_
 refine HO.nil (tqn (?_))
 refine HW.seq ?_
 refine HW.region ?_
 refine oV (.pointer (some ⟨b_1, 0, none⟩)) (qfA fa_52_0 rfl rfl) rfl ?_
 refine oV (.int .i64 b.1) (q_load to_3 rfl (Blk.cell (hS.box 0 rfl) rfl)) rfl ?_
 refine oV (.int .i64 c0_v) (q_load to_3 rfl (Blk.cell hB_bc0.box rfl)) rfl ?_
 refine oV (.bool (decide (b.1 = c0_v))) (q_eql rfl rfl) rfl ?_
 refine oA (.bool (decide (b.1 = c0_v))) rfl rfl ?_
 refine HO.nil (tqn (?_))
 refine HW.ret (?_)
 refine ⟨.inr rfl, .bool (decide (b.1 = c0_v)), res1 rfl (rt rfl), ?_⟩
 replace hS : St F (fr) h_1 := hS.perm2 [] 1 rfl rfl
 exact ⟨F, decide (b.1 = c0_v), rfl, hK, hS, hB_bc0, hM⟩
def repair_leave_j1 (tR : Int) (Q : Int → (List TB) → Prop) (l_1 : List TB) : Prop :=
 repair_of_W tR l_1 (fun r_0_3 r_1_3 => Q r_0_3 r_1_3)
def repair_leave_l3 (tR : Int) (tL : List TB) (Q : Int → (List TB) → Prop) (K_1 : (List TB) → Int → Prop) (l_2 : List TB) (n_1 : Int) : Prop :=
 (¬ (n_1 = tR) → tree_Parent_W tR tL n_1 (fun r0_1 r1_1 => ∃ cf_1 : TB → Bool, (∀ x0, repair_leave_1_W x0 n_1 (fun r => r = cf_1 x0)) ∧ (slices_DeleteFunc_s_api_Branch_api_Branch_W l_2 cf_1 (fun r_5 => ∃ cf_2 : TB → Bool, (∀ x0, repair_leave_2_W x0 r0_1 (fun r => r = cf_2 x0)) ∧ (slices_ContainsFunc_s_api_Branch_api_Branch_W r_5 cf_2 (fun r_6 => (r_6 = true → repair_leave_j1 tR Q r_5) ∧ (r_6 = false → K_1 r_5 r0_1))))))) ∧ (n_1 = tR → repair_leave_j1 tR Q l_2)
def repair_leave_W (tR : Int) (tL : List TB) (n : Int) (services : List Int) (fan : Int) (Q : Int → (List TB) → Prop) : Prop :=
 repair_star_W tR tL fan (fun r_1 => (r_1 = true → tree_Leaves_W tR tL (fun r_2 => repair_without_W r_2 n (fun r_3 => plan_Make_W tR r_3 services fan (fun r_0_2 r_1_2 => Q r_0_2 r_1_2)))) ∧ (r_1 = false → slices_Clone_s_api_Branch_api_Branch_W tL (fun r_4 => loopW (fun (K_1 : (List TB × Int) → Prop) (s : List TB × Int) => repair_leave_l3 tR tL Q (fun l_2 n_1 => K_1 (l_2, n_1)) s.1 s.2) (r_4, n))))
theorem repair_leave_walk {F : Fz} {fr : List Ow} {h0 : Heap} (tR : Int) (tL : List TB) (n : Int) (services : List Int) (fan : Int) (vT : Value) (vs_ : Value) (hS : St F (fr) h0) (hLT : SliceF F h0 2 eB vT tL) (hLs : SliceF F h0 1 encI vs_ services) (hD : DM.on = false) {Q : Int → (List TB) → Prop} (hM : repair_leave_W tR tL n services fan Q) :
  HC Tryz.prog 30 #[.agg #[.int .i64 tR, vT], .int .i64 n, vs_, .int .i64 fan] h0 fun u h' => ∃ (F' : Fz) (r_0_1 : Int) (r_1_1 : List TB) (vr_1_1 : Value), u = .agg #[.int .i64 r_0_1, vr_1_1] ∧ Kp F h0 F' h' ∧ St F' (Ow.own 52 2 eB vr_1_1 r_1_1 :: fr) h' ∧ (SliceF F' h' 2 eB vT tL) ∧ (SliceF F' h' 1 encI vs_ services) ∧ Q r_0_1 r_1_1 := by
 unfold repair_leave_W at hM
 have hK := Kp.refl F h0
 refine HC.of_HW (n := 51) Tryz.func30 rfl rfl (Nat.le_of_ble_eq_true rfl) ?_
 refine HW.seq ?_
 refine HW.region ?_
 refine HO.eff (wn) rfl (st_box (c := #[.int .i64 tR, vT]) (k' := 2) hS rfl rfl) ?_
 rintro _ h_1 ⟨b_1, rfl, hS, hk⟩
 replace hK := hK.trans hk
 replace hLT := hLT.kp hk
 replace hLs := hLs.kp hk
 refine HO.eff (wn) rfl (st_alloc (c := #[.int .i64 0, .slice none 0 0]) hS tz_31 rfl) ?_
 rintro _ h_2 ⟨b_2, rfl, hS, hk⟩
 replace hK := hK.trans hk
 replace hLT := hLT.kp hk
 replace hLs := hLs.kp hk
 refine HO.nil (tqn (?_))
 refine HW.seq ?_
 refine HW.seq ?_
 refine HW.region ?_
 refine oV (.agg #[.int .i64 tR, vT]) (q_loadAgg (cs := [.int .i64 tR, vT]) ta_31 rfl rfl (Blk.cells (k := 2) (hS.box 1 rfl) rfl)) rfl ?_
 refine oM (.int .i64 fan) rfl rfl ?_
 refine HO.call (wn) rfl (ec en_43 rfl rfl) (repair_star_walk (fr := (Ow.box b_2 31 #[.int .i64 0, .slice none 0 0] :: Ow.box b_1 31 #[.int .i64 tR, vT] :: fr)) tR tL fan vT hS hLT hM) ?_
 rintro _ h_3 ⟨F_1, r_1, rfl, hk, hS, _, hM⟩
 replace hK := hK.trans hk
 replace hLT := hLT.kp hk
 replace hLs := hLs.kp hk
 refine HO.nil (tqn (?_))
 refine HW.cond r_1 rfl (fun c_1 => ?_) (fun c_1 => ?_)
 ·
  replace hM := hM.1 c_1
  refine HW.seq ?_
  refine HW.regionA 10 mixed (fun h => (Blk h b_1 (.cells #[.int .i64 tR, vT] 31 (0, 0)))) [] (by kernel_rfl) ?_
  refine HA.val (k := 0) (v := .pointer (some ⟨b_1, 0, none⟩)) rfl rfl (by kernel_rfl) (by kernel_rfl) (wn) rfl (fun _ c202 => qfA fa_31_0 rfl rfl) ?_
  refine HA.val (k := 1) (v := .int .i64 tR) rfl rfl (by kernel_rfl) (by kernel_rfl) (wn) rfl (fun _ c202 => q_load to_3 rfl (Blk.cell c202 rfl)) ?_
  refine HA.val (k := 2) (v := .agg #[.int .i64 tR, vT]) rfl rfl (by kernel_rfl) (by kernel_rfl) (wn) rfl (fun _ c202 => q_loadAgg (cs := [.int .i64 tR, vT]) ta_31 rfl rfl (Blk.cells (k := 2) c202 rfl)) ?_
  refine HA.val (k := 4) (v := .int .i64 n) rfl rfl (by kernel_rfl) (by kernel_rfl) (wn) rfl (fun _ c202 => q_move rfl) ?_
  refine HA.val (k := 6) (v := vs_) rfl rfl (by kernel_rfl) (by kernel_rfl) (wn) rfl (fun _ c202 => q_move rfl) ?_
  refine HA.val (k := 7) (v := .int .i64 fan) rfl rfl (by kernel_rfl) (by kernel_rfl) (wn) rfl (fun _ c202 => q_move rfl) ?_
  refine HA.one (k := 3) ⟨(hS.box 1 rfl), (Go.Wk.at_nil _ _)⟩ (by kernel_rfl) ?_
  refine HS.call rfl (wn) rfl (ec en_47 rfl rfl) (tree_Leaves_walk (fr := (Ow.box b_2 31 #[.int .i64 0, .slice none 0 0] :: Ow.box b_1 31 #[.int .i64 tR, vT] :: fr)) tR tL vT hS hLT hM) ?_
  rintro vr_1 h_4 ⟨F_2, r_2, _, rfl, hk, hS, _, hM⟩
  replace hK := hK.trans hk
  replace hLT := hLT.kp hk
  replace hLs := hLs.kp hk
  refine HA.one (k := 5) ⟨(hS.box 2 rfl), (Go.Wk.at_nil _ _)⟩ (by kernel_rfl) ?_
  replace hS : St F_2 (Ow.own 3 1 encI vr_1 r_2 :: Ow.box b_2 31 #[.int .i64 0, .slice none 0 0] :: Ow.box b_1 31 #[.int .i64 tR, vT] :: fr) h_4 := hS
  have hZ_1 := hS
  have hkz_1 := (hS.freeze).2
  replace hS := hS.freeze.1
  have hL_1 : SliceF (fun bz_ => F_2 bz_ ∨ (Ow.own 3 1 encI vr_1 r_2).foot bz_) h_4 1 encI vr_1 r_2 := ⟨(hZ_1.own 0 rfl).slice, fun _ b hb => .inr hb⟩
  refine HS.call rfl (wn) rfl (ec en_53 rfl rfl) (repair_without_walk (fr := (Ow.box b_2 31 #[.int .i64 0, .slice none 0 0] :: Ow.box b_1 31 #[.int .i64 tR, vT] :: fr)) r_2 n vr_1 hS hL_1 hM) ?_
  rintro vr_2 h_5 ⟨F_3, r_3, _, rfl, hk, hS, _, hM⟩
  obtain ⟨hS, hk⟩ := hZ_1.back hk hS
  generalize (fun bz_ => F_3 bz_ ∧ ¬ (Ow.own 3 1 encI vr_1 r_2).foot bz_) = F_4 at hS hk
  replace hK := hK.trans hk
  replace hLT := hLT.kp hk
  replace hLs := hLs.kp hk
  refine HA.one (k := 8) ⟨(hS.box 3 rfl), (Go.Wk.at_nil _ _)⟩ (by kernel_rfl) ?_
  replace hS : St F_4 (Ow.own 3 1 encI vr_2 r_3 :: Ow.own 3 1 encI vr_1 r_2 :: Ow.box b_2 31 #[.int .i64 0, .slice none 0 0] :: Ow.box b_1 31 #[.int .i64 tR, vT] :: fr) h_5 := hS.perm2 [1, 0, 2, 3] 4 rfl rfl
  have hZ_2 := hS
  have hkz_2 := (hS.freeze).2
  replace hS := hS.freeze.1
  have hL_2 : SliceF (fun bz_ => F_4 bz_ ∨ (Ow.own 3 1 encI vr_2 r_3).foot bz_) h_5 1 encI vr_2 r_3 := ⟨(hZ_2.own 0 rfl).slice, fun _ b hb => .inr hb⟩
  refine HS.call rfl (wn) rfl (ec en_46 rfl rfl) (plan_Make_walk (fr := (Ow.own 3 1 encI vr_1 r_2 :: Ow.box b_2 31 #[.int .i64 0, .slice none 0 0] :: Ow.box b_1 31 #[.int .i64 tR, vT] :: fr)) tR r_3 services fan vr_2 vs_ hS hL_2 (hLs.kp hkz_2) hD hM) ?_
  rintro _ h_6 ⟨F_5, r_0_2, r_1_2, vr_1_2, rfl, hk, hS, _, _, hM⟩
  obtain ⟨hS, hk⟩ := hZ_2.back hk hS
  generalize (fun bz_ => F_5 bz_ ∧ ¬ (Ow.own 3 1 encI vr_2 r_3).foot bz_) = F_6 at hS hk
  replace hK := hK.trans hk
  replace hLT := hLT.kp hk
  replace hLs := hLs.kp hk
  refine HA.one (k := 9) ⟨(hS.box 4 rfl), (Go.Wk.at_nil _ _)⟩ (by kernel_rfl) ?_
  refine HS.sto rfl (wn) rfl (st_storeAgg (c' := #[.int .i64 r_0_2, vr_1_2]) hS (i := 3) rfl ta_31 rfl rfl rfl (List.forall_mem_cons.2 ⟨rfl, (List.forall_mem_cons.2 ⟨(shp (hS.own 1 rfl).slice).one, (fun _ h => by cases h)⟩)⟩) (Nat.le_of_ble_eq_true rfl) rfl) ?_
  rintro h_7 ⟨hS, hk⟩
  replace hK := hK.trans hk
  replace hLT := hLT.kp hk
  replace hLs := hLs.kp hk
  refine HA.nil ⟨(hS.box 4 rfl), (Go.Wk.at_nil _ _)⟩ (by kernel_rfl) (tqn (?_))
  refine HW.ret (thenQ_ret (?_))
  refine ⟨.inr rfl, .agg #[.int .i64 r_0_2, vr_1_2], res1 rfl (rca (cs := [.int .i64 r_0_2, vr_1_2]) ta_31 rfl rfl (Blk.cells (k := 2) (hS.box 3 rfl) rfl)), ?_⟩
  replace hS : St F_6 (Ow.own 52 2 eB vr_1_2 r_1_2 :: fr) h_7 := hS.perm2 [1] 5 rfl rfl
  exact ⟨F_6, r_0_2, r_1_2, vr_1_2, rfl, hK, hS, hLT, hLs, hM⟩
 ·
  replace hM := hM.2 c_1
  refine HW.skip (tqn (?_))
  refine HW.seq ?_
  refine HW.region ?_
  refine oV (.pointer (some ⟨b_1, 1, none⟩)) (qfA fa_31_1 rfl rfl) rfl ?_
  refine oV (vT) (q_load to_29 rfl (Blk.cell (hS.box 1 rfl) rfl)) rfl ?_
  refine HO.call (wn) rfl (ec en_51 rfl rfl) (slices_Clone_s_api_Branch_api_Branch_walk (fr := (Ow.box b_2 31 #[.int .i64 0, .slice none 0 0] :: Ow.box b_1 31 #[.int .i64 tR, vT] :: fr)) tL vT hS hLT hM) ?_
  rintro vr_3 h_8 ⟨F_7, r_4, _, rfl, hk, hS, _, hM⟩
  replace hK := hK.trans hk
  replace hLT := hLT.kp hk
  replace hLs := hLs.kp hk
  refine oA (vr_3) rfl rfl ?_
  refine HO.nil (tqn (?_))
  refine HW.seq_mid (fun f h => ∃ (F' : Fz) (l_1 : List TB) (vl_1 : Value), f 4 = .pointer (some ⟨b_1, 0, none⟩) ∧ f 8 = .pointer (some ⟨b_2, 0, none⟩) ∧ f 9 = vl_1 ∧ Kp F h0 F' h ∧ St F' (Ow.box b_1 31 #[.int .i64 tR, vT] :: Ow.box b_2 31 #[.int .i64 0, .slice none 0 0] :: Ow.own 52 2 eB vl_1 l_1 :: fr) h ∧ (SliceF F' h 2 eB vT tL) ∧ (SliceF F' h 1 encI vs_ services) ∧ repair_leave_j1 tR Q l_1) ?_ ?_
  ·
   refine HW.seq ?_
   refine HW.region ?_
   refine oM (.int .i64 n) rfl rfl ?_
   refine HO.eff (wn) rfl (st_alloc (c := #[.int .i64 0]) hS tz_3 rfl) ?_
   rintro _ h_9 ⟨b_3, rfl, hS, hk⟩
   replace hK := hK.trans hk
   replace hLT := hLT.kp hk
   replace hLs := hLs.kp hk
   refine HO.sto (wn) rfl (st_store (c' := #[.int .i64 n]) hS (i := 0) rfl to_3 rfl rfl rfl rfl (Nat.le_of_ble_eq_true rfl) rfl) ?_
   rintro h_10 ⟨hS, hk⟩
   replace hK := hK.trans hk
   replace hLT := hLT.kp hk
   replace hLs := hLs.kp hk
   refine HO.nil (tqn (?_))
   refine HW.block ?_
   obtain ⟨I_1, m_1, hI_1, hR_1⟩ := hM
   replace hS : St F_7 (Ow.box b_1 31 #[.int .i64 tR, vT] :: Ow.box b_2 31 #[.int .i64 0, .slice none 0 0] :: Ow.own 52 2 eB vr_3 r_4 :: Ow.box b_3 3 #[.int .i64 n] :: fr) h_10 := hS.perm2 [3, 2, 1, 0] 4 rfl rfl
   refine HW.loop (S := List TB × Int) (fun s f h => match s with | (l_2, n_1) => ∃ (F' : Fz) (vl_2 : Value) (b_4 : Nat), f 4 = .pointer (some ⟨b_1, 0, none⟩) ∧ f 8 = .pointer (some ⟨b_2, 0, none⟩) ∧ f 9 = vl_2 ∧ f 10 = .pointer (some ⟨b_4, 0, none⟩) ∧ Kp F h0 F' h ∧ St F' (Ow.box b_1 31 #[.int .i64 tR, vT] :: Ow.box b_2 31 #[.int .i64 0, .slice none 0 0] :: Ow.own 52 2 eB vl_2 l_2 :: Ow.box b_4 3 #[.int .i64 n_1] :: fr) h ∧ (SliceF F' h 2 eB vT tL) ∧ (SliceF F' h 1 encI vs_ services) ∧ I_1 (l_2, n_1)) m_1 (r_4, n) ⟨F_7, vr_3, b_3, rfl, rfl, rfl, rfl, hK, hS, hLT, hLs, hI_1⟩ ?_
   rintro ⟨l_2, n_1⟩ f_1 h_11 ⟨F_8, vl_2, b_4, e4, e8, e9, e10, hK, hS, hLT, hLs, hI0⟩
   obtain ⟨K_1, hKe_1⟩ : ∃ K : (List TB) → Int → Prop, K = fun l_2' n_1' => I_1 (l_2', n_1') ∧ m_1 (l_2', n_1') < m_1 (l_2, n_1) := ⟨_, rfl⟩
   have hM : repair_leave_l3 tR tL Q K_1 l_2 n_1 := by rw [hKe_1]; exact hR_1 (l_2, n_1) hI0
   unfold repair_leave_l3 at hM
   refine HW.fr [(4, .pointer (some ⟨b_1, 0, none⟩)), (8, .pointer (some ⟨b_2, 0, none⟩)), (9, vl_2), (10, .pointer (some ⟨b_4, 0, none⟩))] ⟨e4, e8, e9, e10, trivial⟩ ?_
   refine HW.seq ?_
   refine HW.seq ?_
   refine HW.region ?_
   refine oV (.int .i64 n_1) (q_load to_3 rfl (Blk.cell (hS.box 3 rfl) rfl)) rfl ?_
   refine oV (.pointer (some ⟨b_1, 0, none⟩)) (qfA fa_31_0 rfl rfl) rfl ?_
   refine oV (.int .i64 tR) (q_load to_3 rfl (Blk.cell (hS.box 0 rfl) rfl)) rfl ?_
   refine oV (.bool (!decide (n_1 = tR))) (q_neq rfl rfl) rfl ?_
   refine HO.nil (tqn (?_))
   refine HW.cond (!decide (n_1 = tR)) rfl (fun c_2 => ?_) (fun c_2 => ?_)
   ·
    replace hM := hM.1 (nd_true c_2)
    refine HW.skip (tqn (?_))
    refine HW.seq ?_
    refine HW.block ?_
    refine HW.seq ?_
    refine HW.region ?_
    refine oV (.agg #[.int .i64 tR, vT]) (q_loadAgg (cs := [.int .i64 tR, vT]) ta_31 rfl rfl (Blk.cells (k := 2) (hS.box 0 rfl) rfl)) rfl ?_
    refine oV (.int .i64 n_1) (q_load to_3 rfl (Blk.cell (hS.box 3 rfl) rfl)) rfl ?_
    refine HO.call (wn) rfl (ec en_54 rfl rfl) (tree_Parent_walk (fr := (Ow.box b_1 31 #[.int .i64 tR, vT] :: Ow.box b_2 31 #[.int .i64 0, .slice none 0 0] :: Ow.own 52 2 eB vl_2 l_2 :: Ow.box b_4 3 #[.int .i64 n_1] :: fr)) tR tL n_1 vT hS hLT hM) ?_
    rintro _ h_12 ⟨F_9, r0_1, r1_1, rfl, hk, hS, _, hM⟩
    replace hK := hK.trans hk
    replace hLT := hLT.kp hk
    replace hLs := hLs.kp hk
    refine oM (.tuple #[.int .i64 r0_1, .bool r1_1]) rfl rfl ?_
    refine oV (.int .i64 r0_1) (q_extract rfl rfl) rfl ?_
    refine oV (.bool r1_1) (q_extract rfl rfl) rfl ?_
    refine HO.eff (wn) rfl (st_alloc (c := #[.int .i64 0]) hS tz_3 rfl) ?_
    rintro _ h_13 ⟨b_5, rfl, hS, hk⟩
    replace hK := hK.trans hk
    replace hLT := hLT.kp hk
    replace hLs := hLs.kp hk
    refine HO.sto (wn) rfl (st_store (c' := #[.int .i64 r0_1]) hS (i := 0) rfl to_3 rfl rfl rfl rfl (Nat.le_of_ble_eq_true rfl) rfl) ?_
    rintro h_14 ⟨hS, hk⟩
    replace hK := hK.trans hk
    replace hLT := hLT.kp hk
    replace hLs := hLs.kp hk
    refine oA (.bool r1_1) rfl rfl ?_
    refine HO.nil (tqn (?_))
    refine HW.seq ?_
    refine HW.region ?_
    refine oM (vl_2) rfl rfl ?_
    refine oV (.func (.func 56) #[] #[.pointer (some ⟨b_4, 0, none⟩)]) (q_makeFunc rfl rfl) rfl ?_
    replace hS : St F_9 (Ow.box b_4 3 #[.int .i64 n_1] :: Ow.box b_5 3 #[.int .i64 r0_1] :: Ow.box b_1 31 #[.int .i64 tR, vT] :: Ow.box b_2 31 #[.int .i64 0, .slice none 0 0] :: Ow.own 52 2 eB vl_2 l_2 :: fr) h_14 := hS.perm2 [4, 0, 1, 2, 3] 5 rfl rfl
    have hZ_3 := hS
    have hkz_3 := (hS.freeze).2
    replace hS := hS.freeze.1
    have hL_3 := hZ_3.lent
    obtain ⟨cf_1, hc_1, hM⟩ := hM
    have hF_1 : FnP Tryz.prog (fun bz_ => F_9 bz_ ∨ (Ow.box b_4 3 #[.int .i64 n_1]).foot bz_) h_14 56 #[] #[.pointer (some ⟨b_4, 0, none⟩)] (fun x : TB => [.agg #[.int .i64 x.1, .int .i64 x.2]]) (fun x => .bool (cf_1 x)) := FnP.of en_56 (fun x h' hk_ => @HC.mono ⟨true⟩ _ _ _ _ _ _ (@repair_leave_1_walk ⟨true⟩ (allF h') [] h' x n_1 b_4 (St.init h') (hL_3.kp hk_) (fun r => r = cf_1 x) (hc_1 x)) (fun u h'' ⟨F', r, hu, k_, _, _, hr⟩ => ⟨by rw [hu, hr], F', k_⟩))
    replace hS : St (fun bz_ => F_9 bz_ ∨ (Ow.box b_4 3 #[.int .i64 n_1]).foot bz_) (Ow.own 52 2 eB vl_2 l_2 :: Ow.box b_5 3 #[.int .i64 r0_1] :: Ow.box b_1 31 #[.int .i64 tR, vT] :: Ow.box b_2 31 #[.int .i64 0, .slice none 0 0] :: fr) h_14 := hS.perm2 [3, 0, 1, 2] 4 rfl rfl
    refine HO.call (wn) rfl (ec en_55 rfl rfl) (slices_DeleteFunc_s_api_Branch_api_Branch_walk (fr := (Ow.box b_5 3 #[.int .i64 r0_1] :: Ow.box b_1 31 #[.int .i64 tR, vT] :: Ow.box b_2 31 #[.int .i64 0, .slice none 0 0] :: fr)) l_2 cf_1 vl_2 56 (#[]) (#[.pointer (some ⟨b_4, 0, none⟩)]) hS hF_1 hM) ?_
    rintro vr_4 h_15 ⟨F_10, r_5, _, rfl, hk, hS, _, hM⟩
    obtain ⟨hS, hk⟩ := hZ_3.back hk hS
    generalize (fun bz_ => F_10 bz_ ∧ ¬ (Ow.box b_4 3 #[.int .i64 n_1]).foot bz_) = F_11 at hS hk
    replace hK := hK.trans hk
    replace hLT := hLT.kp hk
    replace hLs := hLs.kp hk
    refine oA (vr_4) rfl rfl ?_
    refine HO.nil (tqn (?_))
    refine HW.seq ?_
    refine HW.seq ?_
    refine HW.region ?_
    refine oM (vr_4) rfl rfl ?_
    refine oV (.func (.func 58) #[] #[.pointer (some ⟨b_5, 0, none⟩)]) (q_makeFunc rfl rfl) rfl ?_
    replace hS : St F_11 (Ow.box b_5 3 #[.int .i64 r0_1] :: Ow.box b_4 3 #[.int .i64 n_1] :: Ow.own 52 2 eB vr_4 r_5 :: Ow.box b_1 31 #[.int .i64 tR, vT] :: Ow.box b_2 31 #[.int .i64 0, .slice none 0 0] :: fr) h_15 := hS.perm2 [2, 0, 1, 3, 4] 5 rfl rfl
    have hZ_4 := hS
    have hkz_4 := (hS.freeze).2
    replace hS := hS.freeze.1
    have hL_4 := hZ_4.lent
    obtain ⟨cf_2, hc_2, hM⟩ := hM
    have hF_2 : FnP Tryz.prog (fun bz_ => F_11 bz_ ∨ (Ow.box b_5 3 #[.int .i64 r0_1]).foot bz_) h_15 58 #[] #[.pointer (some ⟨b_5, 0, none⟩)] (fun x : TB => [.agg #[.int .i64 x.1, .int .i64 x.2]]) (fun x => .bool (cf_2 x)) := FnP.of en_58 (fun x h' hk_ => @HC.mono ⟨true⟩ _ _ _ _ _ _ (@repair_leave_2_walk ⟨true⟩ (allF h') [] h' x r0_1 b_5 (St.init h') (hL_4.kp hk_) (fun r => r = cf_2 x) (hc_2 x)) (fun u h'' ⟨F', r, hu, k_, _, _, hr⟩ => ⟨by rw [hu, hr], F', k_⟩))
    replace hS : St (fun bz_ => F_11 bz_ ∨ (Ow.box b_5 3 #[.int .i64 r0_1]).foot bz_) (Ow.own 52 2 eB vr_4 r_5 :: Ow.box b_4 3 #[.int .i64 n_1] :: Ow.box b_1 31 #[.int .i64 tR, vT] :: Ow.box b_2 31 #[.int .i64 0, .slice none 0 0] :: fr) h_15 := hS.perm2 [1, 0, 2, 3] 4 rfl rfl
    have hZ_5 := hS
    have hkz_5 := (hS.freeze).2
    replace hS := hS.freeze.1
    have hL_5 : SliceF (fun bz_ => (fun bz_ => F_11 bz_ ∨ (Ow.box b_5 3 #[.int .i64 r0_1]).foot bz_) bz_ ∨ (Ow.own 52 2 eB vr_4 r_5).foot bz_) h_15 2 eB vr_4 r_5 := ⟨(hZ_5.own 0 rfl).slice, fun _ b hb => .inr hb⟩
    refine HO.call (wn) rfl (ec en_57 rfl rfl) (slices_ContainsFunc_s_api_Branch_api_Branch_walk (fr := (Ow.box b_4 3 #[.int .i64 n_1] :: Ow.box b_1 31 #[.int .i64 tR, vT] :: Ow.box b_2 31 #[.int .i64 0, .slice none 0 0] :: fr)) r_5 cf_2 vr_4 58 (#[]) (#[.pointer (some ⟨b_5, 0, none⟩)]) hS hL_5 (hF_2.kp hkz_5) hM) ?_
    rintro _ h_16 ⟨F_12, r_6, rfl, hk, hS, _, _, hM⟩
    obtain ⟨hS, hk⟩ := hZ_5.back hk hS
    obtain ⟨hS, hk⟩ := hZ_4.back hk hS
    generalize (fun bz_ => (fun bz_ => F_12 bz_ ∧ ¬ (Ow.own 52 2 eB vr_4 r_5).foot bz_) bz_ ∧ ¬ (Ow.box b_5 3 #[.int .i64 r0_1]).foot bz_) = F_13 at hS hk
    replace hK := hK.trans hk
    replace hLT := hLT.kp hk
    replace hLs := hLs.kp hk
    refine HO.nil (tqn (?_))
    refine HW.cond r_6 rfl (fun c_3 => ?_) (fun c_3 => ?_)
    ·
     replace hM := hM.1 c_3
     refine HW.exit (thenQ_exit (blockQ_pass rfl (thenQ_exit (thenQ_exit (blockQ_exit (tqn (?_)))))))
     replace hS : St F_13 (Ow.box b_1 31 #[.int .i64 tR, vT] :: Ow.box b_2 31 #[.int .i64 0, .slice none 0 0] :: Ow.own 52 2 eB vr_4 r_5 :: fr) h_16 := hS.perm2 [3, 4, 1] 5 rfl rfl
     exact ⟨F_13, r_5, vr_4, rfl, rfl, rfl, hK, hS, hLT, hLs, hM⟩
    ·
     replace hM := hM.2 c_3
     refine HW.skip (tqn (?_))
     refine HW.region ?_
     refine oV (.int .i64 r0_1) (q_load to_3 rfl (Blk.cell (hS.box 0 rfl) rfl)) rfl ?_
     refine HO.sto (wn) rfl (st_store (c' := #[.int .i64 r0_1]) hS (i := 2) rfl to_3 rfl rfl rfl rfl (Nat.le_of_ble_eq_true rfl) rfl) ?_
     rintro h_17 ⟨hS, hk⟩
     replace hK := hK.trans hk
     replace hLT := hLT.kp hk
     replace hLs := hLs.kp hk
     refine HO.nil (blockQ_normal (tqn (?_)))
     refine HW.seq ?_
     refine HW.region ?_
     refine oV (.int .i64 r0_1) (q_load to_3 rfl (Blk.cell (hS.box 2 rfl) rfl)) rfl ?_
     refine HO.nil (tqn (?_))
     refine HW.region ?_
     refine HO.eff (wn) rfl (st_alloc (c := #[.int .i64 0]) hS tz_3 rfl) ?_
     rintro _ h_18 ⟨b_6, rfl, hS, hk⟩
     replace hK := hK.trans hk
     replace hLT := hLT.kp hk
     replace hLs := hLs.kp hk
     refine HO.sto (wn) rfl (st_store (c' := #[.int .i64 r0_1]) hS (i := 0) rfl to_3 rfl rfl rfl rfl (Nat.le_of_ble_eq_true rfl) rfl) ?_
     rintro h_19 ⟨hS, hk⟩
     replace hK := hK.trans hk
     replace hLT := hLT.kp hk
     replace hLs := hLs.kp hk
     refine HO.nil (tqn (?_))
     replace hS : St F_13 (Ow.box b_1 31 #[.int .i64 tR, vT] :: Ow.box b_2 31 #[.int .i64 0, .slice none 0 0] :: Ow.own 52 2 eB vr_4 r_5 :: Ow.box b_6 3 #[.int .i64 r0_1] :: fr) h_19 := hS.perm2 [4, 5, 2, 0] 6 rfl rfl
     rw [hKe_1] at hM
     exact ⟨(r_5, r0_1), ⟨F_13, vr_4, b_6, rfl, rfl, rfl, rfl, hK, hS, hLT, hLs, hM.1⟩, hM.2⟩
   ·
    replace hM := hM.2 (nd_false c_2)
    refine HW.exit (thenQ_exit (thenQ_exit (blockQ_exit (tqn (?_)))))
    replace hS : St F_8 (Ow.box b_1 31 #[.int .i64 tR, vT] :: Ow.box b_2 31 #[.int .i64 0, .slice none 0 0] :: Ow.own 52 2 eB vl_2 l_2 :: fr) h_11 := hS.perm2 [0, 1, 2] 4 rfl rfl
    exact ⟨F_8, l_2, vl_2, rfl, rfl, rfl, hK, hS, hLT, hLs, hM⟩
  ·
   rintro f_2 h_20 ⟨F_14, l_1, vl_1, e4, e8, e9, hK, hS, hLT, hLs, hM⟩
   unfold repair_leave_j1 at hM
   refine HW.fr [(4, .pointer (some ⟨b_1, 0, none⟩)), (8, .pointer (some ⟨b_2, 0, none⟩)), (9, vl_1)] ⟨e4, e8, e9, trivial⟩ ?_
   refine HW.seq ?_
   refine HW.region ?_
   refine oV (.pointer (some ⟨b_1, 0, none⟩)) (qfA fa_31_0 rfl rfl) rfl ?_
   refine oV (.int .i64 tR) (q_load to_3 rfl (Blk.cell (hS.box 0 rfl) rfl)) rfl ?_
   refine oM (vl_1) rfl rfl ?_
   replace hS : St F_14 (Ow.own 52 2 eB vl_1 l_1 :: Ow.box b_1 31 #[.int .i64 tR, vT] :: Ow.box b_2 31 #[.int .i64 0, .slice none 0 0] :: fr) h_20 := hS.perm2 [2, 0, 1] 3 rfl rfl
   have hZ_6 := hS
   have hkz_6 := (hS.freeze).2
   replace hS := hS.freeze.1
   have hL_6 : SliceF (fun bz_ => F_14 bz_ ∨ (Ow.own 52 2 eB vl_1 l_1).foot bz_) h_20 2 eB vl_1 l_1 := ⟨(hZ_6.own 0 rfl).slice, fun _ b hb => .inr hb⟩
   refine HO.call (wn) rfl (ec en_50 rfl rfl) (repair_of_walk (fr := (Ow.box b_1 31 #[.int .i64 tR, vT] :: Ow.box b_2 31 #[.int .i64 0, .slice none 0 0] :: fr)) tR l_1 vl_1 hS hL_6 hM) ?_
   rintro _ h_21 ⟨F_15, r_0_3, r_1_3, vr_1_3, rfl, hk, hS, _, hM⟩
   obtain ⟨hS, hk⟩ := hZ_6.back hk hS
   generalize (fun bz_ => F_15 bz_ ∧ ¬ (Ow.own 52 2 eB vl_1 l_1).foot bz_) = F_16 at hS hk
   replace hK := hK.trans hk
   replace hLT := hLT.kp hk
   replace hLs := hLs.kp hk
   refine HO.sto (wn) rfl (st_storeAgg (c' := #[.int .i64 r_0_3, vr_1_3]) hS (i := 3) rfl ta_31 rfl rfl rfl (List.forall_mem_cons.2 ⟨rfl, (List.forall_mem_cons.2 ⟨(shp (hS.own 1 rfl).slice).one, (fun _ h => by cases h)⟩)⟩) (Nat.le_of_ble_eq_true rfl) rfl) ?_
   rintro h_22 ⟨hS, hk⟩
   replace hK := hK.trans hk
   replace hLT := hLT.kp hk
   replace hLs := hLs.kp hk
   refine HO.nil (tqn (?_))
   refine HW.ret (?_)
   refine ⟨.inr rfl, .agg #[.int .i64 r_0_3, vr_1_3], res1 rfl (rca (cs := [.int .i64 r_0_3, vr_1_3]) ta_31 rfl rfl (Blk.cells (k := 2) (hS.box 3 rfl) rfl)), ?_⟩
   replace hS : St F_16 (Ow.own 52 2 eB vr_1_3 r_1_3 :: fr) h_22 := hS.perm2 [1] 4 rfl rfl
   exact ⟨F_16, r_0_3, r_1_3, vr_1_3, rfl, hK, hS, hLT, hLs, hM⟩
def repair_Leave_W (tR : Int) (tL : List TB) (n : Int) (services : List Int) (fan : Int) (Q : Int → (List TB) → Prop) : Prop :=
 repair_leave_W tR tL n services fan (fun r_0_2 r_1_2 => Q r_0_2 r_1_2)
theorem repair_Leave_walk {F : Fz} {fr : List Ow} {h0 : Heap} (tR : Int) (tL : List TB) (n : Int) (services : List Int) (fan : Int) (vT : Value) (vs_ : Value) (hS : St F (fr) h0) (hLT : SliceF F h0 2 eB vT tL) (hLs : SliceF F h0 1 encI vs_ services) (hD : DM.on = false) {Q : Int → (List TB) → Prop} (hM : repair_Leave_W tR tL n services fan Q) :
  HC Tryz.prog 9 #[.agg #[.int .i64 tR, vT], .int .i64 n, vs_, .int .i64 fan] h0 fun u h' => ∃ (F' : Fz) (r_0_1 : Int) (r_1_1 : List TB) (vr_1_1 : Value), u = .agg #[.int .i64 r_0_1, vr_1_1] ∧ Kp F h0 F' h' ∧ St F' (Ow.own 52 2 eB vr_1_1 r_1_1 :: fr) h' ∧ (SliceF F' h' 2 eB vT tL) ∧ (SliceF F' h' 1 encI vs_ services) ∧ Q r_0_1 r_1_1 := by
 unfold repair_Leave_W at hM
 have hK := Kp.refl F h0
 refine HC.of_HW (n := 14) Tryz.func9 rfl rfl (Nat.le_of_ble_eq_true rfl) ?_
 refine HW.seq ?_
 refine HW.region ?_
 refine HO.eff (wn) rfl (st_box (c := #[.int .i64 tR, vT]) (k' := 2) hS rfl rfl) ?_
 rintro _ h_1 ⟨b_1, rfl, hS, hk⟩
 replace hK := hK.trans hk
 replace hLT := hLT.kp hk
 replace hLs := hLs.kp hk
 refine HO.eff (wn) rfl (st_alloc (c := #[.int .i64 0, .slice none 0 0]) hS tz_31 rfl) ?_
 rintro _ h_2 ⟨b_2, rfl, hS, hk⟩
 replace hK := hK.trans hk
 replace hLT := hLT.kp hk
 replace hLs := hLs.kp hk
 refine HO.nil (tqn (?_))
 refine HW.seq ?_
 refine HW.region ?_
 refine oV (.agg #[.int .i64 tR, vT]) (q_loadAgg (cs := [.int .i64 tR, vT]) ta_31 rfl rfl (Blk.cells (k := 2) (hS.box 1 rfl) rfl)) rfl ?_
 refine oM (.int .i64 n) rfl rfl ?_
 refine oM (vs_) rfl rfl ?_
 refine oM (.int .i64 fan) rfl rfl ?_
 refine HO.call (wn) rfl (ec en_30 rfl rfl) (repair_leave_walk (fr := (Ow.box b_2 31 #[.int .i64 0, .slice none 0 0] :: Ow.box b_1 31 #[.int .i64 tR, vT] :: fr)) tR tL n services fan vT vs_ hS hLT hLs hD hM) ?_
 rintro _ h_3 ⟨F_1, r_0_2, r_1_2, vr_1_2, rfl, hk, hS, _, _, hM⟩
 replace hK := hK.trans hk
 replace hLT := hLT.kp hk
 replace hLs := hLs.kp hk
 refine HO.sto (wn) rfl (st_storeAgg (c' := #[.int .i64 r_0_2, vr_1_2]) hS (i := 1) rfl ta_31 rfl rfl rfl (List.forall_mem_cons.2 ⟨rfl, (List.forall_mem_cons.2 ⟨(shp (hS.own 0 rfl).slice).one, (fun _ h => by cases h)⟩)⟩) (Nat.le_of_ble_eq_true rfl) rfl) ?_
 rintro h_4 ⟨hS, hk⟩
 replace hK := hK.trans hk
 replace hLT := hLT.kp hk
 replace hLs := hLs.kp hk
 refine HO.nil (tqn (?_))
 refine HW.ret (?_)
 refine ⟨.inr rfl, .agg #[.int .i64 r_0_2, vr_1_2], res1 rfl (rca (cs := [.int .i64 r_0_2, vr_1_2]) ta_31 rfl rfl (Blk.cells (k := 2) (hS.box 1 rfl) rfl)), ?_⟩
 replace hS : St F_1 (Ow.own 52 2 eB vr_1_2 r_1_2 :: fr) h_4 := hS.perm2 [0] 3 rfl rfl
 exact ⟨F_1, r_0_2, r_1_2, vr_1_2, rfl, hK, hS, hLT, hLs, hM⟩
def ref01_Sign_W (n : Int) (Q : Str → Prop) : Prop :=
 ((0 : Int) ≤ n ∧ n ≤ ((u8w (n + 1)).toNat : Int) ∧ ((u8w (n + 1)).toNat : Int) ≤ ((([48, 49, 50, 51, 52, 53, 54, 55, 56, 57, 97, 98, 99, 100, 101, 102] : Str)).length : Int)) ∧ (Q (cut ([48, 49, 50, 51, 52, 53, 54, 55, 56, 57, 97, 98, 99, 100, 101, 102] : Str) n ((u8w (n + 1)).toNat : Int)))
theorem ref01_Sign_walk {F : Fz} {fr : List Ow} {h0 : Heap} (n : Int) (hS : St F (fr) h0)  {Q : Str → Prop} (hM : ref01_Sign_W n Q) :
  HC Tryz.prog 101 #[.int .u8 n] h0 fun u h' => ∃ (F' : Fz) (r_1 : Str), u = .string (bs r_1) ∧ Kp F h0 F' h' ∧ St F' (fr) h' ∧ Q r_1 := by
 unfold ref01_Sign_W at hM
 have hK := Kp.refl F h0
 refine HC.of_HW (n := 7) Tryz.func101 rfl rfl (Nat.le_of_ble_eq_true rfl) ?_
 refine HW.seq ?_
 refine HW.region ?_
 refine oA (.string (bs [])) rfl rfl ?_
 refine HO.nil (tqn (?_))
 refine HW.seq ?_
 refine HW.region ?_
 refine oM (.int .u8 n) rfl rfl ?_
 refine oM (.int .u8 n) rfl rfl ?_
 refine oV (.int .u8 ((u8w (n + 1)).toNat : Int)) ((q_add rfl rfl).of_eq (u8w_v _)) rfl ?_
 obtain ⟨ho_1, hM⟩ := hM
 refine oV (.string (bs (cut ([48, 49, 50, 51, 52, 53, 54, 55, 56, 57, 97, 98, 99, 100, 101, 102] : Str) n ((u8w (n + 1)).toNat : Int)))) (q_strLH Tryz.underlying9 rfl rfl rfl ho_1) rfl ?_
 refine oA (.string (bs (cut ([48, 49, 50, 51, 52, 53, 54, 55, 56, 57, 97, 98, 99, 100, 101, 102] : Str) n ((u8w (n + 1)).toNat : Int)))) rfl rfl ?_
 refine HO.nil (tqn (?_))
 refine HW.ret (?_)
 refine ⟨.inr rfl, .string (bs (cut ([48, 49, 50, 51, 52, 53, 54, 55, 56, 57, 97, 98, 99, 100, 101, 102] : Str) n ((u8w (n + 1)).toNat : Int))), res1 rfl (rt rfl), ?_⟩
 exact ⟨F, cut ([48, 49, 50, 51, 52, 53, 54, 55, 56, 57, 97, 98, 99, 100, 101, 102] : Str) n ((u8w (n + 1)).toNat : Int), rfl, hK, hS, hM⟩
def ref03_Num_j1 (base : Int) (n_1 : Int) (s_1 : Str) (K_1 : Int → Str → Prop) : Prop :=
 (base ≠ 0) ∧ (ref01_Sign_W ((u8w (n_1.tmod base)).toNat : Int) (fun r_2 => ((r_2.length : Int) + (s_1.length : Int) ≤ 9223372036854775807) ∧ ((I64 (n_1.tdiv base)) ∧ (K_1 (n_1.tdiv base) (r_2 ++ s_1)))))
def ref03_Num_l1 (base : Int) (Q : Str → Prop) (K_1 : Int → Str → Prop) (n_1 : Int) (s_1 : Str) : Prop :=
 ((s_1 : Str) = [] → ref03_Num_j1 base n_1 s_1 K_1) ∧ (¬ ((s_1 : Str) = []) → (0 < n_1 → ref03_Num_j1 base n_1 s_1 K_1) ∧ (¬ (0 < n_1) → Q s_1))
def ref03_Num_W (n : Int) (base : Int) (Q : Str → Prop) : Prop :=
 loopW (fun (K_1 : (Int × Str) → Prop) (s : Int × Str) => ref03_Num_l1 base Q (fun n_1 s_1 => K_1 (n_1, s_1)) s.1 s.2) (n, [])
theorem ref03_Num_walk {F : Fz} {fr : List Ow} {h0 : Heap} (n : Int) (base : Int) (hS : St F (fr) h0)  {Q : Str → Prop} (hM : ref03_Num_W n base Q) :
  HC Tryz.prog 88 #[.int .i64 n, .int .i64 base] h0 fun u h' => ∃ (F' : Fz) (r_1 : Str), u = .string (bs r_1) ∧ Kp F h0 F' h' ∧ St F' (fr) h' ∧ Q r_1 := by
 unfold ref03_Num_W at hM
 have hK := Kp.refl F h0
 refine HC.of_HW (n := 23) Tryz.func88 rfl rfl (Nat.le_of_ble_eq_true rfl) ?_
 refine HW.seq ?_
 refine HW.region ?_
 refine oA (.string (bs [])) rfl rfl ?_
 refine HO.nil (tqn (?_))
 refine HW.seq ?_
 refine HW.region ?_
 refine oA (.string (bs [])) rfl rfl ?_
 refine HO.nil (tqn (?_))
 refine HW.seq ?_
 refine HW.block ?_
 obtain ⟨I_1, m_1, hI_1, hR_1⟩ := hM
 refine HW.loop (S := Int × Str) (fun s f h => match s with | (n_1, s_1) => ∃ (F' : Fz), f 0 = .int .i64 n_1 ∧ f 1 = .int .i64 base ∧ f 4 = .string (bs []) ∧ f 5 = .string (bs s_1) ∧ Kp F h0 F' h ∧ St F' (fr) h ∧ I_1 (n_1, s_1)) m_1 (n, []) ⟨F, rfl, rfl, rfl, rfl, hK, hS, hI_1⟩ ?_
 rintro ⟨n_1, s_1⟩ f_1 h_1 ⟨F_1, e0, e1, e4, e5, hK, hS, hI0⟩
 obtain ⟨K_1, hKe_1⟩ : ∃ K : Int → Str → Prop, K = fun n_1' s_1' => I_1 (n_1', s_1') ∧ m_1 (n_1', s_1') < m_1 (n_1, s_1) := ⟨_, rfl⟩
 have hM : ref03_Num_l1 base Q K_1 n_1 s_1 := by rw [hKe_1]; exact hR_1 (n_1, s_1) hI0
 unfold ref03_Num_l1 at hM
 refine HW.fr [(0, .int .i64 n_1), (1, .int .i64 base), (4, .string (bs [])), (5, .string (bs s_1))] ⟨e0, e1, e4, e5, trivial⟩ ?_
 refine HW.seq_mid (fun f h => ∃ (F' : Fz), f 0 = .int .i64 n_1 ∧ f 1 = .int .i64 base ∧ f 4 = .string (bs []) ∧ f 5 = .string (bs s_1) ∧ Kp F h0 F' h ∧ St F' (fr) h ∧ ref03_Num_j1 base n_1 s_1 K_1) ?_ ?_
 ·
  refine HW.seq ?_
  refine HW.region ?_
  refine oM (.string (bs s_1)) rfl rfl ?_
  refine oV (.bool (decide ((s_1 : Str) = []))) (q_eqlT rfl rfl) rfl ?_
  refine oM (.bool (decide ((s_1 : Str) = []))) rfl rfl ?_
  rcases Bool.eq_false_or_eq_true (decide ((s_1 : Str) = [])) with c_1 | c_1
  ·
   replace hM := hM.1 (of_decide_eq_true c_1)
   refine HO.past (pby rfl rfl c_1) rfl ?_
   refine HO.past (pby rfl rfl c_1) rfl ?_
   refine oV (.bool true) (q_pickK true rfl c_1 rfl) rfl ?_
   refine HO.nil (tqn (?_))
   refine HW.condT rfl ?_
   refine HW.skip (tqn (?_))
   exact ⟨F_1, rfl, rfl, rfl, rfl, hK, hS, hM⟩
  ·
   replace hM := hM.2 (of_decide_eq_false c_1)
   refine HO.val (v := .int .i64 n_1) (wby rfl rfl c_1) rfl (q_move rfl) ?_
   refine HO.val (v := .bool (decide (0 < n_1))) (wby rfl rfl c_1) rfl (q_gtr rfl rfl) ?_
   refine oV (.bool (decide (0 < n_1))) (q_pickK false rfl c_1 rfl) rfl ?_
   refine HO.nil (tqn (?_))
   refine HW.cond (decide (0 < n_1)) rfl (fun c_2 => ?_) (fun c_2 => ?_)
   ·
    replace hM := hM.1 (of_decide_eq_true c_2)
    refine HW.skip (tqn (?_))
    exact ⟨F_1, rfl, rfl, rfl, rfl, hK, hS, hM⟩
   ·
    replace hM := hM.2 (of_decide_eq_false c_2)
    refine HW.exit (thenQ_exit (thenQ_exit (blockQ_exit (tqn (?_)))))
    refine HW.seq ?_
    refine HW.region ?_
    refine oM (.string (bs s_1)) rfl rfl ?_
    refine oA (.string (bs s_1)) rfl rfl ?_
    refine HO.nil (tqn (?_))
    refine HW.ret (?_)
    refine ⟨.inr rfl, .string (bs s_1), res1 rfl (rt rfl), ?_⟩
    exact ⟨F_1, s_1, rfl, hK, hS, hM⟩
 ·
  rintro f_2 h_2 ⟨F_2, e0, e1, e4, e5, hK, hS, hM⟩
  unfold ref03_Num_j1 at hM
  refine HW.fr [(0, .int .i64 n_1), (1, .int .i64 base), (4, .string (bs [])), (5, .string (bs s_1))] ⟨e0, e1, e4, e5, trivial⟩ ?_
  refine HW.block ?_
  refine HW.seq ?_
  refine HW.region ?_
  refine oM (.int .i64 n_1) rfl rfl ?_
  refine oM (.int .i64 base) rfl rfl ?_
  obtain ⟨ho_1, hM⟩ := hM
  refine oV (.int .i64 (n_1.tmod base)) (q_rem rfl rfl ho_1) rfl ?_
  refine oV (.int .u8 ((u8w (n_1.tmod base)).toNat : Int)) ((q_convInt (n := n_1.tmod base) Tryz.underlying3 Tryz.underlying5 rfl rfl).of_eq (u8w_v _)) rfl ?_
  refine HO.call (wn) rfl (ec en_101 rfl rfl) (ref01_Sign_walk (fr := (fr)) ((u8w (n_1.tmod base)).toNat : Int) hS hM) ?_
  rintro _ h_3 ⟨F_3, r_2, rfl, hk, hS, hM⟩
  replace hK := hK.trans hk
  refine oM (.string (bs s_1)) rfl rfl ?_
  obtain ⟨ho_2, hM⟩ := hM
  refine oV (.string (bs (r_2 ++ s_1))) (q_addT rfl rfl ho_2) rfl ?_
  refine oA (.string (bs (r_2 ++ s_1))) rfl rfl ?_
  refine HO.nil (tqn (?_))
  refine HW.region ?_
  refine oM (.int .i64 n_1) rfl rfl ?_
  refine oM (.int .i64 base) rfl rfl ?_
  obtain ⟨ho_3, hM⟩ := hM
  refine oV (.int .i64 (n_1.tdiv base)) (q_quoN _ rfl rfl ho_1 rfl ho_3.1 ho_3.2) rfl ?_
  refine oA (.int .i64 (n_1.tdiv base)) rfl rfl ?_
  refine HO.nil (blockQ_normal (tqn (?_)))
  rw [hKe_1] at hM
  exact ⟨(n_1.tdiv base, r_2 ++ s_1), ⟨F_3, rfl, rfl, rfl, rfl, hK, hS, hM.1⟩, hM.2⟩
def ref32_num_B (R : Int → (Str → Prop) → Prop) (n : Int) (Q : Str → Prop) : Prop :=
 (0 ≤ n → ref03_Num_W n 10 (fun r_2 => Q r_2)) ∧ (¬ (0 ≤ n) → ((n.tmod 10) = 0 → (I64 (n.tdiv 10)) ∧ (R (n.tdiv 10) (fun r_3 => ((r_3.length : Int) + ((([48] : Str)).length : Int) ≤ 9223372036854775807) ∧ (Q (r_3 ++ ([48] : Str)))))) ∧ (¬ ((n.tmod 10) = 0) → ((-10) < n → (I64 (0 - n)) ∧ (ref03_Num_W (0 - n) 10 (fun r_4 => (((([45] : Str)).length : Int) + (r_4.length : Int) ≤ 9223372036854775807) ∧ (Q (([45] : Str) ++ r_4))))) ∧ (¬ ((-10) < n) → (I64 (n.tdiv 10)) ∧ (R (n.tdiv 10) (fun r_5 => (I64 (0 - (n.tmod 10))) ∧ (ref03_Num_W (0 - (n.tmod 10)) 10 (fun r_6 => ((r_5.length : Int) + (r_6.length : Int) ≤ 9223372036854775807) ∧ (Q (r_5 ++ r_6)))))))))
def ref32_num_Wn : Nat → Int → (Str → Prop) → Prop
 | 0 => fun _ _ => False
 | n + 1 => ref32_num_B (ref32_num_Wn n)
def ref32_num_W (n : Int) (Q : Str → Prop) : Prop :=
 ∃ fu_ : Nat, ref32_num_Wn fu_ n Q
theorem ref32_num_walkn : ∀ (n_ : Nat) {F : Fz} {fr : List Ow} {h0 : Heap} (n : Int) (hS : St F (fr) h0)  {Q : Str → Prop} (hM : ref32_num_Wn n_ n Q),
  HC Tryz.prog 68 #[.int .i64 n] h0 fun u h' => ∃ (F' : Fz) (r_1 : Str), u = .string (bs r_1) ∧ Kp F h0 F' h' ∧ St F' (fr) h' ∧ Q r_1 := by
 intro n_
 induction n_ with
 | zero => intro F fr h0 n hS  Q hM; exact hM.elim
 | succ n_ ih => ?_
 intro F fr h0 n hS  Q hM
 replace hM : ref32_num_B (ref32_num_Wn n_) n Q := hM
 unfold ref32_num_B at hM
 generalize ref32_num_Wn n_ = R at ih hM
 have hK := Kp.refl F h0
 refine HC.of_HW (n := 28) Tryz.func68 rfl rfl (Nat.le_of_ble_eq_true rfl) ?_
 refine HW.seq ?_
 refine HW.region ?_
 refine oA (.string (bs [])) rfl rfl ?_
 refine HO.nil (tqn (?_))
 refine HW.seq ?_
 refine HW.seq ?_
 refine HW.region ?_
 refine oM (.int .i64 n) rfl rfl ?_
 refine oV (.bool (decide (0 ≤ n))) (q_geq rfl rfl) rfl ?_
 refine HO.nil (tqn (?_))
 refine HW.cond (decide (0 ≤ n)) rfl (fun c_1 => ?_) (fun c_1 => ?_)
 ·
  replace hM := hM.1 (of_decide_eq_true c_1)
  refine HW.seq ?_
  refine HW.region ?_
  refine oM (.int .i64 n) rfl rfl ?_
  refine HO.call (wn) rfl (ec en_88 rfl rfl) (ref03_Num_walk (fr := (fr)) n 10 hS hM) ?_
  rintro _ h_1 ⟨F_1, r_2, rfl, hk, hS, hM⟩
  replace hK := hK.trans hk
  refine oA (.string (bs r_2)) rfl rfl ?_
  refine HO.nil (tqn (?_))
  refine HW.ret (thenQ_ret (?_))
  refine ⟨.inr rfl, .string (bs r_2), res1 rfl (rt rfl), ?_⟩
  exact ⟨F_1, r_2, rfl, hK, hS, hM⟩
 ·
  replace hM := hM.2 (of_decide_eq_false c_1)
  refine HW.skip (tqn (?_))
  refine HW.seq ?_
  refine HW.seq ?_
  refine HW.region ?_
  refine oM (.int .i64 n) rfl rfl ?_
  refine oV (.int .i64 (n.tmod 10)) (q_rem rfl rfl (by decide)) rfl ?_
  refine oV (.bool (decide ((n.tmod 10) = 0))) (q_eql rfl rfl) rfl ?_
  refine HO.nil (tqn (?_))
  refine HW.cond (decide ((n.tmod 10) = 0)) rfl (fun c_2 => ?_) (fun c_2 => ?_)
  ·
   replace hM := hM.1 (of_decide_eq_true c_2)
   refine HW.seq ?_
   refine HW.region ?_
   refine oM (.int .i64 n) rfl rfl ?_
   obtain ⟨ho_1, hM⟩ := hM
   refine oV (.int .i64 (n.tdiv 10)) (q_quoN _ rfl rfl (by decide) rfl ho_1.1 ho_1.2) rfl ?_
   refine HO.call (wn) rfl (ec en_68 rfl rfl) (ih (fr := (fr)) (n.tdiv 10) hS hM) ?_
   rintro _ h_2 ⟨F_2, r_3, rfl, hk, hS, hM⟩
   replace hK := hK.trans hk
   obtain ⟨ho_2, hM⟩ := hM
   refine oV (.string (bs (r_3 ++ ([48] : Str)))) (q_addT rfl rfl ho_2) rfl ?_
   refine oA (.string (bs (r_3 ++ ([48] : Str)))) rfl rfl ?_
   refine HO.nil (tqn (?_))
   refine HW.ret (thenQ_ret (?_))
   refine ⟨.inr rfl, .string (bs (r_3 ++ ([48] : Str))), res1 rfl (rt rfl), ?_⟩
   exact ⟨F_2, r_3 ++ ([48] : Str), rfl, hK, hS, hM⟩
  ·
   replace hM := hM.2 (of_decide_eq_false c_2)
   refine HW.skip (tqn (?_))
   refine HW.seq ?_
   refine HW.seq ?_
   refine HW.region ?_
   refine oM (.int .i64 n) rfl rfl ?_
   refine oV (.bool (decide ((-10) < n))) (q_gtr rfl rfl) rfl ?_
   refine HO.nil (tqn (?_))
   refine HW.cond (decide ((-10) < n)) rfl (fun c_3 => ?_) (fun c_3 => ?_)
   ·
    replace hM := hM.1 (of_decide_eq_true c_3)
    refine HW.seq ?_
    refine HW.region ?_
    refine oM (.int .i64 n) rfl rfl ?_
    obtain ⟨ho_3, hM⟩ := hM
    refine oV (.int .i64 (0 - n)) ((q_neg rfl).of_eq (by rw [wrap_i64 ho_3.1 ho_3.2])) rfl ?_
    refine HO.call (wn) rfl (ec en_88 rfl rfl) (ref03_Num_walk (fr := (fr)) (0 - n) 10 hS hM) ?_
    rintro _ h_3 ⟨F_3, r_4, rfl, hk, hS, hM⟩
    replace hK := hK.trans hk
    obtain ⟨ho_4, hM⟩ := hM
    refine oV (.string (bs (([45] : Str) ++ r_4))) (q_addT rfl rfl ho_4) rfl ?_
    refine oA (.string (bs (([45] : Str) ++ r_4))) rfl rfl ?_
    refine HO.nil (tqn (?_))
    refine HW.ret (thenQ_ret (?_))
    refine ⟨.inr rfl, .string (bs (([45] : Str) ++ r_4)), res1 rfl (rt rfl), ?_⟩
    exact ⟨F_3, ([45] : Str) ++ r_4, rfl, hK, hS, hM⟩
   ·
    replace hM := hM.2 (of_decide_eq_false c_3)
    refine HW.skip (tqn (?_))
    refine HW.seq ?_
    refine HW.region ?_
    refine oM (.int .i64 n) rfl rfl ?_
    obtain ⟨ho_5, hM⟩ := hM
    refine oV (.int .i64 (n.tdiv 10)) (q_quoN _ rfl rfl (by decide) rfl ho_5.1 ho_5.2) rfl ?_
    refine HO.call (wn) rfl (ec en_68 rfl rfl) (ih (fr := (fr)) (n.tdiv 10) hS hM) ?_
    rintro _ h_4 ⟨F_4, r_5, rfl, hk, hS, hM⟩
    replace hK := hK.trans hk
    refine oM (.int .i64 n) rfl rfl ?_
    refine oV (.int .i64 (n.tmod 10)) (q_rem rfl rfl (by decide)) rfl ?_
    obtain ⟨ho_6, hM⟩ := hM
    refine oV (.int .i64 (0 - (n.tmod 10))) ((q_neg rfl).of_eq (by rw [wrap_i64 ho_6.1 ho_6.2])) rfl ?_
    refine HO.call (wn) rfl (ec en_88 rfl rfl) (ref03_Num_walk (fr := (fr)) (0 - (n.tmod 10)) 10 hS hM) ?_
    rintro _ h_5 ⟨F_5, r_6, rfl, hk, hS, hM⟩
    replace hK := hK.trans hk
    obtain ⟨ho_7, hM⟩ := hM
    refine oV (.string (bs (r_5 ++ r_6))) (q_addT rfl rfl ho_7) rfl ?_
    refine oA (.string (bs (r_5 ++ r_6))) rfl rfl ?_
    refine HO.nil (tqn (?_))
    refine HW.ret (?_)
    refine ⟨.inr rfl, .string (bs (r_5 ++ r_6)), res1 rfl (rt rfl), ?_⟩
    exact ⟨F_5, r_5 ++ r_6, rfl, hK, hS, hM⟩
theorem ref32_num_walk {F : Fz} {fr : List Ow} {h0 : Heap} (n : Int) (hS : St F (fr) h0)  {Q : Str → Prop} (hM : ref32_num_W n Q) :
  HC Tryz.prog 68 #[.int .i64 n] h0 fun u h' => ∃ (F' : Fz) (r_1 : Str), u = .string (bs r_1) ∧ Kp F h0 F' h' ∧ St F' (fr) h' ∧ Q r_1 := by
 obtain ⟨n_, hM⟩ := hM
 exact ref32_num_walkn n_ n hS  hM
def ref32_Print_l1 (tL : List TB) (Q : Str → Prop) (K_1 : Str → Int → Prop) (s_1 : Str) (i_1 : Int) : Prop :=
 (i_1 < (tL.length : Int) → ((s_1.length : Int) + ((([32] : Str)).length : Int) ≤ 9223372036854775807) ∧ (((0 : Int) ≤ i_1 ∧ i_1 < (tL.length : Int)) ∧ (ref32_num_W ((gi tL i_1).1) (fun r_3 => (((s_1 ++ ([32] : Str)).length : Int) + (r_3.length : Int) ≤ 9223372036854775807) ∧ (((((s_1 ++ ([32] : Str)) ++ r_3).length : Int) + ((([62] : Str)).length : Int) ≤ 9223372036854775807) ∧ (ref32_num_W ((gi tL i_1).2) (fun r_4 => (((((s_1 ++ ([32] : Str)) ++ r_3) ++ ([62] : Str)).length : Int) + (r_4.length : Int) ≤ 9223372036854775807) ∧ ((I64 (i_1 + 1)) ∧ (K_1 ((((s_1 ++ ([32] : Str)) ++ r_3) ++ ([62] : Str)) ++ r_4) (i_1 + 1)))))))))) ∧ (¬ (i_1 < (tL.length : Int)) → Q s_1)
def ref32_Print_W (tR : Int) (tL : List TB) (Q : Str → Prop) : Prop :=
 ref32_num_W tR (fun r_2 => loopW (fun (K_1 : (Str × Int) → Prop) (s : Str × Int) => ref32_Print_l1 tL Q (fun s_1 i_1 => K_1 (s_1, i_1)) s.1 s.2) (r_2, 0))
theorem ref32_Print_walk {F : Fz} {fr : List Ow} {h0 : Heap} (tR : Int) (tL : List TB) (vT : Value) (hS : St F (fr) h0) (hLT : SliceF F h0 2 eB vT tL) {Q : Str → Prop} (hM : ref32_Print_W tR tL Q) :
  HC Tryz.prog 44 #[.agg #[.int .i64 tR, vT]] h0 fun u h' => ∃ (F' : Fz) (r_1 : Str), u = .string (bs r_1) ∧ Kp F h0 F' h' ∧ St F' (fr) h' ∧ (SliceF F' h' 2 eB vT tL) ∧ Q r_1 := by
 unfold ref32_Print_W at hM
 have hK := Kp.refl F h0
 refine HC.of_HW (n := 35) Tryz.func44 rfl rfl (Nat.le_of_ble_eq_true rfl) ?_
 refine HW.seq ?_
 refine HW.region ?_
 refine HO.eff (wn) rfl (st_box (c := #[.int .i64 tR, vT]) (k' := 2) hS rfl rfl) ?_
 rintro _ h_1 ⟨b_1, rfl, hS, hk⟩
 replace hK := hK.trans hk
 replace hLT := hLT.kp hk
 refine oA (.string (bs [])) rfl rfl ?_
 refine HO.nil (tqn (?_))
 refine HW.seq ?_
 refine HW.region ?_
 refine oV (.pointer (some ⟨b_1, 0, none⟩)) (qfA fa_31_0 rfl rfl) rfl ?_
 refine oV (.int .i64 tR) (q_load to_3 rfl (Blk.cell (hS.box 0 rfl) rfl)) rfl ?_
 refine HO.call (wn) rfl (ec en_68 rfl rfl) (ref32_num_walk (fr := (Ow.box b_1 31 #[.int .i64 tR, vT] :: fr)) tR hS hM) ?_
 rintro _ h_2 ⟨F_1, r_2, rfl, hk, hS, hM⟩
 replace hK := hK.trans hk
 replace hLT := hLT.kp hk
 refine oA (.string (bs r_2)) rfl rfl ?_
 refine HO.nil (tqn (?_))
 refine HW.seq ?_
 refine HW.seq ?_
 refine HW.region ?_
 refine oA (.int .i64 0) rfl rfl ?_
 refine HO.nil (tqn (?_))
 refine HW.block ?_
 obtain ⟨I_1, m_1, hI_1, hR_1⟩ := hM
 refine HW.loop (S := Str × Int) (fun s f h => match s with | (s_1, i_1) => ∃ (F' : Fz), f 1 = .pointer (some ⟨b_1, 0, none⟩) ∧ f 2 = .string (bs []) ∧ f 3 = .string (bs s_1) ∧ f 4 = .int .i64 i_1 ∧ Kp F h0 F' h ∧ St F' (Ow.box b_1 31 #[.int .i64 tR, vT] :: fr) h ∧ (SliceF F' h 2 eB vT tL) ∧ I_1 (s_1, i_1)) m_1 (r_2, 0) ⟨F_1, rfl, rfl, rfl, rfl, hK, hS, hLT, hI_1⟩ ?_
 rintro ⟨s_1, i_1⟩ f_1 h_3 ⟨F_2, e1, e2, e3, e4, hK, hS, hLT, hI0⟩
 obtain ⟨K_1, hKe_1⟩ : ∃ K : Str → Int → Prop, K = fun s_1' i_1' => I_1 (s_1', i_1') ∧ m_1 (s_1', i_1') < m_1 (s_1, i_1) := ⟨_, rfl⟩
 have hM : ref32_Print_l1 tL Q K_1 s_1 i_1 := by rw [hKe_1]; exact hR_1 (s_1, i_1) hI0
 unfold ref32_Print_l1 at hM
 refine HW.fr [(1, .pointer (some ⟨b_1, 0, none⟩)), (2, .string (bs [])), (3, .string (bs s_1)), (4, .int .i64 i_1)] ⟨e1, e2, e3, e4, trivial⟩ ?_
 refine HW.seq ?_
 refine HW.seq ?_
 refine HW.region ?_
 refine oM (.int .i64 i_1) rfl rfl ?_
 refine oV (.pointer (some ⟨b_1, 1, none⟩)) (qfA fa_31_1 rfl rfl) rfl ?_
 refine oV (vT) (q_load to_29 rfl (Blk.cell (hS.box 0 rfl) rfl)) rfl ?_
 refine oV (.int .i64 (tL.length : Int)) (q_len ts_29 (shp hLT.is) rfl rfl) rfl ?_
 refine oV (.bool (decide (i_1 < (tL.length : Int)))) (q_lss rfl rfl) rfl ?_
 refine HO.nil (tqn (?_))
 refine HW.cond (decide (i_1 < (tL.length : Int))) rfl (fun c_1 => ?_) (fun c_1 => ?_)
 ·
  replace hM := hM.1 (of_decide_eq_true c_1)
  refine HW.skip (tqn (?_))
  refine HW.seq ?_
  refine HW.block ?_
  refine HW.regionA 20 mixed (fun h => (SliceIs h 2 eB vT tL) ∧ (Blk h b_1 (.cells #[.int .i64 tR, vT] 31 (0, 0)))) [] (by kernel_rfl) ?_
  refine HA.val (k := 0) (v := .string (bs s_1)) rfl rfl (by kernel_rfl) (by kernel_rfl) (wn) rfl (fun _ ⟨hLT, c302⟩ => q_move rfl) ?_
  obtain ⟨ho_1, hM⟩ := hM
  refine HA.val (k := 1) (v := .string (bs (s_1 ++ ([32] : Str)))) rfl rfl (by kernel_rfl) (by kernel_rfl) (wn) rfl (fun _ ⟨hLT, c302⟩ => q_addT rfl rfl ho_1) ?_
  refine HA.val (k := 2) (v := .pointer (some ⟨b_1, 1, none⟩)) rfl rfl (by kernel_rfl) (by kernel_rfl) (wn) rfl (fun _ ⟨hLT, c302⟩ => qfA fa_31_1 rfl rfl) ?_
  refine HA.val (k := 3) (v := vT) rfl rfl (by kernel_rfl) (by kernel_rfl) (wn) rfl (fun _ ⟨hLT, c302⟩ => q_load to_29 rfl (Blk.cell c302 rfl)) ?_
  refine HA.val (k := 4) (v := .int .i64 i_1) rfl rfl (by kernel_rfl) (by kernel_rfl) (wn) rfl (fun _ ⟨hLT, c302⟩ => q_move rfl) ?_
  obtain ⟨ho_2, hM⟩ := hM
  refine HA.val (k := 5) (v := elemPtr 2 vT (i_1).toNat) rfl rfl (by kernel_rfl) (by kernel_rfl) (wn) rfl (fun _ ⟨hLT, c302⟩ => q_idx ts_29 hLT rfl rfl ho_2) ?_
  refine HA.val (k := 6) (v := fieldPtr 2 vT (i_1).toNat 0) rfl rfl (by kernel_rfl) (by kernel_rfl) (wn) rfl (fun _ ⟨hLT, c302⟩ => q_fldElem fa_52_0 hLT rfl ho_2) ?_
  refine HA.val (k := 7) (v := .int .i64 ((gi tL i_1).1)) rfl rfl (by kernel_rfl) (by kernel_rfl) (wn) rfl (fun _ ⟨hLT, c302⟩ => q_ldField to_3 hLT rfl ho_2 (by decide) rfl) ?_
  refine HA.val (k := 11) (v := .pointer (some ⟨b_1, 1, none⟩)) rfl rfl (by kernel_rfl) (by kernel_rfl) (wn) rfl (fun _ ⟨hLT, c302⟩ => qfA fa_31_1 rfl rfl) ?_
  refine HA.val (k := 12) (v := vT) rfl rfl (by kernel_rfl) (by kernel_rfl) (wn) rfl (fun _ ⟨hLT, c302⟩ => q_load to_29 rfl (Blk.cell c302 rfl)) ?_
  refine HA.val (k := 13) (v := .int .i64 i_1) rfl rfl (by kernel_rfl) (by kernel_rfl) (wn) rfl (fun _ ⟨hLT, c302⟩ => q_move rfl) ?_
  refine HA.val (k := 14) (v := elemPtr 2 vT (i_1).toNat) rfl rfl (by kernel_rfl) (by kernel_rfl) (wn) rfl (fun _ ⟨hLT, c302⟩ => q_idx ts_29 hLT rfl rfl ho_2) ?_
  refine HA.val (k := 15) (v := fieldPtr 2 vT (i_1).toNat 1) rfl rfl (by kernel_rfl) (by kernel_rfl) (wn) rfl (fun _ ⟨hLT, c302⟩ => q_fldElem fa_52_1 hLT rfl ho_2) ?_
  refine HA.val (k := 16) (v := .int .i64 ((gi tL i_1).2)) rfl rfl (by kernel_rfl) (by kernel_rfl) (wn) rfl (fun _ ⟨hLT, c302⟩ => q_ldField to_3 hLT rfl ho_2 (by decide) rfl) ?_
  refine HA.one (k := 8) ⟨⟨hLT.is, (hS.box 0 rfl)⟩, (Go.Wk.at_nil _ _)⟩ (by kernel_rfl) ?_
  refine HS.call rfl (wn) rfl (ec en_68 rfl rfl) (ref32_num_walk (fr := (Ow.box b_1 31 #[.int .i64 tR, vT] :: fr)) ((gi tL i_1).1) hS hM) ?_
  rintro _ h_4 ⟨F_3, r_3, rfl, hk, hS, hM⟩
  replace hK := hK.trans hk
  replace hLT := hLT.kp hk
  obtain ⟨ho_3, hM⟩ := hM
  refine HA.val (k := 9) (v := .string (bs ((s_1 ++ ([32] : Str)) ++ r_3))) rfl rfl (by kernel_rfl) (by kernel_rfl) (wn) rfl (fun _ ⟨hLT, c302⟩ => q_addT rfl rfl ho_3) ?_
  obtain ⟨ho_4, hM⟩ := hM
  refine HA.val (k := 10) (v := .string (bs (((s_1 ++ ([32] : Str)) ++ r_3) ++ ([62] : Str)))) rfl rfl (by kernel_rfl) (by kernel_rfl) (wn) rfl (fun _ ⟨hLT, c302⟩ => q_addT rfl rfl ho_4) ?_
  refine HA.one (k := 17) ⟨⟨hLT.is, (hS.box 0 rfl)⟩, (Go.Wk.at_nil _ _)⟩ (by kernel_rfl) ?_
  refine HS.call rfl (wn) rfl (ec en_68 rfl rfl) (ref32_num_walk (fr := (Ow.box b_1 31 #[.int .i64 tR, vT] :: fr)) ((gi tL i_1).2) hS hM) ?_
  rintro _ h_5 ⟨F_4, r_4, rfl, hk, hS, hM⟩
  replace hK := hK.trans hk
  replace hLT := hLT.kp hk
  obtain ⟨ho_5, hM⟩ := hM
  refine HA.val (k := 18) (v := .string (bs ((((s_1 ++ ([32] : Str)) ++ r_3) ++ ([62] : Str)) ++ r_4))) rfl rfl (by kernel_rfl) (by kernel_rfl) (wn) rfl (fun _ ⟨hLT, c302⟩ => q_addT rfl rfl ho_5) ?_
  refine HA.val (k := 19) (v := .string (bs ((((s_1 ++ ([32] : Str)) ++ r_3) ++ ([62] : Str)) ++ r_4))) rfl rfl (by kernel_rfl) (by kernel_rfl) (wn) rfl (fun _ ⟨hLT, c302⟩ => q_assign rfl) ?_
  refine HA.nil ⟨⟨hLT.is, (hS.box 0 rfl)⟩, (Go.Wk.at_nil _ _)⟩ (by kernel_rfl) (blockQ_normal (tqn (?_)))
  refine HW.region ?_
  refine oM (.int .i64 i_1) rfl rfl ?_
  obtain ⟨ho_6, hM⟩ := hM
  refine oV (.int .i64 (i_1 + 1)) (q_addN _ rfl rfl rfl ho_6.1 ho_6.2) rfl ?_
  refine oA (.int .i64 (i_1 + 1)) rfl rfl ?_
  refine HO.nil (tqn (?_))
  rw [hKe_1] at hM
  exact ⟨((((s_1 ++ ([32] : Str)) ++ r_3) ++ ([62] : Str)) ++ r_4, i_1 + 1), ⟨F_4, rfl, rfl, rfl, rfl, hK, hS, hLT, hM.1⟩, hM.2⟩
 ·
  replace hM := hM.2 (of_decide_eq_false c_1)
  refine HW.exit (thenQ_exit (thenQ_exit (blockQ_exit (tqn (?_)))))
  refine HW.seq ?_
  refine HW.region ?_
  refine oM (.string (bs s_1)) rfl rfl ?_
  refine oA (.string (bs s_1)) rfl rfl ?_
  refine HO.nil (tqn (?_))
  refine HW.ret (?_)
  refine ⟨.inr rfl, .string (bs s_1), res1 rfl (rt rfl), ?_⟩
  replace hS : St F_2 (fr) h_3 := hS.perm2 [] 1 rfl rfl
  exact ⟨F_2, s_1, rfl, hK, hS, hLT, hM⟩
def repair_Star_W (tR : Int) (tL : List TB) (fan : Int) (Q : Bool → Prop) : Prop :=
 repair_star_W tR tL fan (fun r_2 => Q r_2)
theorem repair_Star_walk {F : Fz} {fr : List Ow} {h0 : Heap} (tR : Int) (tL : List TB) (fan : Int) (vT : Value) (hS : St F (fr) h0) (hLT : SliceF F h0 2 eB vT tL) {Q : Bool → Prop} (hM : repair_Star_W tR tL fan Q) :
  HC Tryz.prog 20 #[.agg #[.int .i64 tR, vT], .int .i64 fan] h0 fun u h' => ∃ (F' : Fz) (r_1 : Bool), u = .bool r_1 ∧ Kp F h0 F' h' ∧ St F' (fr) h' ∧ (SliceF F' h' 2 eB vT tL) ∧ Q r_1 := by
 unfold repair_Star_W at hM
 have hK := Kp.refl F h0
 refine HC.of_HW (n := 8) Tryz.func20 rfl rfl (Nat.le_of_ble_eq_true rfl) ?_
 refine HW.seq ?_
 refine HW.region ?_
 refine HO.eff (wn) rfl (st_box (c := #[.int .i64 tR, vT]) (k' := 2) hS rfl rfl) ?_
 rintro _ h_1 ⟨b_1, rfl, hS, hk⟩
 replace hK := hK.trans hk
 replace hLT := hLT.kp hk
 refine oA (.bool false) rfl rfl ?_
 refine HO.nil (tqn (?_))
 refine HW.seq ?_
 refine HW.region ?_
 refine oV (.agg #[.int .i64 tR, vT]) (q_loadAgg (cs := [.int .i64 tR, vT]) ta_31 rfl rfl (Blk.cells (k := 2) (hS.box 0 rfl) rfl)) rfl ?_
 refine oM (.int .i64 fan) rfl rfl ?_
 refine HO.call (wn) rfl (ec en_43 rfl rfl) (repair_star_walk (fr := (Ow.box b_1 31 #[.int .i64 tR, vT] :: fr)) tR tL fan vT hS hLT hM) ?_
 rintro _ h_2 ⟨F_1, r_2, rfl, hk, hS, _, hM⟩
 replace hK := hK.trans hk
 replace hLT := hLT.kp hk
 refine oA (.bool r_2) rfl rfl ?_
 refine HO.nil (tqn (?_))
 refine HW.ret (?_)
 refine ⟨.inr rfl, .bool r_2, res1 rfl (rt rfl), ?_⟩
 replace hS : St F_1 (fr) h_2 := hS.perm2 [] 1 rfl rfl
 exact ⟨F_1, r_2, rfl, hK, hS, hLT, hM⟩
def law34_lives_W (Q : Bool → Prop) : Prop :=
 repair_Join_W 1 ([(1, 2), (1, 3)] : List TB) 4 ([9] : List Int) 2 (fun r_0_1 r_1_1 => repair_Leave_W r_0_1 r_1_1 2 ([9] : List Int) 2 (fun r_0_2 r_1_2 => ref32_Print_W r_0_1 r_1_1 (fun r_2 => ((r_2 : Str) = [49, 32, 49, 62, 50, 32, 49, 62, 57, 32, 57, 62, 51, 32, 57, 62, 52] → ref32_Print_W r_0_2 r_1_2 (fun r_3 => ((r_3 : Str) = [49, 32, 49, 62, 57, 32, 57, 62, 51, 32, 57, 62, 52] → repair_Star_W r_0_1 r_1_1 2 (fun r_4 => ((!r_4) = true → repair_Star_W r_0_1 r_1_1 1 (fun r_5 => Q r_5)) ∧ ((!r_4) = false → Q false))) ∧ (¬ ((r_3 : Str) = [49, 32, 49, 62, 57, 32, 57, 62, 51, 32, 57, 62, 52]) → Q false))) ∧ (¬ ((r_2 : Str) = [49, 32, 49, 62, 50, 32, 49, 62, 57, 32, 57, 62, 51, 32, 57, 62, 52]) → Q false))))
theorem law34_lives_walk {F : Fz} {fr : List Ow} {h0 : Heap}  (hS : St F (fr) h0)  (hD : DM.on = false) {Q : Bool → Prop} (hM : law34_lives_W Q) :
  HC Tryz.prog 24 #[] h0 fun u h' => ∃ (F' : Fz) (r_1 : Bool), u = .bool r_1 ∧ Kp F h0 F' h' ∧ St F' (fr) h' ∧ Q r_1 := by
 unfold law34_lives_W at hM
 have hK := Kp.refl F h0
 refine HC.of_HW (n := 31) Tryz.func24 rfl rfl (Nat.le_of_ble_eq_true rfl) ?_
 refine HW.seq ?_
 refine HW.region ?_
 refine oA (.bool false) rfl rfl ?_
 refine HO.nil (tqn (?_))
 refine HW.seq ?_
 refine HW.region ?_
 refine oV (.agg #[.int .i64 1, .int .i64 2]) (q_build tp_52 rfl) rfl ?_
 refine oV (.agg #[.int .i64 1, .int .i64 3]) (q_build tp_52 rfl) rfl ?_
 refine HO.eff (wn) rfl (st_lit (enc := eB) (cells := #[.int .i64 1, .int .i64 2, .int .i64 1, .int .i64 3]) #[.int .i64 0, .int .i64 0, .int .i64 0, .int .i64 0] ([(1, 2), (1, 3)] : List TB) hS tl_29 (by decide) (by decide) (by kernel_rfl) (by kernel_rfl) rfl (by intro x hx; rfl) rfl) ?_
 rintro _ h_1 ⟨b_1, rfl, hS, hk⟩
 replace hK := hK.trans hk
 refine oV (.agg #[.int .i64 1, .slice (some ⟨b_1, 0, none⟩) 2 2]) (q_build tp_31 rfl) rfl ?_
 refine HO.eff (wn) rfl (st_alloc (c := #[.int .i64 0, .slice none 0 0]) hS tz_31 rfl) ?_
 rintro _ h_2 ⟨b_2, rfl, hS, hk⟩
 replace hK := hK.trans hk
 refine HO.sto (wn) rfl (st_storeAgg (c' := #[.int .i64 1, .slice (some ⟨b_1, 0, none⟩) 2 2]) hS (i := 0) rfl ta_31 rfl rfl rfl (List.forall_mem_cons.2 ⟨rfl, (List.forall_mem_cons.2 ⟨(shp (hS.own 1 rfl).slice).one, (fun _ h => by cases h)⟩)⟩) (Nat.le_of_ble_eq_true rfl) rfl) ?_
 rintro h_3 ⟨hS, hk⟩
 replace hK := hK.trans hk
 refine HO.nil (tqn (?_))
 refine HW.seq ?_
 refine HW.region ?_
 refine oV (.agg #[.int .i64 1, .slice (some ⟨b_1, 0, none⟩) 2 2]) (q_loadAgg (cs := [.int .i64 1, .slice (some ⟨b_1, 0, none⟩) 2 2]) ta_31 rfl rfl (Blk.cells (k := 2) (hS.box 0 rfl) rfl)) rfl ?_
 refine HO.eff (wn) rfl (st_lit (enc := encI) (cells := #[.int .i64 9]) #[.int .i64 0] ([9] : List Int) hS tl_22 (by decide) (by decide) (by kernel_rfl) (by kernel_rfl) rfl (by intro x hx; rfl) rfl) ?_
 rintro _ h_4 ⟨b_3, rfl, hS, hk⟩
 replace hK := hK.trans hk
 replace hS : St F (Ow.own 52 2 eB (.slice (some ⟨b_1, 0, none⟩) 2 2) ([(1, 2), (1, 3)] : List TB) :: Ow.own 3 1 encI (.slice (some ⟨b_3, 0, none⟩) 1 1) ([9] : List Int) :: Ow.box b_2 31 #[.int .i64 1, .slice (some ⟨b_1, 0, none⟩) 2 2] :: fr) h_4 := hS.perm2 [2, 0, 1] 3 rfl rfl
 have hZ_1 := hS
 have hkz_1 := (hS.freeze).2
 replace hS := hS.freeze.1
 have hL_1 : SliceF (fun bz_ => F bz_ ∨ (Ow.own 52 2 eB (.slice (some ⟨b_1, 0, none⟩) 2 2) ([(1, 2), (1, 3)] : List TB)).foot bz_) h_4 2 eB (.slice (some ⟨b_1, 0, none⟩) 2 2) ([(1, 2), (1, 3)] : List TB) := ⟨(hZ_1.own 0 rfl).slice, fun _ b hb => .inr hb⟩
 replace hS : St (fun bz_ => F bz_ ∨ (Ow.own 52 2 eB (.slice (some ⟨b_1, 0, none⟩) 2 2) ([(1, 2), (1, 3)] : List TB)).foot bz_) (Ow.own 3 1 encI (.slice (some ⟨b_3, 0, none⟩) 1 1) ([9] : List Int) :: Ow.box b_2 31 #[.int .i64 1, .slice (some ⟨b_1, 0, none⟩) 2 2] :: fr) h_4 := hS
 have hZ_2 := hS
 have hkz_2 := (hS.freeze).2
 replace hS := hS.freeze.1
 have hL_2 : SliceF (fun bz_ => (fun bz_ => F bz_ ∨ (Ow.own 52 2 eB (.slice (some ⟨b_1, 0, none⟩) 2 2) ([(1, 2), (1, 3)] : List TB)).foot bz_) bz_ ∨ (Ow.own 3 1 encI (.slice (some ⟨b_3, 0, none⟩) 1 1) ([9] : List Int)).foot bz_) h_4 1 encI (.slice (some ⟨b_3, 0, none⟩) 1 1) ([9] : List Int) := ⟨(hZ_2.own 0 rfl).slice, fun _ b hb => .inr hb⟩
 refine HO.call (wn) rfl (ec en_16 rfl rfl) (repair_Join_walk (fr := (Ow.box b_2 31 #[.int .i64 1, .slice (some ⟨b_1, 0, none⟩) 2 2] :: fr)) 1 ([(1, 2), (1, 3)] : List TB) 4 ([9] : List Int) 2 (.slice (some ⟨b_1, 0, none⟩) 2 2) (.slice (some ⟨b_3, 0, none⟩) 1 1) hS (hL_1.kp hkz_2) hL_2 hD hM) ?_
 rintro _ h_5 ⟨F_1, r_0_1, r_1_1, vr_1_1, rfl, hk, hS, _, _, hM⟩
 obtain ⟨hS, hk⟩ := hZ_2.back hk hS
 obtain ⟨hS, hk⟩ := hZ_1.back hk hS
 generalize (fun bz_ => (fun bz_ => F_1 bz_ ∧ ¬ (Ow.own 3 1 encI (.slice (some ⟨b_3, 0, none⟩) 1 1) ([9] : List Int)).foot bz_) bz_ ∧ ¬ (Ow.own 52 2 eB (.slice (some ⟨b_1, 0, none⟩) 2 2) ([(1, 2), (1, 3)] : List TB)).foot bz_) = F_2 at hS hk
 replace hK := hK.trans hk
 refine HO.eff (wn) rfl (st_alloc (c := #[.int .i64 0, .slice none 0 0]) hS tz_31 rfl) ?_
 rintro _ h_6 ⟨b_4, rfl, hS, hk⟩
 replace hK := hK.trans hk
 refine HO.sto (wn) rfl (st_storeAgg (c' := #[.int .i64 r_0_1, vr_1_1]) hS (i := 0) rfl ta_31 rfl rfl rfl (List.forall_mem_cons.2 ⟨rfl, (List.forall_mem_cons.2 ⟨(shp (hS.own 3 rfl).slice).one, (fun _ h => by cases h)⟩)⟩) (Nat.le_of_ble_eq_true rfl) rfl) ?_
 rintro h_7 ⟨hS, hk⟩
 replace hK := hK.trans hk
 refine HO.nil (tqn (?_))
 refine HW.seq ?_
 refine HW.region ?_
 refine oV (.agg #[.int .i64 r_0_1, vr_1_1]) (q_loadAgg (cs := [.int .i64 r_0_1, vr_1_1]) ta_31 rfl rfl (Blk.cells (k := 2) (hS.box 0 rfl) rfl)) rfl ?_
 refine HO.eff (wn) rfl (st_lit (enc := encI) (cells := #[.int .i64 9]) #[.int .i64 0] ([9] : List Int) hS tl_22 (by decide) (by decide) (by kernel_rfl) (by kernel_rfl) rfl (by intro x hx; rfl) rfl) ?_
 rintro _ h_8 ⟨b_5, rfl, hS, hk⟩
 replace hK := hK.trans hk
 replace hS : St F_2 (Ow.own 52 2 eB vr_1_1 r_1_1 :: Ow.own 3 1 encI (.slice (some ⟨b_5, 0, none⟩) 1 1) ([9] : List Int) :: Ow.box b_4 31 #[.int .i64 r_0_1, vr_1_1] :: Ow.own 52 2 eB (.slice (some ⟨b_1, 0, none⟩) 2 2) ([(1, 2), (1, 3)] : List TB) :: Ow.own 3 1 encI (.slice (some ⟨b_3, 0, none⟩) 1 1) ([9] : List Int) :: Ow.box b_2 31 #[.int .i64 1, .slice (some ⟨b_1, 0, none⟩) 2 2] :: fr) h_8 := hS.perm2 [4, 0, 1, 2, 3, 5] 6 rfl rfl
 have hZ_3 := hS
 have hkz_3 := (hS.freeze).2
 replace hS := hS.freeze.1
 have hL_3 : SliceF (fun bz_ => F_2 bz_ ∨ (Ow.own 52 2 eB vr_1_1 r_1_1).foot bz_) h_8 2 eB vr_1_1 r_1_1 := ⟨(hZ_3.own 0 rfl).slice, fun _ b hb => .inr hb⟩
 replace hS : St (fun bz_ => F_2 bz_ ∨ (Ow.own 52 2 eB vr_1_1 r_1_1).foot bz_) (Ow.own 3 1 encI (.slice (some ⟨b_5, 0, none⟩) 1 1) ([9] : List Int) :: Ow.box b_4 31 #[.int .i64 r_0_1, vr_1_1] :: Ow.own 52 2 eB (.slice (some ⟨b_1, 0, none⟩) 2 2) ([(1, 2), (1, 3)] : List TB) :: Ow.own 3 1 encI (.slice (some ⟨b_3, 0, none⟩) 1 1) ([9] : List Int) :: Ow.box b_2 31 #[.int .i64 1, .slice (some ⟨b_1, 0, none⟩) 2 2] :: fr) h_8 := hS
 have hZ_4 := hS
 have hkz_4 := (hS.freeze).2
 replace hS := hS.freeze.1
 have hL_4 : SliceF (fun bz_ => (fun bz_ => F_2 bz_ ∨ (Ow.own 52 2 eB vr_1_1 r_1_1).foot bz_) bz_ ∨ (Ow.own 3 1 encI (.slice (some ⟨b_5, 0, none⟩) 1 1) ([9] : List Int)).foot bz_) h_8 1 encI (.slice (some ⟨b_5, 0, none⟩) 1 1) ([9] : List Int) := ⟨(hZ_4.own 0 rfl).slice, fun _ b hb => .inr hb⟩
 refine HO.call (wn) rfl (ec en_9 rfl rfl) (repair_Leave_walk (fr := (Ow.box b_4 31 #[.int .i64 r_0_1, vr_1_1] :: Ow.own 52 2 eB (.slice (some ⟨b_1, 0, none⟩) 2 2) ([(1, 2), (1, 3)] : List TB) :: Ow.own 3 1 encI (.slice (some ⟨b_3, 0, none⟩) 1 1) ([9] : List Int) :: Ow.box b_2 31 #[.int .i64 1, .slice (some ⟨b_1, 0, none⟩) 2 2] :: fr)) r_0_1 r_1_1 2 ([9] : List Int) 2 vr_1_1 (.slice (some ⟨b_5, 0, none⟩) 1 1) hS (hL_3.kp hkz_4) hL_4 hD hM) ?_
 rintro _ h_9 ⟨F_3, r_0_2, r_1_2, vr_1_2, rfl, hk, hS, _, _, hM⟩
 obtain ⟨hS, hk⟩ := hZ_4.back hk hS
 obtain ⟨hS, hk⟩ := hZ_3.back hk hS
 generalize (fun bz_ => (fun bz_ => F_3 bz_ ∧ ¬ (Ow.own 3 1 encI (.slice (some ⟨b_5, 0, none⟩) 1 1) ([9] : List Int)).foot bz_) bz_ ∧ ¬ (Ow.own 52 2 eB vr_1_1 r_1_1).foot bz_) = F_4 at hS hk
 replace hK := hK.trans hk
 refine HO.eff (wn) rfl (st_alloc (c := #[.int .i64 0, .slice none 0 0]) hS tz_31 rfl) ?_
 rintro _ h_10 ⟨b_6, rfl, hS, hk⟩
 replace hK := hK.trans hk
 refine HO.sto (wn) rfl (st_storeAgg (c' := #[.int .i64 r_0_2, vr_1_2]) hS (i := 0) rfl ta_31 rfl rfl rfl (List.forall_mem_cons.2 ⟨rfl, (List.forall_mem_cons.2 ⟨(shp (hS.own 3 rfl).slice).one, (fun _ h => by cases h)⟩)⟩) (Nat.le_of_ble_eq_true rfl) rfl) ?_
 rintro h_11 ⟨hS, hk⟩
 replace hK := hK.trans hk
 refine HO.nil (tqn (?_))
 refine HW.seq ?_
 refine HW.region ?_
 refine oV (.agg #[.int .i64 r_0_1, vr_1_1]) (q_loadAgg (cs := [.int .i64 r_0_1, vr_1_1]) ta_31 rfl rfl (Blk.cells (k := 2) (hS.box 4 rfl) rfl)) rfl ?_
 replace hS : St F_4 (Ow.own 52 2 eB vr_1_1 r_1_1 :: Ow.box b_6 31 #[.int .i64 r_0_2, vr_1_2] :: Ow.own 3 1 encI (.slice (some ⟨b_5, 0, none⟩) 1 1) ([9] : List Int) :: Ow.own 52 2 eB vr_1_2 r_1_2 :: Ow.box b_4 31 #[.int .i64 r_0_1, vr_1_1] :: Ow.own 52 2 eB (.slice (some ⟨b_1, 0, none⟩) 2 2) ([(1, 2), (1, 3)] : List TB) :: Ow.own 3 1 encI (.slice (some ⟨b_3, 0, none⟩) 1 1) ([9] : List Int) :: Ow.box b_2 31 #[.int .i64 1, .slice (some ⟨b_1, 0, none⟩) 2 2] :: fr) h_11 := hS.perm2 [1, 0, 2, 3, 4, 5, 6, 7] 8 rfl rfl
 have hZ_5 := hS
 have hkz_5 := (hS.freeze).2
 replace hS := hS.freeze.1
 have hL_5 : SliceF (fun bz_ => F_4 bz_ ∨ (Ow.own 52 2 eB vr_1_1 r_1_1).foot bz_) h_11 2 eB vr_1_1 r_1_1 := ⟨(hZ_5.own 0 rfl).slice, fun _ b hb => .inr hb⟩
 refine HO.call (wn) rfl (ec en_44 rfl rfl) (ref32_Print_walk (fr := (Ow.box b_6 31 #[.int .i64 r_0_2, vr_1_2] :: Ow.own 3 1 encI (.slice (some ⟨b_5, 0, none⟩) 1 1) ([9] : List Int) :: Ow.own 52 2 eB vr_1_2 r_1_2 :: Ow.box b_4 31 #[.int .i64 r_0_1, vr_1_1] :: Ow.own 52 2 eB (.slice (some ⟨b_1, 0, none⟩) 2 2) ([(1, 2), (1, 3)] : List TB) :: Ow.own 3 1 encI (.slice (some ⟨b_3, 0, none⟩) 1 1) ([9] : List Int) :: Ow.box b_2 31 #[.int .i64 1, .slice (some ⟨b_1, 0, none⟩) 2 2] :: fr)) r_0_1 r_1_1 vr_1_1 hS hL_5 hM) ?_
 rintro _ h_12 ⟨F_5, r_2, rfl, hk, hS, _, hM⟩
 obtain ⟨hS, hk⟩ := hZ_5.back hk hS
 generalize (fun bz_ => F_5 bz_ ∧ ¬ (Ow.own 52 2 eB vr_1_1 r_1_1).foot bz_) = F_6 at hS hk
 replace hK := hK.trans hk
 refine oV (.bool (decide ((r_2 : Str) = [49, 32, 49, 62, 50, 32, 49, 62, 57, 32, 57, 62, 51, 32, 57, 62, 52]))) (q_eqlT rfl rfl) rfl ?_
 refine oM (.bool (decide ((r_2 : Str) = [49, 32, 49, 62, 50, 32, 49, 62, 57, 32, 57, 62, 51, 32, 57, 62, 52]))) rfl rfl ?_
 rcases Bool.eq_false_or_eq_true (decide ((r_2 : Str) = [49, 32, 49, 62, 50, 32, 49, 62, 57, 32, 57, 62, 51, 32, 57, 62, 52])) with c_1 | c_1
 ·
  replace hM := hM.1 (of_decide_eq_true c_1)
  refine HO.val (v := .agg #[.int .i64 r_0_2, vr_1_2]) (wby rfl rfl c_1) rfl (q_loadAgg (cs := [.int .i64 r_0_2, vr_1_2]) ta_31 rfl rfl (Blk.cells (k := 2) (hS.box 1 rfl) rfl)) ?_
  replace hS : St F_6 (Ow.own 52 2 eB vr_1_2 r_1_2 :: Ow.own 52 2 eB vr_1_1 r_1_1 :: Ow.box b_6 31 #[.int .i64 r_0_2, vr_1_2] :: Ow.own 3 1 encI (.slice (some ⟨b_5, 0, none⟩) 1 1) ([9] : List Int) :: Ow.box b_4 31 #[.int .i64 r_0_1, vr_1_1] :: Ow.own 52 2 eB (.slice (some ⟨b_1, 0, none⟩) 2 2) ([(1, 2), (1, 3)] : List TB) :: Ow.own 3 1 encI (.slice (some ⟨b_3, 0, none⟩) 1 1) ([9] : List Int) :: Ow.box b_2 31 #[.int .i64 1, .slice (some ⟨b_1, 0, none⟩) 2 2] :: fr) h_12 := hS.perm2 [3, 0, 1, 2, 4, 5, 6, 7] 8 rfl rfl
  have hZ_6 := hS
  have hkz_6 := (hS.freeze).2
  replace hS := hS.freeze.1
  have hL_6 : SliceF (fun bz_ => F_6 bz_ ∨ (Ow.own 52 2 eB vr_1_2 r_1_2).foot bz_) h_12 2 eB vr_1_2 r_1_2 := ⟨(hZ_6.own 0 rfl).slice, fun _ b hb => .inr hb⟩
  refine HO.call (wby rfl rfl c_1) rfl (ec en_44 rfl rfl) (ref32_Print_walk (fr := (Ow.own 52 2 eB vr_1_1 r_1_1 :: Ow.box b_6 31 #[.int .i64 r_0_2, vr_1_2] :: Ow.own 3 1 encI (.slice (some ⟨b_5, 0, none⟩) 1 1) ([9] : List Int) :: Ow.box b_4 31 #[.int .i64 r_0_1, vr_1_1] :: Ow.own 52 2 eB (.slice (some ⟨b_1, 0, none⟩) 2 2) ([(1, 2), (1, 3)] : List TB) :: Ow.own 3 1 encI (.slice (some ⟨b_3, 0, none⟩) 1 1) ([9] : List Int) :: Ow.box b_2 31 #[.int .i64 1, .slice (some ⟨b_1, 0, none⟩) 2 2] :: fr)) r_0_2 r_1_2 vr_1_2 hS hL_6 hM) ?_
  rintro _ h_13 ⟨F_7, r_3, rfl, hk, hS, _, hM⟩
  obtain ⟨hS, hk⟩ := hZ_6.back hk hS
  generalize (fun bz_ => F_7 bz_ ∧ ¬ (Ow.own 52 2 eB vr_1_2 r_1_2).foot bz_) = F_8 at hS hk
  replace hK := hK.trans hk
  refine HO.val (v := .bool (decide ((r_3 : Str) = [49, 32, 49, 62, 57, 32, 57, 62, 51, 32, 57, 62, 52]))) (wby rfl rfl c_1) rfl (q_eqlT rfl rfl) ?_
  refine oV (.bool (decide ((r_3 : Str) = [49, 32, 49, 62, 57, 32, 57, 62, 51, 32, 57, 62, 52]))) (q_pickK true rfl c_1 rfl) rfl ?_
  refine oM (.bool (decide ((r_3 : Str) = [49, 32, 49, 62, 57, 32, 57, 62, 51, 32, 57, 62, 52]))) rfl rfl ?_
  rcases Bool.eq_false_or_eq_true (decide ((r_3 : Str) = [49, 32, 49, 62, 57, 32, 57, 62, 51, 32, 57, 62, 52])) with c_2 | c_2
  ·
   replace hM := hM.1 (of_decide_eq_true c_2)
   refine HO.val (v := .agg #[.int .i64 r_0_1, vr_1_1]) (wby rfl rfl c_2) rfl (q_loadAgg (cs := [.int .i64 r_0_1, vr_1_1]) ta_31 rfl rfl (Blk.cells (k := 2) (hS.box 4 rfl) rfl)) ?_
   replace hS : St F_8 (Ow.own 52 2 eB vr_1_1 r_1_1 :: Ow.own 52 2 eB vr_1_2 r_1_2 :: Ow.box b_6 31 #[.int .i64 r_0_2, vr_1_2] :: Ow.own 3 1 encI (.slice (some ⟨b_5, 0, none⟩) 1 1) ([9] : List Int) :: Ow.box b_4 31 #[.int .i64 r_0_1, vr_1_1] :: Ow.own 52 2 eB (.slice (some ⟨b_1, 0, none⟩) 2 2) ([(1, 2), (1, 3)] : List TB) :: Ow.own 3 1 encI (.slice (some ⟨b_3, 0, none⟩) 1 1) ([9] : List Int) :: Ow.box b_2 31 #[.int .i64 1, .slice (some ⟨b_1, 0, none⟩) 2 2] :: fr) h_13 := hS.perm2 [1, 0, 2, 3, 4, 5, 6, 7] 8 rfl rfl
   have hZ_7 := hS
   have hkz_7 := (hS.freeze).2
   replace hS := hS.freeze.1
   have hL_7 : SliceF (fun bz_ => F_8 bz_ ∨ (Ow.own 52 2 eB vr_1_1 r_1_1).foot bz_) h_13 2 eB vr_1_1 r_1_1 := ⟨(hZ_7.own 0 rfl).slice, fun _ b hb => .inr hb⟩
   refine HO.call (wby rfl rfl c_2) rfl (ec en_20 rfl rfl) (repair_Star_walk (fr := (Ow.own 52 2 eB vr_1_2 r_1_2 :: Ow.box b_6 31 #[.int .i64 r_0_2, vr_1_2] :: Ow.own 3 1 encI (.slice (some ⟨b_5, 0, none⟩) 1 1) ([9] : List Int) :: Ow.box b_4 31 #[.int .i64 r_0_1, vr_1_1] :: Ow.own 52 2 eB (.slice (some ⟨b_1, 0, none⟩) 2 2) ([(1, 2), (1, 3)] : List TB) :: Ow.own 3 1 encI (.slice (some ⟨b_3, 0, none⟩) 1 1) ([9] : List Int) :: Ow.box b_2 31 #[.int .i64 1, .slice (some ⟨b_1, 0, none⟩) 2 2] :: fr)) r_0_1 r_1_1 2 vr_1_1 hS hL_7 hM) ?_
   rintro _ h_14 ⟨F_9, r_4, rfl, hk, hS, _, hM⟩
   obtain ⟨hS, hk⟩ := hZ_7.back hk hS
   generalize (fun bz_ => F_9 bz_ ∧ ¬ (Ow.own 52 2 eB vr_1_1 r_1_1).foot bz_) = F_10 at hS hk
   replace hK := hK.trans hk
   refine HO.val (v := .bool (!r_4)) (wby rfl rfl c_2) rfl (q_not rfl) ?_
   refine oV (.bool (!r_4)) (q_pickK true rfl c_2 rfl) rfl ?_
   refine oM (.bool (!r_4)) rfl rfl ?_
   rcases Bool.eq_false_or_eq_true (!r_4) with c_3 | c_3
   ·
    replace hM := hM.1 c_3
    refine HO.val (v := .agg #[.int .i64 r_0_1, vr_1_1]) (wby rfl rfl c_3) rfl (q_loadAgg (cs := [.int .i64 r_0_1, vr_1_1]) ta_31 rfl rfl (Blk.cells (k := 2) (hS.box 4 rfl) rfl)) ?_
    replace hS : St F_10 (Ow.own 52 2 eB vr_1_1 r_1_1 :: Ow.own 52 2 eB vr_1_2 r_1_2 :: Ow.box b_6 31 #[.int .i64 r_0_2, vr_1_2] :: Ow.own 3 1 encI (.slice (some ⟨b_5, 0, none⟩) 1 1) ([9] : List Int) :: Ow.box b_4 31 #[.int .i64 r_0_1, vr_1_1] :: Ow.own 52 2 eB (.slice (some ⟨b_1, 0, none⟩) 2 2) ([(1, 2), (1, 3)] : List TB) :: Ow.own 3 1 encI (.slice (some ⟨b_3, 0, none⟩) 1 1) ([9] : List Int) :: Ow.box b_2 31 #[.int .i64 1, .slice (some ⟨b_1, 0, none⟩) 2 2] :: fr) h_14 := hS
    have hZ_8 := hS
    have hkz_8 := (hS.freeze).2
    replace hS := hS.freeze.1
    have hL_8 : SliceF (fun bz_ => F_10 bz_ ∨ (Ow.own 52 2 eB vr_1_1 r_1_1).foot bz_) h_14 2 eB vr_1_1 r_1_1 := ⟨(hZ_8.own 0 rfl).slice, fun _ b hb => .inr hb⟩
    refine HO.call (wby rfl rfl c_3) rfl (ec en_20 rfl rfl) (repair_Star_walk (fr := (Ow.own 52 2 eB vr_1_2 r_1_2 :: Ow.box b_6 31 #[.int .i64 r_0_2, vr_1_2] :: Ow.own 3 1 encI (.slice (some ⟨b_5, 0, none⟩) 1 1) ([9] : List Int) :: Ow.box b_4 31 #[.int .i64 r_0_1, vr_1_1] :: Ow.own 52 2 eB (.slice (some ⟨b_1, 0, none⟩) 2 2) ([(1, 2), (1, 3)] : List TB) :: Ow.own 3 1 encI (.slice (some ⟨b_3, 0, none⟩) 1 1) ([9] : List Int) :: Ow.box b_2 31 #[.int .i64 1, .slice (some ⟨b_1, 0, none⟩) 2 2] :: fr)) r_0_1 r_1_1 1 vr_1_1 hS hL_8 hM) ?_
    rintro _ h_15 ⟨F_11, r_5, rfl, hk, hS, _, hM⟩
    obtain ⟨hS, hk⟩ := hZ_8.back hk hS
    generalize (fun bz_ => F_11 bz_ ∧ ¬ (Ow.own 52 2 eB vr_1_1 r_1_1).foot bz_) = F_12 at hS hk
    replace hK := hK.trans hk
    refine oV (.bool r_5) (q_pickK true rfl c_3 rfl) rfl ?_
    refine oA (.bool r_5) rfl rfl ?_
    refine HO.nil (tqn (?_))
    refine HW.ret (?_)
    refine ⟨.inr rfl, .bool r_5, res1 rfl (rt rfl), ?_⟩
    replace hS : St F_12 (fr) h_15 := hS.perm2 [] 8 rfl rfl
    exact ⟨F_12, r_5, rfl, hK, hS, hM⟩
   ·
    replace hM := hM.2 c_3
    refine HO.past (pby rfl rfl c_3) rfl ?_
    refine HO.past (pby rfl rfl c_3) rfl ?_
    refine oV (.bool false) (q_pickK false rfl c_3 rfl) rfl ?_
    refine oA (.bool false) rfl rfl ?_
    refine HO.nil (tqn (?_))
    refine HW.ret (?_)
    refine ⟨.inr rfl, .bool false, res1 rfl (rt rfl), ?_⟩
    replace hS : St F_10 (fr) h_14 := hS.perm2 [] 8 rfl rfl
    exact ⟨F_10, false, rfl, hK, hS, hM⟩
  ·
   replace hM := hM.2 (of_decide_eq_false c_2)
   refine HO.past (pby rfl rfl c_2) rfl ?_
   refine HO.past (pby rfl rfl c_2) rfl ?_
   refine HO.past (pby rfl rfl c_2) rfl ?_
   refine oV (.bool false) (q_pickK false rfl c_2 rfl) rfl ?_
   refine oM (.bool false) rfl rfl ?_
   refine HO.past (past_some rfl rfl) rfl ?_
   refine HO.past (past_some rfl rfl) rfl ?_
   refine oV (.bool false) (q_pick rfl rfl) rfl ?_
   refine oA (.bool false) rfl rfl ?_
   refine HO.nil (tqn (?_))
   refine HW.ret (?_)
   refine ⟨.inr rfl, .bool false, res1 rfl (rt rfl), ?_⟩
   replace hS : St F_8 (fr) h_13 := hS.perm2 [] 8 rfl rfl
   exact ⟨F_8, false, rfl, hK, hS, hM⟩
 ·
  replace hM := hM.2 (of_decide_eq_false c_1)
  refine HO.past (pby rfl rfl c_1) rfl ?_
  refine HO.past (pby rfl rfl c_1) rfl ?_
  refine HO.past (pby rfl rfl c_1) rfl ?_
  refine oV (.bool false) (q_pickK false rfl c_1 rfl) rfl ?_
  refine oM (.bool false) rfl rfl ?_
  refine HO.past (past_some rfl rfl) rfl ?_
  refine HO.past (past_some rfl rfl) rfl ?_
  refine HO.past (past_some rfl rfl) rfl ?_
  refine oV (.bool false) (q_pick rfl rfl) rfl ?_
  refine oM (.bool false) rfl rfl ?_
  refine HO.past (past_some rfl rfl) rfl ?_
  refine HO.past (past_some rfl rfl) rfl ?_
  refine oV (.bool false) (q_pick rfl rfl) rfl ?_
  refine oA (.bool false) rfl rfl ?_
  refine HO.nil (tqn (?_))
  refine HW.ret (?_)
  refine ⟨.inr rfl, .bool false, res1 rfl (rt rfl), ?_⟩
  replace hS : St F_6 (fr) h_12 := hS.perm2 [] 8 rfl rfl
  exact ⟨F_6, false, rfl, hK, hS, hM⟩
def ref32_Has_l1 (l : List Int) (n : Int) (Q : Bool → Prop) (K_1 : Int → Prop) (i_1 : Int) : Prop :=
 (i_1 < (l.length : Int) → ((0 : Int) ≤ i_1 ∧ i_1 < (l.length : Int)) ∧ (((gi l i_1) = n → Q true) ∧ (¬ ((gi l i_1) = n) → (I64 (i_1 + 1)) ∧ (K_1 (i_1 + 1))))) ∧ (¬ (i_1 < (l.length : Int)) → Q false)
def ref32_Has_W (l : List Int) (n : Int) (Q : Bool → Prop) : Prop :=
 loopW (fun (K_1 : Int → Prop) (s : Int) => ref32_Has_l1 l n Q K_1 s) 0
theorem ref32_Has_walk {F : Fz} {fr : List Ow} {h0 : Heap} (l : List Int) (n : Int) (vl : Value) (hS : St F (fr) h0) (hL_l : SliceF F h0 1 encI vl l) {Q : Bool → Prop} (hM : ref32_Has_W l n Q) :
  HC Tryz.prog 8 #[vl, .int .i64 n] h0 fun u h' => ∃ (F' : Fz) (r_1 : Bool), u = .bool r_1 ∧ Kp F h0 F' h' ∧ St F' (fr) h' ∧ (SliceF F' h' 1 encI vl l) ∧ Q r_1 := by
 unfold ref32_Has_W at hM
 have hK := Kp.refl F h0
 refine HC.of_HW (n := 18) Tryz.func8 rfl rfl (Nat.le_of_ble_eq_true rfl) ?_
 refine HW.seq ?_
 refine HW.region ?_
 refine oA (.bool false) rfl rfl ?_
 refine HO.nil (tqn (?_))
 refine HW.seq ?_
 refine HW.seq ?_
 refine HW.region ?_
 refine oA (.int .i64 0) rfl rfl ?_
 refine HO.nil (tqn (?_))
 refine HW.block ?_
 obtain ⟨I_1, m_1, hI_1, hR_1⟩ := hM
 refine HW.loop (S := Int) (fun i_1 f h => ∃ (F' : Fz), f 0 = vl ∧ f 1 = .int .i64 n ∧ f 4 = .bool false ∧ f 5 = .int .i64 i_1 ∧ Kp F h0 F' h ∧ St F' (fr) h ∧ (SliceF F' h 1 encI vl l) ∧ I_1 i_1) m_1 0 ⟨F, rfl, rfl, rfl, rfl, hK, hS, hL_l, hI_1⟩ ?_
 rintro i_1 f_1 h_1 ⟨F_1, e0, e1, e4, e5, hK, hS, hL_l, hI0⟩
 obtain ⟨K_1, hKe_1⟩ : ∃ K : Int → Prop, K = fun i_1' => I_1 i_1' ∧ m_1 i_1' < m_1 i_1 := ⟨_, rfl⟩
 have hM : ref32_Has_l1 l n Q K_1 i_1 := by rw [hKe_1]; exact hR_1 i_1 hI0
 unfold ref32_Has_l1 at hM
 refine HW.fr [(0, vl), (1, .int .i64 n), (4, .bool false), (5, .int .i64 i_1)] ⟨e0, e1, e4, e5, trivial⟩ ?_
 refine HW.seq ?_
 refine HW.seq ?_
 refine HW.region ?_
 refine oM (.int .i64 i_1) rfl rfl ?_
 refine oM (vl) rfl rfl ?_
 refine oV (.int .i64 (l.length : Int)) (q_len ts_22 (shp hL_l.is) rfl rfl) rfl ?_
 refine oV (.bool (decide (i_1 < (l.length : Int)))) (q_lss rfl rfl) rfl ?_
 refine HO.nil (tqn (?_))
 refine HW.cond (decide (i_1 < (l.length : Int))) rfl (fun c_1 => ?_) (fun c_1 => ?_)
 ·
  replace hM := hM.1 (of_decide_eq_true c_1)
  refine HW.skip (tqn (?_))
  refine HW.seq ?_
  refine HW.block ?_
  refine HW.seq ?_
  refine HW.region ?_
  refine oM (vl) rfl rfl ?_
  refine oM (.int .i64 i_1) rfl rfl ?_
  obtain ⟨ho_1, hM⟩ := hM
  refine oV (elemPtr 1 vl (i_1).toNat) (q_idx ts_22 hL_l.is rfl rfl ho_1) rfl ?_
  refine oV (.int .i64 (gi l i_1)) (q_ldElem to_3 hL_l.is rfl ho_1 rfl) rfl ?_
  refine oM (.int .i64 n) rfl rfl ?_
  refine oV (.bool (decide ((gi l i_1) = n))) (q_eql rfl rfl) rfl ?_
  refine HO.nil (tqn (?_))
  refine HW.cond (decide ((gi l i_1) = n)) rfl (fun c_2 => ?_) (fun c_2 => ?_)
  ·
   replace hM := hM.1 (of_decide_eq_true c_2)
   refine HW.seq ?_
   refine HW.region ?_
   refine oA (.bool true) rfl rfl ?_
   refine HO.nil (tqn (?_))
   refine HW.ret (blockQ_ret (thenQ_ret (thenQ_ret (blockQ_ret (thenQ_ret (?_))))))
   refine ⟨.inr rfl, .bool true, res1 rfl (rt rfl), ?_⟩
   exact ⟨F_1, true, rfl, hK, hS, hL_l, hM⟩
  ·
   replace hM := hM.2 (of_decide_eq_false c_2)
   refine HW.skip (blockQ_normal (tqn (?_)))
   refine HW.region ?_
   refine oM (.int .i64 i_1) rfl rfl ?_
   obtain ⟨ho_2, hM⟩ := hM
   refine oV (.int .i64 (i_1 + 1)) (q_addN _ rfl rfl rfl ho_2.1 ho_2.2) rfl ?_
   refine oA (.int .i64 (i_1 + 1)) rfl rfl ?_
   refine HO.nil (tqn (?_))
   rw [hKe_1] at hM
   exact ⟨i_1 + 1, ⟨F_1, rfl, rfl, rfl, rfl, hK, hS, hL_l, hM.1⟩, hM.2⟩
 ·
  replace hM := hM.2 (of_decide_eq_false c_1)
  refine HW.exit (thenQ_exit (thenQ_exit (blockQ_exit (tqn (?_)))))
  refine HW.seq ?_
  refine HW.region ?_
  refine oA (.bool false) rfl rfl ?_
  refine HO.nil (tqn (?_))
  refine HW.ret (?_)
  refine ⟨.inr rfl, .bool false, res1 rfl (rt rfl), ?_⟩
  exact ⟨F_1, false, rfl, hK, hS, hL_l, hM⟩
def ref32_Add_j1 (l : List Int) (n : Int) (Q : (List Int) → Prop) (n_1 : Int) : Prop :=
 ((0 : Int) ≤ n_1 ∧ n_1 ≤ (l.length : Int)) ∧ (((0 : Int) ≤ 0 ∧ 0 ≤ n_1 ∧ n_1 ≤ (l.length : Int)) ∧ (((([] : List Int).length + (cut l 0 n_1).length) * 8 ≤ 140737488355328) ∧ ((((([] : List Int) ++ (cut l 0 n_1)).length + ([n] : List Int).length) * 8 ≤ 140737488355328) ∧ (((0 : Int) ≤ n_1 ∧ n_1 ≤ (l.length : Int) ∧ (l.length : Int) ≤ (l.length : Int)) ∧ (((((([] : List Int) ++ (cut l 0 n_1)) ++ ([n] : List Int)).length + (cut l n_1 (l.length : Int)).length) * 8 ≤ 140737488355328) ∧ (Q (((([] : List Int) ++ (cut l 0 n_1)) ++ ([n] : List Int)) ++ (cut l n_1 (l.length : Int)))))))))
def ref32_Add_l1 (l : List Int) (n : Int) (Q : (List Int) → Prop) (K_1 : Int → Prop) (n_2 : Int) : Prop :=
 (n_2 < (l.length : Int) → ((0 : Int) ≤ n_2 ∧ n_2 < (l.length : Int)) ∧ (((gi l n_2) < n → (I64 (n_2 + 1)) ∧ (K_1 (n_2 + 1))) ∧ (¬ ((gi l n_2) < n) → ref32_Add_j1 l n Q n_2))) ∧ (¬ (n_2 < (l.length : Int)) → ref32_Add_j1 l n Q n_2)
def ref32_Add_W (l : List Int) (n : Int) (Q : (List Int) → Prop) : Prop :=
 ref32_Has_W l n (fun r_2 => (r_2 = true → Q l) ∧ (r_2 = false → loopW (fun (K_1 : Int → Prop) (s : Int) => ref32_Add_l1 l n Q K_1 s) 0))
theorem ref32_Add_walk {F : Fz} {fr : List Ow} {h0 : Heap} (l : List Int) (n : Int) (vl : Value) (hS : St F (Ow.own 3 1 encI vl l :: fr) h0)  {Q : (List Int) → Prop} (hM : ref32_Add_W l n Q) :
  HC Tryz.prog 17 #[vl, .int .i64 n] h0 fun u h' => ∃ (F' : Fz) (r_1 : List Int) (vr_1 : Value), u = vr_1 ∧ Kp F h0 F' h' ∧ St F' (Ow.own 3 1 encI vr_1 r_1 :: fr) h' ∧ Q r_1 := by
 unfold ref32_Add_W at hM
 have hK := Kp.refl F h0
 refine HC.of_HW (n := 36) Tryz.func17 rfl rfl (Nat.le_of_ble_eq_true rfl) ?_
 refine HW.seq ?_
 refine HW.region ?_
 refine oA (.slice none 0 0) rfl rfl ?_
 refine HO.nil (tqn (?_))
 refine HW.seq ?_
 refine HW.seq ?_
 refine HW.region ?_
 refine oM (vl) rfl rfl ?_
 refine oM (.int .i64 n) rfl rfl ?_
 replace hS : St F (Ow.own 3 1 encI vl l :: fr) h0 := hS
 have hZ_1 := hS
 have hkz_1 := (hS.freeze).2
 replace hS := hS.freeze.1
 have hL_1 : SliceF (fun bz_ => F bz_ ∨ (Ow.own 3 1 encI vl l).foot bz_) h0 1 encI vl l := ⟨(hZ_1.own 0 rfl).slice, fun _ b hb => .inr hb⟩
 refine HO.call (wn) rfl (ec en_8 rfl rfl) (ref32_Has_walk (fr := (fr)) l n vl hS hL_1 hM) ?_
 rintro _ h_1 ⟨F_1, r_2, rfl, hk, hS, _, hM⟩
 obtain ⟨hS, hk⟩ := hZ_1.back hk hS
 generalize (fun bz_ => F_1 bz_ ∧ ¬ (Ow.own 3 1 encI vl l).foot bz_) = F_2 at hS hk
 replace hK := hK.trans hk
 refine HO.nil (tqn (?_))
 refine HW.cond r_2 rfl (fun c_1 => ?_) (fun c_1 => ?_)
 ·
  replace hM := hM.1 c_1
  refine HW.seq ?_
  refine HW.region ?_
  refine oM (vl) rfl rfl ?_
  refine oA (vl) rfl rfl ?_
  refine HO.nil (tqn (?_))
  refine HW.ret (thenQ_ret (?_))
  refine ⟨.inr rfl, vl, res1 rfl (rt rfl), ?_⟩
  exact ⟨F_2, l, vl, rfl, hK, hS, hM⟩
 ·
  replace hM := hM.2 c_1
  refine HW.skip (tqn (?_))
  refine HW.seq ?_
  refine HW.region ?_
  refine oA (.int .i64 0) rfl rfl ?_
  refine HO.nil (tqn (?_))
  refine HW.seq_mid (fun f h => ∃ (F' : Fz) (n_1 : Int), f 0 = vl ∧ f 1 = .int .i64 n ∧ f 4 = .slice none 0 0 ∧ f 5 = .int .i64 n_1 ∧ Kp F h0 F' h ∧ St F' (Ow.own 3 1 encI vl l :: fr) h ∧ ref32_Add_j1 l n Q n_1) ?_ ?_
  ·
   refine HW.block ?_
   obtain ⟨I_1, m_1, hI_1, hR_1⟩ := hM
   refine HW.loop (S := Int) (fun n_2 f h => ∃ (F' : Fz), f 0 = vl ∧ f 1 = .int .i64 n ∧ f 4 = .slice none 0 0 ∧ f 5 = .int .i64 n_2 ∧ Kp F h0 F' h ∧ St F' (Ow.own 3 1 encI vl l :: fr) h ∧ I_1 n_2) m_1 0 ⟨F_2, rfl, rfl, rfl, rfl, hK, hS, hI_1⟩ ?_
   rintro n_2 f_1 h_2 ⟨F_3, e0, e1, e4, e5, hK, hS, hI0⟩
   obtain ⟨K_1, hKe_1⟩ : ∃ K : Int → Prop, K = fun n_2' => I_1 n_2' ∧ m_1 n_2' < m_1 n_2 := ⟨_, rfl⟩
   have hM : ref32_Add_l1 l n Q K_1 n_2 := by rw [hKe_1]; exact hR_1 n_2 hI0
   unfold ref32_Add_l1 at hM
   refine HW.fr [(0, vl), (1, .int .i64 n), (4, .slice none 0 0), (5, .int .i64 n_2)] ⟨e0, e1, e4, e5, trivial⟩ ?_
   refine HW.seq ?_
   refine HW.seq ?_
   refine HW.region ?_
   refine oM (.int .i64 n_2) rfl rfl ?_
   refine oM (vl) rfl rfl ?_
   refine oV (.int .i64 (l.length : Int)) (q_len ts_22 (shp (hS.own 0 rfl).slice) rfl rfl) rfl ?_
   refine oV (.bool (decide (n_2 < (l.length : Int)))) (q_lss rfl rfl) rfl ?_
   refine oM (.bool (decide (n_2 < (l.length : Int)))) rfl rfl ?_
   rcases Bool.eq_false_or_eq_true (decide (n_2 < (l.length : Int))) with c_2 | c_2
   ·
    replace hM := hM.1 (of_decide_eq_true c_2)
    refine HO.val (v := vl) (wby rfl rfl c_2) rfl (q_move rfl) ?_
    refine HO.val (v := .int .i64 n_2) (wby rfl rfl c_2) rfl (q_move rfl) ?_
    obtain ⟨ho_1, hM⟩ := hM
    refine HO.val (v := elemPtr 1 vl (n_2).toNat) (wby rfl rfl c_2) rfl (q_idx ts_22 (hS.own 0 rfl).slice rfl rfl ho_1) ?_
    refine HO.val (v := .int .i64 (gi l n_2)) (wby rfl rfl c_2) rfl (q_ldElem to_3 (hS.own 0 rfl).slice rfl ho_1 rfl) ?_
    refine HO.val (v := .int .i64 n) (wby rfl rfl c_2) rfl (q_move rfl) ?_
    refine HO.val (v := .bool (decide ((gi l n_2) < n))) (wby rfl rfl c_2) rfl (q_lss rfl rfl) ?_
    refine oV (.bool (decide ((gi l n_2) < n))) (q_pickK true rfl c_2 rfl) rfl ?_
    refine HO.nil (tqn (?_))
    refine HW.cond (decide ((gi l n_2) < n)) rfl (fun c_3 => ?_) (fun c_3 => ?_)
    ·
     replace hM := hM.1 (of_decide_eq_true c_3)
     refine HW.skip (tqn (?_))
     refine HW.block ?_
     refine HW.region ?_
     refine oM (.int .i64 n_2) rfl rfl ?_
     obtain ⟨ho_2, hM⟩ := hM
     refine oV (.int .i64 (n_2 + 1)) (q_addN _ rfl rfl rfl ho_2.1 ho_2.2) rfl ?_
     refine oA (.int .i64 (n_2 + 1)) rfl rfl ?_
     refine HO.nil (blockQ_normal (tqn (?_)))
     rw [hKe_1] at hM
     exact ⟨n_2 + 1, ⟨F_3, rfl, rfl, rfl, rfl, hK, hS, hM.1⟩, hM.2⟩
    ·
     replace hM := hM.2 (of_decide_eq_false c_3)
     refine HW.exit (thenQ_exit (thenQ_exit (blockQ_exit (tqn (?_)))))
     exact ⟨F_3, n_2, rfl, rfl, rfl, rfl, hK, hS, hM⟩
   ·
    replace hM := hM.2 (of_decide_eq_false c_2)
    refine HO.past (pby rfl rfl c_2) rfl ?_
    refine HO.past (pby rfl rfl c_2) rfl ?_
    refine HO.past (pby rfl rfl c_2) rfl ?_
    refine HO.past (pby rfl rfl c_2) rfl ?_
    refine HO.past (pby rfl rfl c_2) rfl ?_
    refine HO.past (pby rfl rfl c_2) rfl ?_
    refine oV (.bool false) (q_pickK false rfl c_2 rfl) rfl ?_
    refine HO.nil (tqn (?_))
    refine HW.condF rfl ?_
    refine HW.exit (thenQ_exit (thenQ_exit (blockQ_exit (tqn (?_)))))
    exact ⟨F_3, n_2, rfl, rfl, rfl, rfl, hK, hS, hM⟩
  ·
   rintro f_2 h_3 ⟨F_4, n_1, e0, e1, e4, e5, hK, hS, hM⟩
   unfold ref32_Add_j1 at hM
   refine HW.fr [(0, vl), (1, .int .i64 n), (4, .slice none 0 0), (5, .int .i64 n_1)] ⟨e0, e1, e4, e5, trivial⟩ ?_
   refine HW.seq ?_
   obtain ⟨ho_3, hM⟩ := hM
   obtain ⟨ho_4, hM⟩ := hM
   obtain ⟨ho_5, hM⟩ := hM
   obtain ⟨ho_6, hM⟩ := hM
   obtain ⟨ho_7, hM⟩ := hM
   obtain ⟨ho_8, hM⟩ := hM
   refine HW.regionA 13 mixed (fun h => (OwnIs h 0 3 1 encI vl l)) [] (by kernel_rfl) ?_
   refine HA.val (k := 1) (v := vl) rfl rfl (by kernel_rfl) (by kernel_rfl) (wn) rfl (fun _ c202 => q_move rfl) ?_
   refine HA.val (k := 2) (v := .int .i64 n_1) rfl rfl (by kernel_rfl) (by kernel_rfl) (wn) rfl (fun _ c202 => q_move rfl) ?_
   refine HA.val (k := 3) (v := cutV 1 vl (0 : Int).toNat (n_1).toNat) rfl rfl (by kernel_rfl) (by kernel_rfl) (wn) rfl (fun _ c202 => q_slH ts_22 c202.slice rfl rfl ho_3) ?_
   refine HA.val (k := 5) (v := .int .i64 n) rfl rfl (by kernel_rfl) (by kernel_rfl) (wn) rfl (fun _ c202 => q_move rfl) ?_
   refine HA.val (k := 8) (v := vl) rfl rfl (by kernel_rfl) (by kernel_rfl) (wn) rfl (fun _ c202 => q_move rfl) ?_
   refine HA.val (k := 9) (v := .int .i64 n_1) rfl rfl (by kernel_rfl) (by kernel_rfl) (wn) rfl (fun _ c202 => q_move rfl) ?_
   refine HA.val (k := 10) (v := cutV 1 vl (n_1).toNat ((l.length : Int)).toNat) rfl rfl (by kernel_rfl) (by kernel_rfl) (wn) rfl (fun _ c202 => q_slL ts_22 c202.slice rfl rfl ho_3) ?_
   refine HA.two (k := 0) (k' := 6) ⟨(hS.own 0 rfl), (Go.Wk.at_nil _ _)⟩ (by kernel_rfl) ?_ ?_
   ·
    refine HS.eff rfl (wn) rfl (st_litEmpty (α := Int) encI hS tl_22) ?_
    rintro _ h_4 ⟨b_1, rfl, hS, hk⟩
    replace hK := hK.trans hk
    refine HA.two (k := 4) (k' := 6) ⟨(hS.own 1 rfl), (Go.Wk.at_nil _ _)⟩ (by kernel_rfl) ?_ ?_
    ·
     refine HS.eff rfl (wn) rfl (st_append te_22 hS (i := 0) rfl (cutIs (hS.own 1 rfl).slice 0 n_1 ho_4.1 ho_4.2.1 ho_4.2.2) rfl rfl rfl (by intro a _ u hu; simp [encI, encI, encN, encB, encT] at hu; subst hu; rfl) ho_5 (by omega)) ?_
     rintro v_1 h_5 ⟨hS, hk⟩
     replace hK := hK.trans hk
     refine HA.one (k := 6) ⟨(hS.own 1 rfl), (Go.Wk.at_nil _ _)⟩ (by kernel_rfl) ?_
     refine HS.eff rfl (wn) rfl (st_lit (enc := encI) (cells := #[.int .i64 n]) #[.int .i64 0] ([n] : List Int) hS tl_22 (by decide) (by decide) (by kernel_rfl) (by kernel_rfl) rfl (by intro x hx; rfl) rfl) ?_
     rintro _ h_6 ⟨b_2, rfl, hS, hk⟩
     replace hK := hK.trans hk
     refine HA.one (k := 7) ⟨(hS.own 2 rfl), (Go.Wk.at_nil _ _)⟩ (by kernel_rfl) ?_
     refine HS.eff rfl (wn) rfl (st_append te_22 hS (i := 1) rfl (hS.own 0 rfl).slice rfl rfl rfl (by intro a _ u hu; simp [encI, encI, encN, encB, encT] at hu; subst hu; rfl) ho_6 (by omega)) ?_
     rintro v_2 h_7 ⟨hS, hk⟩
     replace hK := hK.trans hk
     refine HA.one (k := 11) ⟨(hS.own 2 rfl), (Go.Wk.at_nil _ _)⟩ (by kernel_rfl) ?_
     refine HS.eff rfl (wn) rfl (st_append te_22 hS (i := 1) rfl (cutIs (hS.own 2 rfl).slice n_1 (l.length : Int) ho_7.1 ho_7.2.1 ho_7.2.2) rfl rfl rfl (by intro a _ u hu; simp [encI, encI, encN, encB, encT] at hu; subst hu; rfl) ho_8 (by omega)) ?_
     rintro v_3 h_8 ⟨hS, hk⟩
     replace hK := hK.trans hk
     refine HA.val (k := 12) (v := v_3) rfl rfl (by kernel_rfl) (by kernel_rfl) (wn) rfl (fun _ c202 => q_assign rfl) ?_
     refine HA.nil ⟨(hS.own 2 rfl), (Go.Wk.at_nil _ _)⟩ (by kernel_rfl) (tqn (?_))
     refine HW.ret (?_)
     refine ⟨.inr rfl, v_3, res1 rfl (rt rfl), ?_⟩
     replace hS : St F_4 (Ow.own 3 1 encI v_3 (((([] : List Int) ++ (cut l 0 n_1)) ++ ([n] : List Int)) ++ (cut l n_1 (l.length : Int))) :: fr) h_8 := hS.perm2 [1] 3 rfl rfl
     exact ⟨F_4, ((([] : List Int) ++ (cut l 0 n_1)) ++ ([n] : List Int)) ++ (cut l n_1 (l.length : Int)), v_3, rfl, hK, hS, hM⟩
    ·
     refine HS.eff rfl (wn) rfl (st_lit (enc := encI) (cells := #[.int .i64 n]) #[.int .i64 0] ([n] : List Int) hS tl_22 (by decide) (by decide) (by kernel_rfl) (by kernel_rfl) rfl (by intro x hx; rfl) rfl) ?_
     rintro _ h_5 ⟨b_2, rfl, hS, hk⟩
     replace hK := hK.trans hk
     refine HA.one (k := 4) ⟨(hS.own 2 rfl), (Go.Wk.at_nil _ _)⟩ (by kernel_rfl) ?_
     refine HS.eff rfl (wn) rfl (st_append te_22 hS (i := 1) rfl (cutIs (hS.own 2 rfl).slice 0 n_1 ho_4.1 ho_4.2.1 ho_4.2.2) rfl rfl rfl (by intro a _ u hu; simp [encI, encI, encN, encB, encT] at hu; subst hu; rfl) ho_5 (by omega)) ?_
     rintro v_1 h_6 ⟨hS, hk⟩
     replace hK := hK.trans hk
     refine HA.one (k := 7) ⟨(hS.own 2 rfl), (Go.Wk.at_nil _ _)⟩ (by kernel_rfl) ?_
     refine HS.eff rfl (wn) rfl (st_append te_22 hS (i := 1) rfl (hS.own 0 rfl).slice rfl rfl rfl (by intro a _ u hu; simp [encI, encI, encN, encB, encT] at hu; subst hu; rfl) ho_6 (by omega)) ?_
     rintro v_2 h_7 ⟨hS, hk⟩
     replace hK := hK.trans hk
     refine HA.one (k := 11) ⟨(hS.own 2 rfl), (Go.Wk.at_nil _ _)⟩ (by kernel_rfl) ?_
     refine HS.eff rfl (wn) rfl (st_append te_22 hS (i := 1) rfl (cutIs (hS.own 2 rfl).slice n_1 (l.length : Int) ho_7.1 ho_7.2.1 ho_7.2.2) rfl rfl rfl (by intro a _ u hu; simp [encI, encI, encN, encB, encT] at hu; subst hu; rfl) ho_8 (by omega)) ?_
     rintro v_3 h_8 ⟨hS, hk⟩
     replace hK := hK.trans hk
     refine HA.val (k := 12) (v := v_3) rfl rfl (by kernel_rfl) (by kernel_rfl) (wn) rfl (fun _ c202 => q_assign rfl) ?_
     refine HA.nil ⟨(hS.own 2 rfl), (Go.Wk.at_nil _ _)⟩ (by kernel_rfl) (tqn (?_))
     refine HW.ret (?_)
     refine ⟨.inr rfl, v_3, res1 rfl (rt rfl), ?_⟩
     replace hS : St F_4 (Ow.own 3 1 encI v_3 (((([] : List Int) ++ (cut l 0 n_1)) ++ ([n] : List Int)) ++ (cut l n_1 (l.length : Int))) :: fr) h_8 := hS.perm2 [1] 3 rfl rfl
     exact ⟨F_4, ((([] : List Int) ++ (cut l 0 n_1)) ++ ([n] : List Int)) ++ (cut l n_1 (l.length : Int)), v_3, rfl, hK, hS, hM⟩
   ·
    refine HS.eff rfl (wn) rfl (st_lit (enc := encI) (cells := #[.int .i64 n]) #[.int .i64 0] ([n] : List Int) hS tl_22 (by decide) (by decide) (by kernel_rfl) (by kernel_rfl) rfl (by intro x hx; rfl) rfl) ?_
    rintro _ h_4 ⟨b_1, rfl, hS, hk⟩
    replace hK := hK.trans hk
    refine HA.one (k := 0) ⟨(hS.own 1 rfl), (Go.Wk.at_nil _ _)⟩ (by kernel_rfl) ?_
    refine HS.eff rfl (wn) rfl (st_litEmpty (α := Int) encI hS tl_22) ?_
    rintro _ h_5 ⟨b_2, rfl, hS, hk⟩
    replace hK := hK.trans hk
    refine HA.one (k := 4) ⟨(hS.own 2 rfl), (Go.Wk.at_nil _ _)⟩ (by kernel_rfl) ?_
    refine HS.eff rfl (wn) rfl (st_append te_22 hS (i := 0) rfl (cutIs (hS.own 2 rfl).slice 0 n_1 ho_4.1 ho_4.2.1 ho_4.2.2) rfl rfl rfl (by intro a _ u hu; simp [encI, encI, encN, encB, encT] at hu; subst hu; rfl) ho_5 (by omega)) ?_
    rintro v_1 h_6 ⟨hS, hk⟩
    replace hK := hK.trans hk
    refine HA.one (k := 7) ⟨(hS.own 2 rfl), (Go.Wk.at_nil _ _)⟩ (by kernel_rfl) ?_
    refine HS.eff rfl (wn) rfl (st_append te_22 hS (i := 0) rfl (hS.own 1 rfl).slice rfl rfl rfl (by intro a _ u hu; simp [encI, encI, encN, encB, encT] at hu; subst hu; rfl) ho_6 (by omega)) ?_
    rintro v_2 h_7 ⟨hS, hk⟩
    replace hK := hK.trans hk
    refine HA.one (k := 11) ⟨(hS.own 2 rfl), (Go.Wk.at_nil _ _)⟩ (by kernel_rfl) ?_
    refine HS.eff rfl (wn) rfl (st_append te_22 hS (i := 0) rfl (cutIs (hS.own 2 rfl).slice n_1 (l.length : Int) ho_7.1 ho_7.2.1 ho_7.2.2) rfl rfl rfl (by intro a _ u hu; simp [encI, encI, encN, encB, encT] at hu; subst hu; rfl) ho_8 (by omega)) ?_
    rintro v_3 h_8 ⟨hS, hk⟩
    replace hK := hK.trans hk
    refine HA.val (k := 12) (v := v_3) rfl rfl (by kernel_rfl) (by kernel_rfl) (wn) rfl (fun _ c202 => q_assign rfl) ?_
    refine HA.nil ⟨(hS.own 2 rfl), (Go.Wk.at_nil _ _)⟩ (by kernel_rfl) (tqn (?_))
    refine HW.ret (?_)
    refine ⟨.inr rfl, v_3, res1 rfl (rt rfl), ?_⟩
    replace hS : St F_4 (Ow.own 3 1 encI v_3 (((([] : List Int) ++ (cut l 0 n_1)) ++ ([n] : List Int)) ++ (cut l n_1 (l.length : Int))) :: fr) h_8 := hS.perm2 [0] 3 rfl rfl
    exact ⟨F_4, ((([] : List Int) ++ (cut l 0 n_1)) ++ ([n] : List Int)) ++ (cut l n_1 (l.length : Int)), v_3, rfl, hK, hS, hM⟩
def ref32_Below_l2 (tL : List TB) (k_1 : Int) (K_1 : (List Int) → Int → Prop) (K_2 : (List Int) → Int → Prop) (out_2 : List Int) (i_1 : Int) : Prop :=
 (i_1 < (tL.length : Int) → ((0 : Int) ≤ i_1 ∧ i_1 < (tL.length : Int)) ∧ (ref32_Has_W out_2 ((gi tL i_1).1) (fun r_2 => (r_2 = true → ref32_Add_W out_2 ((gi tL i_1).2) (fun r_3 => (I64 (i_1 + 1)) ∧ (K_2 r_3 (i_1 + 1)))) ∧ (r_2 = false → (I64 (i_1 + 1)) ∧ (K_2 out_2 (i_1 + 1)))))) ∧ (¬ (i_1 < (tL.length : Int)) → (I64 (k_1 + 1)) ∧ (K_1 out_2 (k_1 + 1)))
def ref32_Below_l1 (tL : List TB) (Q : (List Int) → Prop) (K_1 : (List Int) → Int → Prop) (out_1 : List Int) (k_1 : Int) : Prop :=
 (k_1 ≤ (tL.length : Int) → loopW (fun (K_2 : (List Int × Int) → Prop) (s : List Int × Int) => ref32_Below_l2 tL k_1 K_1 (fun out_2 i_1 => K_2 (out_2, i_1)) s.1 s.2) (out_1, 0)) ∧ (¬ (k_1 ≤ (tL.length : Int)) → Q out_1)
def ref32_Below_W (tR : Int) (tL : List TB) (n : Int) (Q : (List Int) → Prop) : Prop :=
 loopW (fun (K_1 : (List Int × Int) → Prop) (s : List Int × Int) => ref32_Below_l1 tL Q (fun out_1 k_1 => K_1 (out_1, k_1)) s.1 s.2) (([n] : List Int), 0)
theorem ref32_Below_walk {F : Fz} {fr : List Ow} {h0 : Heap} (tR : Int) (tL : List TB) (n : Int) (vT : Value) (hS : St F (fr) h0) (hLT : SliceF F h0 2 eB vT tL) {Q : (List Int) → Prop} (hM : ref32_Below_W tR tL n Q) :
  HC Tryz.prog 66 #[.agg #[.int .i64 tR, vT], .int .i64 n] h0 fun u h' => ∃ (F' : Fz) (r_1 : List Int) (vr_1 : Value), u = vr_1 ∧ Kp F h0 F' h' ∧ St F' (Ow.own 3 1 encI vr_1 r_1 :: fr) h' ∧ (SliceF F' h' 2 eB vT tL) ∧ Q r_1 := by
 unfold ref32_Below_W at hM
 have hK := Kp.refl F h0
 refine HC.of_HW (n := 41) Tryz.func66 rfl rfl (Nat.le_of_ble_eq_true rfl) ?_
 refine HW.seq ?_
 refine HW.region ?_
 refine HO.eff (wn) rfl (st_box (c := #[.int .i64 tR, vT]) (k' := 2) hS rfl rfl) ?_
 rintro _ h_1 ⟨b_1, rfl, hS, hk⟩
 replace hK := hK.trans hk
 replace hLT := hLT.kp hk
 refine oA (.slice none 0 0) rfl rfl ?_
 refine HO.nil (tqn (?_))
 refine HW.seq ?_
 refine HW.region ?_
 refine oM (.int .i64 n) rfl rfl ?_
 refine HO.eff (wn) rfl (st_lit (enc := encI) (cells := #[.int .i64 n]) #[.int .i64 0] ([n] : List Int) hS tl_22 (by decide) (by decide) (by kernel_rfl) (by kernel_rfl) rfl (by intro x hx; rfl) rfl) ?_
 rintro _ h_2 ⟨b_2, rfl, hS, hk⟩
 replace hK := hK.trans hk
 replace hLT := hLT.kp hk
 refine oA (.slice (some ⟨b_2, 0, none⟩) 1 1) rfl rfl ?_
 refine HO.nil (tqn (?_))
 refine HW.seq ?_
 refine HW.seq ?_
 refine HW.region ?_
 refine oA (.int .i64 0) rfl rfl ?_
 refine HO.nil (tqn (?_))
 refine HW.block ?_
 obtain ⟨I_1, m_1, hI_1, hR_1⟩ := hM
 replace hS : St F (Ow.box b_1 31 #[.int .i64 tR, vT] :: Ow.own 3 1 encI (.slice (some ⟨b_2, 0, none⟩) 1 1) ([n] : List Int) :: fr) h_2 := hS.perm2 [1, 0] 2 rfl rfl
 refine HW.loop (S := List Int × Int) (fun s f h => match s with | (out_1, k_1) => ∃ (F' : Fz) (vout_1 : Value), f 2 = .pointer (some ⟨b_1, 0, none⟩) ∧ f 4 = .slice none 0 0 ∧ f 5 = vout_1 ∧ f 6 = .int .i64 k_1 ∧ Kp F h0 F' h ∧ St F' (Ow.box b_1 31 #[.int .i64 tR, vT] :: Ow.own 3 1 encI vout_1 out_1 :: fr) h ∧ (SliceF F' h 2 eB vT tL) ∧ I_1 (out_1, k_1)) m_1 (([n] : List Int), 0) ⟨F, .slice (some ⟨b_2, 0, none⟩) 1 1, rfl, rfl, rfl, rfl, hK, hS, hLT, hI_1⟩ ?_
 rintro ⟨out_1, k_1⟩ f_1 h_3 ⟨F_1, vout_1, e2, e4, e5, e6, hK, hS, hLT, hI0⟩
 obtain ⟨K_1, hKe_1⟩ : ∃ K : (List Int) → Int → Prop, K = fun out_1' k_1' => I_1 (out_1', k_1') ∧ m_1 (out_1', k_1') < m_1 (out_1, k_1) := ⟨_, rfl⟩
 have hM : ref32_Below_l1 tL Q K_1 out_1 k_1 := by rw [hKe_1]; exact hR_1 (out_1, k_1) hI0
 unfold ref32_Below_l1 at hM
 refine HW.fr [(2, .pointer (some ⟨b_1, 0, none⟩)), (4, .slice none 0 0), (5, vout_1), (6, .int .i64 k_1)] ⟨e2, e4, e5, e6, trivial⟩ ?_
 refine HW.seq ?_
 refine HW.seq ?_
 refine HW.region ?_
 refine oM (.int .i64 k_1) rfl rfl ?_
 refine oV (.pointer (some ⟨b_1, 1, none⟩)) (qfA fa_31_1 rfl rfl) rfl ?_
 refine oV (vT) (q_load to_29 rfl (Blk.cell (hS.box 0 rfl) rfl)) rfl ?_
 refine oV (.int .i64 (tL.length : Int)) (q_len ts_29 (shp hLT.is) rfl rfl) rfl ?_
 refine oV (.bool (decide (k_1 ≤ (tL.length : Int)))) (q_leq rfl rfl) rfl ?_
 refine HO.nil (tqn (?_))
 refine HW.cond (decide (k_1 ≤ (tL.length : Int))) rfl (fun c_1 => ?_) (fun c_1 => ?_)
 ·
  replace hM := hM.1 (of_decide_eq_true c_1)
  refine HW.skip (tqn (?_))
  refine HW.seq ?_
  refine HW.block ?_
  refine HW.seq ?_
  refine HW.region ?_
  refine oA (.int .i64 0) rfl rfl ?_
  refine HO.nil (tqn (?_))
  refine HW.block ?_
  obtain ⟨I_2, m_2, hI_2, hR_2⟩ := hM
  refine HW.loop (S := List Int × Int) (fun s f h => match s with | (out_2, i_1) => ∃ (F' : Fz) (vout_2 : Value), f 2 = .pointer (some ⟨b_1, 0, none⟩) ∧ f 4 = .slice none 0 0 ∧ f 5 = vout_2 ∧ f 6 = .int .i64 k_1 ∧ f 7 = .int .i64 i_1 ∧ Kp F h0 F' h ∧ St F' (Ow.box b_1 31 #[.int .i64 tR, vT] :: Ow.own 3 1 encI vout_2 out_2 :: fr) h ∧ (SliceF F' h 2 eB vT tL) ∧ I_2 (out_2, i_1)) m_2 (out_1, 0) ⟨F_1, vout_1, rfl, rfl, rfl, rfl, rfl, hK, hS, hLT, hI_2⟩ ?_
  rintro ⟨out_2, i_1⟩ f_2 h_4 ⟨F_2, vout_2, e2, e4, e5, e6, e7, hK, hS, hLT, hI0⟩
  obtain ⟨K_2, hKe_2⟩ : ∃ K : (List Int) → Int → Prop, K = fun out_2' i_1' => I_2 (out_2', i_1') ∧ m_2 (out_2', i_1') < m_2 (out_2, i_1) := ⟨_, rfl⟩
  have hM : ref32_Below_l2 tL k_1 K_1 K_2 out_2 i_1 := by rw [hKe_2]; exact hR_2 (out_2, i_1) hI0
  unfold ref32_Below_l2 at hM
  refine HW.fr [(2, .pointer (some ⟨b_1, 0, none⟩)), (4, .slice none 0 0), (5, vout_2), (6, .int .i64 k_1), (7, .int .i64 i_1)] ⟨e2, e4, e5, e6, e7, trivial⟩ ?_
  refine HW.seq ?_
  refine HW.seq ?_
  refine HW.region ?_
  refine oM (.int .i64 i_1) rfl rfl ?_
  refine oV (.pointer (some ⟨b_1, 1, none⟩)) (qfA fa_31_1 rfl rfl) rfl ?_
  refine oV (vT) (q_load to_29 rfl (Blk.cell (hS.box 0 rfl) rfl)) rfl ?_
  refine oV (.int .i64 (tL.length : Int)) (q_len ts_29 (shp hLT.is) rfl rfl) rfl ?_
  refine oV (.bool (decide (i_1 < (tL.length : Int)))) (q_lss rfl rfl) rfl ?_
  refine HO.nil (tqn (?_))
  refine HW.cond (decide (i_1 < (tL.length : Int))) rfl (fun c_2 => ?_) (fun c_2 => ?_)
  ·
   replace hM := hM.1 (of_decide_eq_true c_2)
   refine HW.skip (tqn (?_))
   refine HW.seq ?_
   refine HW.block ?_
   refine HW.seq ?_
   refine HW.region ?_
   refine oM (vout_2) rfl rfl ?_
   refine oV (.pointer (some ⟨b_1, 1, none⟩)) (qfA fa_31_1 rfl rfl) rfl ?_
   refine oV (vT) (q_load to_29 rfl (Blk.cell (hS.box 0 rfl) rfl)) rfl ?_
   refine oM (.int .i64 i_1) rfl rfl ?_
   obtain ⟨ho_1, hM⟩ := hM
   refine oV (elemPtr 2 vT (i_1).toNat) (q_idx ts_29 hLT.is rfl rfl ho_1) rfl ?_
   refine oV (fieldPtr 2 vT (i_1).toNat 0) (q_fldElem fa_52_0 hLT.is rfl ho_1) rfl ?_
   refine oV (.int .i64 ((gi tL i_1).1)) (q_ldField to_3 hLT.is rfl ho_1 (by decide) rfl) rfl ?_
   replace hS : St F_2 (Ow.own 3 1 encI vout_2 out_2 :: Ow.box b_1 31 #[.int .i64 tR, vT] :: fr) h_4 := hS.perm2 [1, 0] 2 rfl rfl
   have hZ_1 := hS
   have hkz_1 := (hS.freeze).2
   replace hS := hS.freeze.1
   have hL_1 : SliceF (fun bz_ => F_2 bz_ ∨ (Ow.own 3 1 encI vout_2 out_2).foot bz_) h_4 1 encI vout_2 out_2 := ⟨(hZ_1.own 0 rfl).slice, fun _ b hb => .inr hb⟩
   refine HO.call (wn) rfl (ec en_8 rfl rfl) (ref32_Has_walk (fr := (Ow.box b_1 31 #[.int .i64 tR, vT] :: fr)) out_2 ((gi tL i_1).1) vout_2 hS hL_1 hM) ?_
   rintro _ h_5 ⟨F_3, r_2, rfl, hk, hS, _, hM⟩
   obtain ⟨hS, hk⟩ := hZ_1.back hk hS
   generalize (fun bz_ => F_3 bz_ ∧ ¬ (Ow.own 3 1 encI vout_2 out_2).foot bz_) = F_4 at hS hk
   replace hK := hK.trans hk
   replace hLT := hLT.kp hk
   refine HO.nil (tqn (?_))
   refine HW.cond r_2 rfl (fun c_3 => ?_) (fun c_3 => ?_)
   ·
    replace hM := hM.1 c_3
    refine HW.region ?_
    refine oM (vout_2) rfl rfl ?_
    refine oV (.pointer (some ⟨b_1, 1, none⟩)) (qfA fa_31_1 rfl rfl) rfl ?_
    refine oV (vT) (q_load to_29 rfl (Blk.cell (hS.box 1 rfl) rfl)) rfl ?_
    refine oM (.int .i64 i_1) rfl rfl ?_
    refine oV (elemPtr 2 vT (i_1).toNat) (q_idx ts_29 hLT.is rfl rfl ho_1) rfl ?_
    refine oV (fieldPtr 2 vT (i_1).toNat 1) (q_fldElem fa_52_1 hLT.is rfl ho_1) rfl ?_
    refine oV (.int .i64 ((gi tL i_1).2)) (q_ldField to_3 hLT.is rfl ho_1 (by decide) rfl) rfl ?_
    refine HO.call (wn) rfl (ec en_17 rfl rfl) (ref32_Add_walk (fr := (Ow.box b_1 31 #[.int .i64 tR, vT] :: fr)) out_2 ((gi tL i_1).2) vout_2 hS hM) ?_
    rintro vr_2 h_6 ⟨F_5, r_3, _, rfl, hk, hS, hM⟩
    replace hK := hK.trans hk
    replace hLT := hLT.kp hk
    refine oA (vr_2) rfl rfl ?_
    refine HO.nil (blockQ_normal (tqn (?_)))
    refine HW.region ?_
    refine oM (.int .i64 i_1) rfl rfl ?_
    obtain ⟨ho_2, hM⟩ := hM
    refine oV (.int .i64 (i_1 + 1)) (q_addN _ rfl rfl rfl ho_2.1 ho_2.2) rfl ?_
    refine oA (.int .i64 (i_1 + 1)) rfl rfl ?_
    refine HO.nil (tqn (?_))
    replace hS : St F_5 (Ow.box b_1 31 #[.int .i64 tR, vT] :: Ow.own 3 1 encI vr_2 r_3 :: fr) h_6 := hS.perm2 [1, 0] 2 rfl rfl
    rw [hKe_2] at hM
    exact ⟨(r_3, i_1 + 1), ⟨F_5, vr_2, rfl, rfl, rfl, rfl, rfl, hK, hS, hLT, hM.1⟩, hM.2⟩
   ·
    replace hM := hM.2 c_3
    refine HW.skip (blockQ_normal (tqn (?_)))
    refine HW.region ?_
    refine oM (.int .i64 i_1) rfl rfl ?_
    obtain ⟨ho_3, hM⟩ := hM
    refine oV (.int .i64 (i_1 + 1)) (q_addN _ rfl rfl rfl ho_3.1 ho_3.2) rfl ?_
    refine oA (.int .i64 (i_1 + 1)) rfl rfl ?_
    refine HO.nil (tqn (?_))
    replace hS : St F_4 (Ow.box b_1 31 #[.int .i64 tR, vT] :: Ow.own 3 1 encI vout_2 out_2 :: fr) h_5 := hS.perm2 [1, 0] 2 rfl rfl
    rw [hKe_2] at hM
    exact ⟨(out_2, i_1 + 1), ⟨F_4, vout_2, rfl, rfl, rfl, rfl, rfl, hK, hS, hLT, hM.1⟩, hM.2⟩
  ·
   replace hM := hM.2 (of_decide_eq_false c_2)
   refine HW.exit (thenQ_exit (thenQ_exit (blockQ_exit (blockQ_normal (tqn (?_))))))
   refine HW.region ?_
   refine oM (.int .i64 k_1) rfl rfl ?_
   obtain ⟨ho_4, hM⟩ := hM
   refine oV (.int .i64 (k_1 + 1)) (q_addN _ rfl rfl rfl ho_4.1 ho_4.2) rfl ?_
   refine oA (.int .i64 (k_1 + 1)) rfl rfl ?_
   refine HO.nil (tqn (?_))
   rw [hKe_1] at hM
   exact ⟨(out_2, k_1 + 1), ⟨F_2, vout_2, rfl, rfl, rfl, rfl, hK, hS, hLT, hM.1⟩, hM.2⟩
 ·
  replace hM := hM.2 (of_decide_eq_false c_1)
  refine HW.exit (thenQ_exit (thenQ_exit (blockQ_exit (tqn (?_)))))
  refine HW.seq ?_
  refine HW.region ?_
  refine oM (vout_1) rfl rfl ?_
  refine oA (vout_1) rfl rfl ?_
  refine HO.nil (tqn (?_))
  refine HW.ret (?_)
  refine ⟨.inr rfl, vout_1, res1 rfl (rt rfl), ?_⟩
  replace hS : St F_1 (Ow.own 3 1 encI vout_1 out_1 :: fr) h_3 := hS.perm2 [1] 2 rfl rfl
  exact ⟨F_1, out_1, vout_1, rfl, hK, hS, hLT, hM⟩
def ref32_Nodes_W (tR : Int) (tL : List TB) (Q : (List Int) → Prop) : Prop :=
 ref32_Below_W tR tL tR (fun r_2 => Q r_2)
theorem ref32_Nodes_walk {F : Fz} {fr : List Ow} {h0 : Heap} (tR : Int) (tL : List TB) (vT : Value) (hS : St F (fr) h0) (hLT : SliceF F h0 2 eB vT tL) {Q : (List Int) → Prop} (hM : ref32_Nodes_W tR tL Q) :
  HC Tryz.prog 37 #[.agg #[.int .i64 tR, vT]] h0 fun u h' => ∃ (F' : Fz) (r_1 : List Int) (vr_1 : Value), u = vr_1 ∧ Kp F h0 F' h' ∧ St F' (Ow.own 3 1 encI vr_1 r_1 :: fr) h' ∧ (SliceF F' h' 2 eB vT tL) ∧ Q r_1 := by
 unfold ref32_Nodes_W at hM
 have hK := Kp.refl F h0
 refine HC.of_HW (n := 7) Tryz.func37 rfl rfl (Nat.le_of_ble_eq_true rfl) ?_
 refine HW.seq ?_
 refine HW.region ?_
 refine HO.eff (wn) rfl (st_box (c := #[.int .i64 tR, vT]) (k' := 2) hS rfl rfl) ?_
 rintro _ h_1 ⟨b_1, rfl, hS, hk⟩
 replace hK := hK.trans hk
 replace hLT := hLT.kp hk
 refine oA (.slice none 0 0) rfl rfl ?_
 refine HO.nil (tqn (?_))
 refine HW.seq ?_
 refine HW.region ?_
 refine oV (.agg #[.int .i64 tR, vT]) (q_loadAgg (cs := [.int .i64 tR, vT]) ta_31 rfl rfl (Blk.cells (k := 2) (hS.box 0 rfl) rfl)) rfl ?_
 refine oV (.pointer (some ⟨b_1, 0, none⟩)) (qfA fa_31_0 rfl rfl) rfl ?_
 refine oV (.int .i64 tR) (q_load to_3 rfl (Blk.cell (hS.box 0 rfl) rfl)) rfl ?_
 refine HO.call (wn) rfl (ec en_66 rfl rfl) (ref32_Below_walk (fr := (Ow.box b_1 31 #[.int .i64 tR, vT] :: fr)) tR tL tR vT hS hLT hM) ?_
 rintro vr_2 h_2 ⟨F_1, r_2, _, rfl, hk, hS, _, hM⟩
 replace hK := hK.trans hk
 replace hLT := hLT.kp hk
 refine oA (vr_2) rfl rfl ?_
 refine HO.nil (tqn (?_))
 refine HW.ret (?_)
 refine ⟨.inr rfl, vr_2, res1 rfl (rt rfl), ?_⟩
 replace hS : St F_1 (Ow.own 3 1 encI vr_2 r_2 :: fr) h_2 := hS.perm2 [0] 2 rfl rfl
 exact ⟨F_1, r_2, vr_2, rfl, hK, hS, hLT, hM⟩
def ref32_Next_l1 (tL : List TB) (n : Int) (Q : (List Int) → Prop) (K_1 : (List Int) → Int → Prop) (out_1 : List Int) (i_1 : Int) : Prop :=
 (i_1 < (tL.length : Int) → ((0 : Int) ≤ i_1 ∧ i_1 < (tL.length : Int)) ∧ ((((gi tL i_1).1) = n → ((out_1.length + ([(gi tL i_1).2] : List Int).length) * 8 ≤ 140737488355328) ∧ ((I64 (i_1 + 1)) ∧ (K_1 (out_1 ++ ([(gi tL i_1).2] : List Int)) (i_1 + 1)))) ∧ (¬ (((gi tL i_1).1) = n) → (I64 (i_1 + 1)) ∧ (K_1 out_1 (i_1 + 1))))) ∧ (¬ (i_1 < (tL.length : Int)) → Q out_1)
def ref32_Next_W (tR : Int) (tL : List TB) (n : Int) (Q : (List Int) → Prop) : Prop :=
 loopW (fun (K_1 : (List Int × Int) → Prop) (s : List Int × Int) => ref32_Next_l1 tL n Q (fun out_1 i_1 => K_1 (out_1, i_1)) s.1 s.2) ([], 0)
theorem ref32_Next_walk {F : Fz} {fr : List Ow} {h0 : Heap} (tR : Int) (tL : List TB) (n : Int) (vT : Value) (hS : St F (fr) h0) (hLT : SliceF F h0 2 eB vT tL) {Q : (List Int) → Prop} (hM : ref32_Next_W tR tL n Q) :
  HC Tryz.prog 35 #[.agg #[.int .i64 tR, vT], .int .i64 n] h0 fun u h' => ∃ (F' : Fz) (r_1 : List Int) (vr_1 : Value), u = vr_1 ∧ Kp F h0 F' h' ∧ St F' (Ow.own 3 1 encI vr_1 r_1 :: fr) h' ∧ (SliceF F' h' 2 eB vT tL) ∧ Q r_1 := by
 unfold ref32_Next_W at hM
 have hK := Kp.refl F h0
 refine HC.of_HW (n := 33) Tryz.func35 rfl rfl (Nat.le_of_ble_eq_true rfl) ?_
 refine HW.seq ?_
 refine HW.region ?_
 refine HO.eff (wn) rfl (st_box (c := #[.int .i64 tR, vT]) (k' := 2) hS rfl rfl) ?_
 rintro _ h_1 ⟨b_1, rfl, hS, hk⟩
 replace hK := hK.trans hk
 replace hLT := hLT.kp hk
 refine oA (.slice none 0 0) rfl rfl ?_
 refine HO.nil (tqn (?_))
 refine HW.seq ?_
 refine HW.region ?_
 refine HO.eff (wn) rfl (st_litEmpty (α := Int) encI hS tl_22) ?_
 rintro _ h_2 ⟨b_2, rfl, hS, hk⟩
 replace hK := hK.trans hk
 replace hLT := hLT.kp hk
 refine oA (.slice (some ⟨b_2, 0, none⟩) 0 0) rfl rfl ?_
 refine HO.nil (tqn (?_))
 refine HW.seq ?_
 refine HW.seq ?_
 refine HW.region ?_
 refine oA (.int .i64 0) rfl rfl ?_
 refine HO.nil (tqn (?_))
 refine HW.block ?_
 obtain ⟨I_1, m_1, hI_1, hR_1⟩ := hM
 replace hS : St F (Ow.box b_1 31 #[.int .i64 tR, vT] :: Ow.own 3 1 encI (.slice (some ⟨b_2, 0, none⟩) 0 0) ([] : List Int) :: fr) h_2 := hS.perm2 [1, 0] 2 rfl rfl
 refine HW.loop (S := List Int × Int) (fun s f h => match s with | (out_1, i_1) => ∃ (F' : Fz) (vout_1 : Value), f 1 = .int .i64 n ∧ f 2 = .pointer (some ⟨b_1, 0, none⟩) ∧ f 4 = .slice none 0 0 ∧ f 5 = vout_1 ∧ f 6 = .int .i64 i_1 ∧ Kp F h0 F' h ∧ St F' (Ow.box b_1 31 #[.int .i64 tR, vT] :: Ow.own 3 1 encI vout_1 out_1 :: fr) h ∧ (SliceF F' h 2 eB vT tL) ∧ I_1 (out_1, i_1)) m_1 ([], 0) ⟨F, .slice (some ⟨b_2, 0, none⟩) 0 0, rfl, rfl, rfl, rfl, rfl, hK, hS, hLT, hI_1⟩ ?_
 rintro ⟨out_1, i_1⟩ f_1 h_3 ⟨F_1, vout_1, e1, e2, e4, e5, e6, hK, hS, hLT, hI0⟩
 obtain ⟨K_1, hKe_1⟩ : ∃ K : (List Int) → Int → Prop, K = fun out_1' i_1' => I_1 (out_1', i_1') ∧ m_1 (out_1', i_1') < m_1 (out_1, i_1) := ⟨_, rfl⟩
 have hM : ref32_Next_l1 tL n Q K_1 out_1 i_1 := by rw [hKe_1]; exact hR_1 (out_1, i_1) hI0
 unfold ref32_Next_l1 at hM
 refine HW.fr [(1, .int .i64 n), (2, .pointer (some ⟨b_1, 0, none⟩)), (4, .slice none 0 0), (5, vout_1), (6, .int .i64 i_1)] ⟨e1, e2, e4, e5, e6, trivial⟩ ?_
 refine HW.seq ?_
 refine HW.seq ?_
 refine HW.region ?_
 refine oM (.int .i64 i_1) rfl rfl ?_
 refine oV (.pointer (some ⟨b_1, 1, none⟩)) (qfA fa_31_1 rfl rfl) rfl ?_
 refine oV (vT) (q_load to_29 rfl (Blk.cell (hS.box 0 rfl) rfl)) rfl ?_
 refine oV (.int .i64 (tL.length : Int)) (q_len ts_29 (shp hLT.is) rfl rfl) rfl ?_
 refine oV (.bool (decide (i_1 < (tL.length : Int)))) (q_lss rfl rfl) rfl ?_
 refine HO.nil (tqn (?_))
 refine HW.cond (decide (i_1 < (tL.length : Int))) rfl (fun c_1 => ?_) (fun c_1 => ?_)
 ·
  replace hM := hM.1 (of_decide_eq_true c_1)
  refine HW.skip (tqn (?_))
  refine HW.seq ?_
  refine HW.block ?_
  refine HW.seq ?_
  refine HW.region ?_
  refine oV (.pointer (some ⟨b_1, 1, none⟩)) (qfA fa_31_1 rfl rfl) rfl ?_
  refine oV (vT) (q_load to_29 rfl (Blk.cell (hS.box 0 rfl) rfl)) rfl ?_
  refine oM (.int .i64 i_1) rfl rfl ?_
  obtain ⟨ho_1, hM⟩ := hM
  refine oV (elemPtr 2 vT (i_1).toNat) (q_idx ts_29 hLT.is rfl rfl ho_1) rfl ?_
  refine oV (fieldPtr 2 vT (i_1).toNat 0) (q_fldElem fa_52_0 hLT.is rfl ho_1) rfl ?_
  refine oV (.int .i64 ((gi tL i_1).1)) (q_ldField to_3 hLT.is rfl ho_1 (by decide) rfl) rfl ?_
  refine oM (.int .i64 n) rfl rfl ?_
  refine oV (.bool (decide (((gi tL i_1).1) = n))) (q_eql rfl rfl) rfl ?_
  refine HO.nil (tqn (?_))
  refine HW.cond (decide (((gi tL i_1).1) = n)) rfl (fun c_2 => ?_) (fun c_2 => ?_)
  ·
   replace hM := hM.1 (of_decide_eq_true c_2)
   refine HW.region ?_
   refine oM (vout_1) rfl rfl ?_
   refine oV (.pointer (some ⟨b_1, 1, none⟩)) (qfA fa_31_1 rfl rfl) rfl ?_
   refine oV (vT) (q_load to_29 rfl (Blk.cell (hS.box 0 rfl) rfl)) rfl ?_
   refine oM (.int .i64 i_1) rfl rfl ?_
   refine oV (elemPtr 2 vT (i_1).toNat) (q_idx ts_29 hLT.is rfl rfl ho_1) rfl ?_
   refine oV (fieldPtr 2 vT (i_1).toNat 1) (q_fldElem fa_52_1 hLT.is rfl ho_1) rfl ?_
   refine oV (.int .i64 ((gi tL i_1).2)) (q_ldField to_3 hLT.is rfl ho_1 (by decide) rfl) rfl ?_
   refine HO.eff (wn) rfl (st_lit (enc := encI) (cells := #[.int .i64 ((gi tL i_1).2)]) #[.int .i64 0] ([(gi tL i_1).2] : List Int) hS tl_22 (by decide) (by decide) (by kernel_rfl) (by kernel_rfl) rfl (by intro x hx; rfl) rfl) ?_
   rintro _ h_4 ⟨b_3, rfl, hS, hk⟩
   replace hK := hK.trans hk
   replace hLT := hLT.kp hk
   obtain ⟨ho_2, hM⟩ := hM
   refine HO.eff (wn) rfl (st_append te_22 hS (i := 2) rfl (hS.own 0 rfl).slice rfl rfl rfl (by intro a _ u hu; simp [encI, encI, encN, encB, encT] at hu; subst hu; rfl) ho_2 (by omega)) ?_
   rintro v_1 h_5 ⟨hS, hk⟩
   replace hK := hK.trans hk
   replace hLT := hLT.kp hk
   refine oA (v_1) rfl rfl ?_
   refine HO.nil (blockQ_normal (tqn (?_)))
   refine HW.region ?_
   refine oM (.int .i64 i_1) rfl rfl ?_
   obtain ⟨ho_3, hM⟩ := hM
   refine oV (.int .i64 (i_1 + 1)) (q_addN _ rfl rfl rfl ho_3.1 ho_3.2) rfl ?_
   refine oA (.int .i64 (i_1 + 1)) rfl rfl ?_
   refine HO.nil (tqn (?_))
   replace hS : St F_1 (Ow.box b_1 31 #[.int .i64 tR, vT] :: Ow.own 3 1 encI v_1 (out_1 ++ ([(gi tL i_1).2] : List Int)) :: fr) h_5 := hS.perm2 [1, 2] 3 rfl rfl
   rw [hKe_1] at hM
   exact ⟨(out_1 ++ ([(gi tL i_1).2] : List Int), i_1 + 1), ⟨F_1, v_1, rfl, rfl, rfl, rfl, rfl, hK, hS, hLT, hM.1⟩, hM.2⟩
  ·
   replace hM := hM.2 (of_decide_eq_false c_2)
   refine HW.skip (blockQ_normal (tqn (?_)))
   refine HW.region ?_
   refine oM (.int .i64 i_1) rfl rfl ?_
   obtain ⟨ho_4, hM⟩ := hM
   refine oV (.int .i64 (i_1 + 1)) (q_addN _ rfl rfl rfl ho_4.1 ho_4.2) rfl ?_
   refine oA (.int .i64 (i_1 + 1)) rfl rfl ?_
   refine HO.nil (tqn (?_))
   rw [hKe_1] at hM
   exact ⟨(out_1, i_1 + 1), ⟨F_1, vout_1, rfl, rfl, rfl, rfl, rfl, hK, hS, hLT, hM.1⟩, hM.2⟩
 ·
  replace hM := hM.2 (of_decide_eq_false c_1)
  refine HW.exit (thenQ_exit (thenQ_exit (blockQ_exit (tqn (?_)))))
  refine HW.seq ?_
  refine HW.region ?_
  refine oM (vout_1) rfl rfl ?_
  refine oA (vout_1) rfl rfl ?_
  refine HO.nil (tqn (?_))
  refine HW.ret (?_)
  refine ⟨.inr rfl, vout_1, res1 rfl (rt rfl), ?_⟩
  replace hS : St F_1 (Ow.own 3 1 encI vout_1 out_1 :: fr) h_3 := hS.perm2 [1] 2 rfl rfl
  exact ⟨F_1, out_1, vout_1, rfl, hK, hS, hLT, hM⟩
def ref32_Leaves_j1 (r_2 : List Int) (out_1 : List Int) (i_1 : Int) (K_1 : (List Int) → Int → Prop) (b_3 : Bool) : Prop :=
 (b_3 = true → ((0 : Int) ≤ i_1 ∧ i_1 < (r_2.length : Int)) ∧ (((out_1.length + ([(gi r_2 i_1)] : List Int).length) * 8 ≤ 140737488355328) ∧ ((I64 (i_1 + 1)) ∧ (K_1 (out_1 ++ ([(gi r_2 i_1)] : List Int)) (i_1 + 1))))) ∧ (b_3 = false → (I64 (i_1 + 1)) ∧ (K_1 out_1 (i_1 + 1)))
def ref32_Leaves_l1 (tR : Int) (tL : List TB) (Q : (List Int) → Prop) (r_2 : List Int) (K_1 : (List Int) → Int → Prop) (out_1 : List Int) (i_1 : Int) : Prop :=
 (i_1 < (r_2.length : Int) → ((0 : Int) ≤ i_1 ∧ i_1 < (r_2.length : Int)) ∧ ((¬ ((gi r_2 i_1) = tR) → ref32_Next_W tR tL (gi r_2 i_1) (fun r_3 => ref32_Leaves_j1 r_2 out_1 i_1 K_1 (decide ((r_3.length : Int) = 0)))) ∧ ((gi r_2 i_1) = tR → ref32_Leaves_j1 r_2 out_1 i_1 K_1 false))) ∧ (¬ (i_1 < (r_2.length : Int)) → Q out_1)
def ref32_Leaves_W (tR : Int) (tL : List TB) (Q : (List Int) → Prop) : Prop :=
 ref32_Nodes_W tR tL (fun r_2 => loopW (fun (K_1 : (List Int × Int) → Prop) (s : List Int × Int) => ref32_Leaves_l1 tR tL Q r_2 (fun out_1 i_1 => K_1 (out_1, i_1)) s.1 s.2) ([], 0))
theorem ref32_Leaves_walk {F : Fz} {fr : List Ow} {h0 : Heap} (tR : Int) (tL : List TB) (vT : Value) (hS : St F (fr) h0) (hLT : SliceF F h0 2 eB vT tL) {Q : (List Int) → Prop} (hM : ref32_Leaves_W tR tL Q) :
  HC Tryz.prog 32 #[.agg #[.int .i64 tR, vT]] h0 fun u h' => ∃ (F' : Fz) (r_1 : List Int) (vr_1 : Value), u = vr_1 ∧ Kp F h0 F' h' ∧ St F' (Ow.own 3 1 encI vr_1 r_1 :: fr) h' ∧ (SliceF F' h' 2 eB vT tL) ∧ Q r_1 := by
 unfold ref32_Leaves_W at hM
 have hK := Kp.refl F h0
 refine HC.of_HW (n := 40) Tryz.func32 rfl rfl (Nat.le_of_ble_eq_true rfl) ?_
 refine HW.seq ?_
 refine HW.region ?_
 refine HO.eff (wn) rfl (st_box (c := #[.int .i64 tR, vT]) (k' := 2) hS rfl rfl) ?_
 rintro _ h_1 ⟨b_1, rfl, hS, hk⟩
 replace hK := hK.trans hk
 replace hLT := hLT.kp hk
 refine oA (.slice none 0 0) rfl rfl ?_
 refine HO.nil (tqn (?_))
 refine HW.seq ?_
 refine HW.region ?_
 refine oV (.agg #[.int .i64 tR, vT]) (q_loadAgg (cs := [.int .i64 tR, vT]) ta_31 rfl rfl (Blk.cells (k := 2) (hS.box 0 rfl) rfl)) rfl ?_
 refine HO.call (wn) rfl (ec en_37 rfl rfl) (ref32_Nodes_walk (fr := (Ow.box b_1 31 #[.int .i64 tR, vT] :: fr)) tR tL vT hS hLT hM) ?_
 rintro vr_2 h_2 ⟨F_1, r_2, _, rfl, hk, hS, _, hM⟩
 replace hK := hK.trans hk
 replace hLT := hLT.kp hk
 refine HO.eff (wn) rfl (st_litEmpty (α := Int) encI hS tl_22) ?_
 rintro _ h_3 ⟨b_2, rfl, hS, hk⟩
 replace hK := hK.trans hk
 replace hLT := hLT.kp hk
 refine oA (vr_2) rfl rfl ?_
 refine oA (.slice (some ⟨b_2, 0, none⟩) 0 0) rfl rfl ?_
 refine HO.nil (tqn (?_))
 refine HW.seq ?_
 refine HW.seq ?_
 refine HW.region ?_
 refine oA (.int .i64 0) rfl rfl ?_
 refine HO.nil (tqn (?_))
 refine HW.block ?_
 obtain ⟨I_1, m_1, hI_1, hR_1⟩ := hM
 replace hS : St F_1 (Ow.box b_1 31 #[.int .i64 tR, vT] :: Ow.own 3 1 encI vr_2 r_2 :: Ow.own 3 1 encI (.slice (some ⟨b_2, 0, none⟩) 0 0) ([] : List Int) :: fr) h_3 := hS.perm2 [2, 1, 0] 3 rfl rfl
 refine HW.loop (S := List Int × Int) (fun s f h => match s with | (out_1, i_1) => ∃ (F' : Fz) (vout_1 : Value), f 1 = .pointer (some ⟨b_1, 0, none⟩) ∧ f 2 = .slice none 0 0 ∧ f 3 = vr_2 ∧ f 4 = vout_1 ∧ f 5 = .int .i64 i_1 ∧ Kp F h0 F' h ∧ St F' (Ow.box b_1 31 #[.int .i64 tR, vT] :: Ow.own 3 1 encI vr_2 r_2 :: Ow.own 3 1 encI vout_1 out_1 :: fr) h ∧ (SliceF F' h 2 eB vT tL) ∧ I_1 (out_1, i_1)) m_1 ([], 0) ⟨F_1, .slice (some ⟨b_2, 0, none⟩) 0 0, rfl, rfl, rfl, rfl, rfl, hK, hS, hLT, hI_1⟩ ?_
 rintro ⟨out_1, i_1⟩ f_1 h_4 ⟨F_2, vout_1, e1, e2, e3, e4, e5, hK, hS, hLT, hI0⟩
 obtain ⟨K_1, hKe_1⟩ : ∃ K : (List Int) → Int → Prop, K = fun out_1' i_1' => I_1 (out_1', i_1') ∧ m_1 (out_1', i_1') < m_1 (out_1, i_1) := ⟨_, rfl⟩
 have hM : ref32_Leaves_l1 tR tL Q r_2 K_1 out_1 i_1 := by rw [hKe_1]; exact hR_1 (out_1, i_1) hI0
 unfold ref32_Leaves_l1 at hM
 refine HW.fr [(1, .pointer (some ⟨b_1, 0, none⟩)), (2, .slice none 0 0), (3, vr_2), (4, vout_1), (5, .int .i64 i_1)] ⟨e1, e2, e3, e4, e5, trivial⟩ ?_
 refine HW.seq ?_
 refine HW.seq ?_
 refine HW.region ?_
 refine oM (.int .i64 i_1) rfl rfl ?_
 refine oM (vr_2) rfl rfl ?_
 refine oV (.int .i64 (r_2.length : Int)) (q_len ts_22 (shp (hS.own 1 rfl).slice) rfl rfl) rfl ?_
 refine oV (.bool (decide (i_1 < (r_2.length : Int)))) (q_lss rfl rfl) rfl ?_
 refine HO.nil (tqn (?_))
 refine HW.cond (decide (i_1 < (r_2.length : Int))) rfl (fun c_1 => ?_) (fun c_1 => ?_)
 ·
  replace hM := hM.1 (of_decide_eq_true c_1)
  refine HW.skip (tqn (?_))
  refine HW.seq ?_
  refine HW.block ?_
  refine HW.seq_mid (fun f h => ∃ (F' : Fz) (b_3 : Bool), f 1 = .pointer (some ⟨b_1, 0, none⟩) ∧ f 2 = .slice none 0 0 ∧ f 3 = vr_2 ∧ f 4 = vout_1 ∧ f 5 = .int .i64 i_1 ∧ f 31 = .bool b_3 ∧ Kp F h0 F' h ∧ St F' (Ow.box b_1 31 #[.int .i64 tR, vT] :: Ow.own 3 1 encI vr_2 r_2 :: Ow.own 3 1 encI vout_1 out_1 :: fr) h ∧ (SliceF F' h 2 eB vT tL) ∧ ref32_Leaves_j1 r_2 out_1 i_1 K_1 b_3) ?_ ?_
  ·
   refine HW.regionA 17 mixed (fun h => (Blk h b_1 (.cells #[.int .i64 tR, vT] 31 (0, 0))) ∧ (OwnIs h 0 3 1 encI vr_2 r_2)) [] (by kernel_rfl) ?_
   refine HA.val (k := 0) (v := vr_2) rfl rfl (by kernel_rfl) (by kernel_rfl) (wn) rfl (fun _ ⟨c305, c306⟩ => q_move rfl) ?_
   refine HA.val (k := 1) (v := .int .i64 i_1) rfl rfl (by kernel_rfl) (by kernel_rfl) (wn) rfl (fun _ ⟨c305, c306⟩ => q_move rfl) ?_
   obtain ⟨ho_1, hM⟩ := hM
   refine HA.val (k := 2) (v := elemPtr 1 vr_2 (i_1).toNat) rfl rfl (by kernel_rfl) (by kernel_rfl) (wn) rfl (fun _ ⟨c305, c306⟩ => q_idx ts_22 c306.slice rfl rfl ho_1) ?_
   refine HA.val (k := 3) (v := .int .i64 (gi r_2 i_1)) rfl rfl (by kernel_rfl) (by kernel_rfl) (wn) rfl (fun _ ⟨c305, c306⟩ => q_ldElem to_3 c306.slice rfl ho_1 rfl) ?_
   refine HA.val (k := 4) (v := .pointer (some ⟨b_1, 0, none⟩)) rfl rfl (by kernel_rfl) (by kernel_rfl) (wn) rfl (fun _ ⟨c305, c306⟩ => qfA fa_31_0 rfl rfl) ?_
   refine HA.val (k := 5) (v := .int .i64 tR) rfl rfl (by kernel_rfl) (by kernel_rfl) (wn) rfl (fun _ ⟨c305, c306⟩ => q_load to_3 rfl (Blk.cell c305 rfl)) ?_
   refine HA.val (k := 6) (v := .bool (!decide ((gi r_2 i_1) = tR))) rfl rfl (by kernel_rfl) (by kernel_rfl) (wn) rfl (fun _ ⟨c305, c306⟩ => q_neq rfl rfl) ?_
   refine HA.val (k := 7) (v := .bool (!decide ((gi r_2 i_1) = tR))) rfl rfl (by kernel_rfl) (by kernel_rfl) (wn) rfl (fun _ ⟨c305, c306⟩ => q_move rfl) ?_
   rcases Bool.eq_false_or_eq_true (!decide ((gi r_2 i_1) = tR)) with c_2 | c_2
   ·
    replace hM := hM.1 (nd_true c_2)
    refine HA.val (k := 8) (v := .agg #[.int .i64 tR, vT]) rfl rfl (by kernel_rfl) (by kernel_rfl) (wby rfl rfl c_2) rfl (fun _ ⟨c305, c306⟩ => q_loadAgg (cs := [.int .i64 tR, vT]) ta_31 rfl rfl (Blk.cells (k := 2) c305 rfl)) ?_
    refine HA.val (k := 9) (v := vr_2) rfl rfl (by kernel_rfl) (by kernel_rfl) (wby rfl rfl c_2) rfl (fun _ ⟨c305, c306⟩ => q_move rfl) ?_
    refine HA.val (k := 10) (v := .int .i64 i_1) rfl rfl (by kernel_rfl) (by kernel_rfl) (wby rfl rfl c_2) rfl (fun _ ⟨c305, c306⟩ => q_move rfl) ?_
    refine HA.val (k := 11) (v := elemPtr 1 vr_2 (i_1).toNat) rfl rfl (by kernel_rfl) (by kernel_rfl) (wby rfl rfl c_2) rfl (fun _ ⟨c305, c306⟩ => q_idx ts_22 c306.slice rfl rfl ho_1) ?_
    refine HA.val (k := 12) (v := .int .i64 (gi r_2 i_1)) rfl rfl (by kernel_rfl) (by kernel_rfl) (wby rfl rfl c_2) rfl (fun _ ⟨c305, c306⟩ => q_ldElem to_3 c306.slice rfl ho_1 rfl) ?_
    refine HA.one (k := 13) ⟨⟨(hS.box 0 rfl), (hS.own 1 rfl)⟩, (Go.Wk.at_nil _ _)⟩ (by kernel_rfl) ?_
    refine HS.call rfl (wby rfl rfl c_2) rfl (ec en_35 rfl rfl) (ref32_Next_walk (fr := (Ow.box b_1 31 #[.int .i64 tR, vT] :: Ow.own 3 1 encI vr_2 r_2 :: Ow.own 3 1 encI vout_1 out_1 :: fr)) tR tL (gi r_2 i_1) vT hS hLT hM) ?_
    rintro vr_3 h_5 ⟨F_3, r_3, _, rfl, hk, hS, _, hM⟩
    replace hK := hK.trans hk
    replace hLT := hLT.kp hk
    refine Go.Wk.HA.re (fun h => (OwnIs h 0 3 1 encI vr_3 r_3) ∧ (Blk h b_1 (.cells #[.int .i64 tR, vT] 31 (0, 0))) ∧ (OwnIs h 0 3 1 encI vr_2 r_2)) [] (fun L_ h_ hL_ ⟨c389, c305, c306⟩ hs_ => ⟨⟨c305, c306⟩, (Go.Wk.at_nil _ _)⟩) ?_
    refine HA.val (k := 14) (v := .int .i64 (r_3.length : Int)) rfl rfl (by kernel_rfl) (by kernel_rfl) (wby rfl rfl c_2) rfl (fun _ ⟨c389, c305, c306⟩ => q_len ts_22 (shp c389.slice) rfl rfl) ?_
    refine HA.val (k := 15) (v := .bool (decide ((r_3.length : Int) = 0))) rfl rfl (by kernel_rfl) (by kernel_rfl) (wby rfl rfl c_2) rfl (fun _ ⟨c389, c305, c306⟩ => q_eql rfl rfl) ?_
    refine HA.val (k := 16) (v := .bool (decide ((r_3.length : Int) = 0))) rfl rfl (by kernel_rfl) (by kernel_rfl) (wn) rfl (fun _ ⟨c389, c305, c306⟩ => q_pickK true rfl c_2 rfl) ?_
    refine HA.nil ⟨⟨(hS.own 0 rfl), (hS.box 1 rfl), (hS.own 2 rfl)⟩, (Go.Wk.at_nil _ _)⟩ (by kernel_rfl) (tqn (?_))
    replace hS : St F_3 (Ow.box b_1 31 #[.int .i64 tR, vT] :: Ow.own 3 1 encI vr_2 r_2 :: Ow.own 3 1 encI vout_1 out_1 :: fr) h_5 := hS.perm2 [1, 2, 3] 4 rfl rfl
    exact ⟨F_3, decide ((r_3.length : Int) = 0), rfl, rfl, rfl, rfl, rfl, rfl, hK, hS, hLT, hM⟩
   ·
    replace hM := hM.2 (nd_false c_2)
    refine HA.past (k := 8) rfl rfl (by kernel_rfl) (by kernel_rfl) (pby rfl rfl c_2) rfl ?_
    refine HA.past (k := 9) rfl rfl (by kernel_rfl) (by kernel_rfl) (pby rfl rfl c_2) rfl ?_
    refine HA.past (k := 10) rfl rfl (by kernel_rfl) (by kernel_rfl) (pby rfl rfl c_2) rfl ?_
    refine HA.past (k := 11) rfl rfl (by kernel_rfl) (by kernel_rfl) (pby rfl rfl c_2) rfl ?_
    refine HA.past (k := 12) rfl rfl (by kernel_rfl) (by kernel_rfl) (pby rfl rfl c_2) rfl ?_
    refine HA.one (k := 13) ⟨⟨(hS.box 0 rfl), (hS.own 1 rfl)⟩, (Go.Wk.at_nil _ _)⟩ (by kernel_rfl) ?_
    refine HS.past rfl (pby rfl rfl c_2) rfl ?_
    refine HA.past (k := 14) rfl rfl (by kernel_rfl) (by kernel_rfl) (pby rfl rfl c_2) rfl ?_
    refine HA.past (k := 15) rfl rfl (by kernel_rfl) (by kernel_rfl) (pby rfl rfl c_2) rfl ?_
    refine HA.val (k := 16) (v := .bool false) rfl rfl (by kernel_rfl) (by kernel_rfl) (wn) rfl (fun _ ⟨c305, c306⟩ => q_pickK false rfl c_2 rfl) ?_
    refine HA.nil ⟨⟨(hS.box 0 rfl), (hS.own 1 rfl)⟩, (Go.Wk.at_nil _ _)⟩ (by kernel_rfl) (tqn (?_))
    exact ⟨F_2, false, rfl, rfl, rfl, rfl, rfl, rfl, hK, hS, hLT, hM⟩
  ·
   rintro f_2 h_6 ⟨F_4, b_3, e1, e2, e3, e4, e5, e31, hK, hS, hLT, hM⟩
   unfold ref32_Leaves_j1 at hM
   refine HW.fr [(1, .pointer (some ⟨b_1, 0, none⟩)), (2, .slice none 0 0), (3, vr_2), (4, vout_1), (5, .int .i64 i_1), (31, .bool b_3)] ⟨e1, e2, e3, e4, e5, e31, trivial⟩ ?_
   refine HW.cond b_3 rfl (fun c_3 => ?_) (fun c_3 => ?_)
   ·
    replace hM := hM.1 c_3
    refine HW.region ?_
    refine oM (vout_1) rfl rfl ?_
    refine oM (vr_2) rfl rfl ?_
    refine oM (.int .i64 i_1) rfl rfl ?_
    obtain ⟨ho_2, hM⟩ := hM
    refine oV (elemPtr 1 vr_2 (i_1).toNat) (q_idx ts_22 (hS.own 1 rfl).slice rfl rfl ho_2) rfl ?_
    refine oV (.int .i64 (gi r_2 i_1)) (q_ldElem to_3 (hS.own 1 rfl).slice rfl ho_2 rfl) rfl ?_
    refine HO.eff (wn) rfl (st_lit (enc := encI) (cells := #[.int .i64 (gi r_2 i_1)]) #[.int .i64 0] ([(gi r_2 i_1)] : List Int) hS tl_22 (by decide) (by decide) (by kernel_rfl) (by kernel_rfl) rfl (by intro x hx; rfl) rfl) ?_
    rintro _ h_7 ⟨b_4, rfl, hS, hk⟩
    replace hK := hK.trans hk
    replace hLT := hLT.kp hk
    obtain ⟨ho_3, hM⟩ := hM
    refine HO.eff (wn) rfl (st_append te_22 hS (i := 3) rfl (hS.own 0 rfl).slice rfl rfl rfl (by intro a _ u hu; simp [encI, encI, encN, encB, encT] at hu; subst hu; rfl) ho_3 (by omega)) ?_
    rintro v_1 h_8 ⟨hS, hk⟩
    replace hK := hK.trans hk
    replace hLT := hLT.kp hk
    refine oA (v_1) rfl rfl ?_
    refine HO.nil (blockQ_normal (tqn (?_)))
    refine HW.region ?_
    refine oM (.int .i64 i_1) rfl rfl ?_
    obtain ⟨ho_4, hM⟩ := hM
    refine oV (.int .i64 (i_1 + 1)) (q_addN _ rfl rfl rfl ho_4.1 ho_4.2) rfl ?_
    refine oA (.int .i64 (i_1 + 1)) rfl rfl ?_
    refine HO.nil (tqn (?_))
    replace hS : St F_4 (Ow.box b_1 31 #[.int .i64 tR, vT] :: Ow.own 3 1 encI vr_2 r_2 :: Ow.own 3 1 encI v_1 (out_1 ++ ([(gi r_2 i_1)] : List Int)) :: fr) h_8 := hS.perm2 [1, 2, 3] 4 rfl rfl
    rw [hKe_1] at hM
    exact ⟨(out_1 ++ ([(gi r_2 i_1)] : List Int), i_1 + 1), ⟨F_4, v_1, rfl, rfl, rfl, rfl, rfl, hK, hS, hLT, hM.1⟩, hM.2⟩
   ·
    replace hM := hM.2 c_3
    refine HW.skip (blockQ_normal (tqn (?_)))
    refine HW.region ?_
    refine oM (.int .i64 i_1) rfl rfl ?_
    obtain ⟨ho_5, hM⟩ := hM
    refine oV (.int .i64 (i_1 + 1)) (q_addN _ rfl rfl rfl ho_5.1 ho_5.2) rfl ?_
    refine oA (.int .i64 (i_1 + 1)) rfl rfl ?_
    refine HO.nil (tqn (?_))
    rw [hKe_1] at hM
    exact ⟨(out_1, i_1 + 1), ⟨F_4, vout_1, rfl, rfl, rfl, rfl, rfl, hK, hS, hLT, hM.1⟩, hM.2⟩
 ·
  replace hM := hM.2 (of_decide_eq_false c_1)
  refine HW.exit (thenQ_exit (thenQ_exit (blockQ_exit (tqn (?_)))))
  refine HW.seq ?_
  refine HW.region ?_
  refine oM (vout_1) rfl rfl ?_
  refine oA (vout_1) rfl rfl ?_
  refine HO.nil (tqn (?_))
  refine HW.ret (?_)
  refine ⟨.inr rfl, vout_1, res1 rfl (rt rfl), ?_⟩
  replace hS : St F_2 (Ow.own 3 1 encI vout_1 out_1 :: fr) h_4 := hS.perm2 [2] 3 rfl rfl
  exact ⟨F_2, out_1, vout_1, rfl, hK, hS, hLT, hM⟩
def ref32_Fan_l1 (tR : Int) (tL : List TB) (Q : Int → Prop) (r_2 : List Int) (K_1 : Int → Int → Prop) (most_1 : Int) (i_1 : Int) : Prop :=
 (i_1 < (r_2.length : Int) → ((0 : Int) ≤ i_1 ∧ i_1 < (r_2.length : Int)) ∧ (ref32_Next_W tR tL (gi r_2 i_1) (fun r_3 => (most_1 < (r_3.length : Int) → (I64 (i_1 + 1)) ∧ (K_1 (r_3.length : Int) (i_1 + 1))) ∧ (¬ (most_1 < (r_3.length : Int)) → (I64 (i_1 + 1)) ∧ (K_1 most_1 (i_1 + 1)))))) ∧ (¬ (i_1 < (r_2.length : Int)) → Q most_1)
def ref32_Fan_W (tR : Int) (tL : List TB) (Q : Int → Prop) : Prop :=
 ref32_Nodes_W tR tL (fun r_2 => loopW (fun (K_1 : (Int × Int) → Prop) (s : Int × Int) => ref32_Fan_l1 tR tL Q r_2 (fun most_1 i_1 => K_1 (most_1, i_1)) s.1 s.2) (0, 0))
theorem ref32_Fan_walk {F : Fz} {fr : List Ow} {h0 : Heap} (tR : Int) (tL : List TB) (vT : Value) (hS : St F (fr) h0) (hLT : SliceF F h0 2 eB vT tL) {Q : Int → Prop} (hM : ref32_Fan_W tR tL Q) :
  HC Tryz.prog 41 #[.agg #[.int .i64 tR, vT]] h0 fun u h' => ∃ (F' : Fz) (r_1 : Int), u = .int .i64 r_1 ∧ Kp F h0 F' h' ∧ St F' (fr) h' ∧ (SliceF F' h' 2 eB vT tL) ∧ Q r_1 := by
 unfold ref32_Fan_W at hM
 have hK := Kp.refl F h0
 refine HC.of_HW (n := 27) Tryz.func41 rfl rfl (Nat.le_of_ble_eq_true rfl) ?_
 refine HW.seq ?_
 refine HW.region ?_
 refine HO.eff (wn) rfl (st_box (c := #[.int .i64 tR, vT]) (k' := 2) hS rfl rfl) ?_
 rintro _ h_1 ⟨b_1, rfl, hS, hk⟩
 replace hK := hK.trans hk
 replace hLT := hLT.kp hk
 refine oA (.int .i64 0) rfl rfl ?_
 refine HO.nil (tqn (?_))
 refine HW.seq ?_
 refine HW.region ?_
 refine oV (.agg #[.int .i64 tR, vT]) (q_loadAgg (cs := [.int .i64 tR, vT]) ta_31 rfl rfl (Blk.cells (k := 2) (hS.box 0 rfl) rfl)) rfl ?_
 refine HO.call (wn) rfl (ec en_37 rfl rfl) (ref32_Nodes_walk (fr := (Ow.box b_1 31 #[.int .i64 tR, vT] :: fr)) tR tL vT hS hLT hM) ?_
 rintro vr_1 h_2 ⟨F_1, r_2, _, rfl, hk, hS, _, hM⟩
 replace hK := hK.trans hk
 replace hLT := hLT.kp hk
 refine oA (vr_1) rfl rfl ?_
 refine oA (.int .i64 0) rfl rfl ?_
 refine HO.nil (tqn (?_))
 refine HW.seq ?_
 refine HW.seq ?_
 refine HW.region ?_
 refine oA (.int .i64 0) rfl rfl ?_
 refine HO.nil (tqn (?_))
 refine HW.block ?_
 obtain ⟨I_1, m_1, hI_1, hR_1⟩ := hM
 replace hS : St F_1 (Ow.box b_1 31 #[.int .i64 tR, vT] :: Ow.own 3 1 encI vr_1 r_2 :: fr) h_2 := hS.perm2 [1, 0] 2 rfl rfl
 refine HW.loop (S := Int × Int) (fun s f h => match s with | (most_1, i_1) => ∃ (F' : Fz), f 1 = .pointer (some ⟨b_1, 0, none⟩) ∧ f 2 = .int .i64 0 ∧ f 3 = vr_1 ∧ f 4 = .int .i64 most_1 ∧ f 5 = .int .i64 i_1 ∧ Kp F h0 F' h ∧ St F' (Ow.box b_1 31 #[.int .i64 tR, vT] :: Ow.own 3 1 encI vr_1 r_2 :: fr) h ∧ (SliceF F' h 2 eB vT tL) ∧ I_1 (most_1, i_1)) m_1 (0, 0) ⟨F_1, rfl, rfl, rfl, rfl, rfl, hK, hS, hLT, hI_1⟩ ?_
 rintro ⟨most_1, i_1⟩ f_1 h_3 ⟨F_2, e1, e2, e3, e4, e5, hK, hS, hLT, hI0⟩
 obtain ⟨K_1, hKe_1⟩ : ∃ K : Int → Int → Prop, K = fun most_1' i_1' => I_1 (most_1', i_1') ∧ m_1 (most_1', i_1') < m_1 (most_1, i_1) := ⟨_, rfl⟩
 have hM : ref32_Fan_l1 tR tL Q r_2 K_1 most_1 i_1 := by rw [hKe_1]; exact hR_1 (most_1, i_1) hI0
 unfold ref32_Fan_l1 at hM
 refine HW.fr [(1, .pointer (some ⟨b_1, 0, none⟩)), (2, .int .i64 0), (3, vr_1), (4, .int .i64 most_1), (5, .int .i64 i_1)] ⟨e1, e2, e3, e4, e5, trivial⟩ ?_
 refine HW.seq ?_
 refine HW.seq ?_
 refine HW.region ?_
 refine oM (.int .i64 i_1) rfl rfl ?_
 refine oM (vr_1) rfl rfl ?_
 refine oV (.int .i64 (r_2.length : Int)) (q_len ts_22 (shp (hS.own 1 rfl).slice) rfl rfl) rfl ?_
 refine oV (.bool (decide (i_1 < (r_2.length : Int)))) (q_lss rfl rfl) rfl ?_
 refine HO.nil (tqn (?_))
 refine HW.cond (decide (i_1 < (r_2.length : Int))) rfl (fun c_1 => ?_) (fun c_1 => ?_)
 ·
  replace hM := hM.1 (of_decide_eq_true c_1)
  refine HW.skip (tqn (?_))
  refine HW.seq ?_
  refine HW.block ?_
  refine HW.seq ?_
  refine HW.regionA 8 mixed (fun h => (Blk h b_1 (.cells #[.int .i64 tR, vT] 31 (0, 0))) ∧ (OwnIs h 0 3 1 encI vr_1 r_2)) [] (by kernel_rfl) ?_
  refine HA.val (k := 0) (v := .agg #[.int .i64 tR, vT]) rfl rfl (by kernel_rfl) (by kernel_rfl) (wn) rfl (fun _ ⟨c303, c304⟩ => q_loadAgg (cs := [.int .i64 tR, vT]) ta_31 rfl rfl (Blk.cells (k := 2) c303 rfl)) ?_
  refine HA.val (k := 1) (v := vr_1) rfl rfl (by kernel_rfl) (by kernel_rfl) (wn) rfl (fun _ ⟨c303, c304⟩ => q_move rfl) ?_
  refine HA.val (k := 2) (v := .int .i64 i_1) rfl rfl (by kernel_rfl) (by kernel_rfl) (wn) rfl (fun _ ⟨c303, c304⟩ => q_move rfl) ?_
  obtain ⟨ho_1, hM⟩ := hM
  refine HA.val (k := 3) (v := elemPtr 1 vr_1 (i_1).toNat) rfl rfl (by kernel_rfl) (by kernel_rfl) (wn) rfl (fun _ ⟨c303, c304⟩ => q_idx ts_22 c304.slice rfl rfl ho_1) ?_
  refine HA.val (k := 4) (v := .int .i64 (gi r_2 i_1)) rfl rfl (by kernel_rfl) (by kernel_rfl) (wn) rfl (fun _ ⟨c303, c304⟩ => q_ldElem to_3 c304.slice rfl ho_1 rfl) ?_
  refine HA.one (k := 5) ⟨⟨(hS.box 0 rfl), (hS.own 1 rfl)⟩, (Go.Wk.at_nil _ _)⟩ (by kernel_rfl) ?_
  refine HS.call rfl (wn) rfl (ec en_35 rfl rfl) (ref32_Next_walk (fr := (Ow.box b_1 31 #[.int .i64 tR, vT] :: Ow.own 3 1 encI vr_1 r_2 :: fr)) tR tL (gi r_2 i_1) vT hS hLT hM) ?_
  rintro vr_2 h_4 ⟨F_3, r_3, _, rfl, hk, hS, _, hM⟩
  replace hK := hK.trans hk
  replace hLT := hLT.kp hk
  refine Go.Wk.HA.re (fun h => (OwnIs h 0 3 1 encI vr_2 r_3) ∧ (Blk h b_1 (.cells #[.int .i64 tR, vT] 31 (0, 0))) ∧ (OwnIs h 0 3 1 encI vr_1 r_2)) [] (fun L_ h_ hL_ ⟨c335, c303, c304⟩ hs_ => ⟨⟨c303, c304⟩, (Go.Wk.at_nil _ _)⟩) ?_
  refine HA.val (k := 6) (v := .int .i64 (r_3.length : Int)) rfl rfl (by kernel_rfl) (by kernel_rfl) (wn) rfl (fun _ ⟨c335, c303, c304⟩ => q_len ts_22 (shp c335.slice) rfl rfl) ?_
  refine HA.val (k := 7) (v := .int .i64 (r_3.length : Int)) rfl rfl (by kernel_rfl) (by kernel_rfl) (wn) rfl (fun _ ⟨c335, c303, c304⟩ => q_assign rfl) ?_
  refine HA.nil ⟨⟨(hS.own 0 rfl), (hS.box 1 rfl), (hS.own 2 rfl)⟩, (Go.Wk.at_nil _ _)⟩ (by kernel_rfl) (tqn (?_))
  refine HW.seq ?_
  refine HW.region ?_
  refine oM (.int .i64 (r_3.length : Int)) rfl rfl ?_
  refine oM (.int .i64 most_1) rfl rfl ?_
  refine oV (.bool (decide (most_1 < (r_3.length : Int)))) (q_gtr rfl rfl) rfl ?_
  refine HO.nil (tqn (?_))
  refine HW.cond (decide (most_1 < (r_3.length : Int))) rfl (fun c_2 => ?_) (fun c_2 => ?_)
  ·
   replace hM := hM.1 (of_decide_eq_true c_2)
   refine HW.region ?_
   refine oM (.int .i64 (r_3.length : Int)) rfl rfl ?_
   refine oA (.int .i64 (r_3.length : Int)) rfl rfl ?_
   refine HO.nil (blockQ_normal (tqn (?_)))
   refine HW.region ?_
   refine oM (.int .i64 i_1) rfl rfl ?_
   obtain ⟨ho_2, hM⟩ := hM
   refine oV (.int .i64 (i_1 + 1)) (q_addN _ rfl rfl rfl ho_2.1 ho_2.2) rfl ?_
   refine oA (.int .i64 (i_1 + 1)) rfl rfl ?_
   refine HO.nil (tqn (?_))
   replace hS : St F_3 (Ow.box b_1 31 #[.int .i64 tR, vT] :: Ow.own 3 1 encI vr_1 r_2 :: fr) h_4 := hS.perm2 [1, 2] 3 rfl rfl
   rw [hKe_1] at hM
   exact ⟨((r_3.length : Int), i_1 + 1), ⟨F_3, rfl, rfl, rfl, rfl, rfl, hK, hS, hLT, hM.1⟩, hM.2⟩
  ·
   replace hM := hM.2 (of_decide_eq_false c_2)
   refine HW.skip (blockQ_normal (tqn (?_)))
   refine HW.region ?_
   refine oM (.int .i64 i_1) rfl rfl ?_
   obtain ⟨ho_3, hM⟩ := hM
   refine oV (.int .i64 (i_1 + 1)) (q_addN _ rfl rfl rfl ho_3.1 ho_3.2) rfl ?_
   refine oA (.int .i64 (i_1 + 1)) rfl rfl ?_
   refine HO.nil (tqn (?_))
   replace hS : St F_3 (Ow.box b_1 31 #[.int .i64 tR, vT] :: Ow.own 3 1 encI vr_1 r_2 :: fr) h_4 := hS.perm2 [1, 2] 3 rfl rfl
   rw [hKe_1] at hM
   exact ⟨(most_1, i_1 + 1), ⟨F_3, rfl, rfl, rfl, rfl, rfl, hK, hS, hLT, hM.1⟩, hM.2⟩
 ·
  replace hM := hM.2 (of_decide_eq_false c_1)
  refine HW.exit (thenQ_exit (thenQ_exit (blockQ_exit (tqn (?_)))))
  refine HW.seq ?_
  refine HW.region ?_
  refine oM (.int .i64 most_1) rfl rfl ?_
  refine oA (.int .i64 most_1) rfl rfl ?_
  refine HO.nil (tqn (?_))
  refine HW.ret (?_)
  refine ⟨.inr rfl, .int .i64 most_1, res1 rfl (rt rfl), ?_⟩
  replace hS : St F_2 (fr) h_3 := hS.perm2 [] 2 rfl rfl
  exact ⟨F_2, most_1, rfl, hK, hS, hLT, hM⟩
def ref34_Star_W (tR : Int) (tL : List TB) (fan : Int) (Q : Bool → Prop) : Prop :=
 ref32_Fan_W tR tL (fun r_2 => Q (decide (fan < r_2)))
theorem ref34_Star_walk {F : Fz} {fr : List Ow} {h0 : Heap} (tR : Int) (tL : List TB) (fan : Int) (vT : Value) (hS : St F (fr) h0) (hLT : SliceF F h0 2 eB vT tL) {Q : Bool → Prop} (hM : ref34_Star_W tR tL fan Q) :
  HC Tryz.prog 21 #[.agg #[.int .i64 tR, vT], .int .i64 fan] h0 fun u h' => ∃ (F' : Fz) (r_1 : Bool), u = .bool r_1 ∧ Kp F h0 F' h' ∧ St F' (fr) h' ∧ (SliceF F' h' 2 eB vT tL) ∧ Q r_1 := by
 unfold ref34_Star_W at hM
 have hK := Kp.refl F h0
 refine HC.of_HW (n := 9) Tryz.func21 rfl rfl (Nat.le_of_ble_eq_true rfl) ?_
 refine HW.seq ?_
 refine HW.region ?_
 refine HO.eff (wn) rfl (st_box (c := #[.int .i64 tR, vT]) (k' := 2) hS rfl rfl) ?_
 rintro _ h_1 ⟨b_1, rfl, hS, hk⟩
 replace hK := hK.trans hk
 replace hLT := hLT.kp hk
 refine oA (.bool false) rfl rfl ?_
 refine HO.nil (tqn (?_))
 refine HW.seq ?_
 refine HW.region ?_
 refine oV (.agg #[.int .i64 tR, vT]) (q_loadAgg (cs := [.int .i64 tR, vT]) ta_31 rfl rfl (Blk.cells (k := 2) (hS.box 0 rfl) rfl)) rfl ?_
 refine HO.call (wn) rfl (ec en_41 rfl rfl) (ref32_Fan_walk (fr := (Ow.box b_1 31 #[.int .i64 tR, vT] :: fr)) tR tL vT hS hLT hM) ?_
 rintro _ h_2 ⟨F_1, r_2, rfl, hk, hS, _, hM⟩
 replace hK := hK.trans hk
 replace hLT := hLT.kp hk
 refine oM (.int .i64 fan) rfl rfl ?_
 refine oV (.bool (decide (fan < r_2))) (q_gtr rfl rfl) rfl ?_
 refine oA (.bool (decide (fan < r_2))) rfl rfl ?_
 refine HO.nil (tqn (?_))
 refine HW.ret (?_)
 refine ⟨.inr rfl, .bool (decide (fan < r_2)), res1 rfl (rt rfl), ?_⟩
 replace hS : St F_1 (fr) h_2 := hS.perm2 [] 1 rfl rfl
 exact ⟨F_1, decide (fan < r_2), rfl, hK, hS, hLT, hM⟩
def ref33_Need_l1 (members : Int) (fan : Int) (Q : Int → Prop) (K_1 : Int → Prop) (k_1 : Int) : Prop :=
 (k_1 ≤ 400 → (I64 (fan - 1)) ∧ ((I64 (k_1 * (fan - 1))) ∧ ((I64 (fan + (k_1 * (fan - 1)))) ∧ ((members ≤ (fan + (k_1 * (fan - 1))) → Q k_1) ∧ (¬ (members ≤ (fan + (k_1 * (fan - 1)))) → (I64 (k_1 + 1)) ∧ (K_1 (k_1 + 1))))))) ∧ (¬ (k_1 ≤ 400) → Q (-1))
def ref33_Need_W (members : Int) (fan : Int) (Q : Int → Prop) : Prop :=
 loopW (fun (K_1 : Int → Prop) (s : Int) => ref33_Need_l1 members fan Q K_1 s) 0
theorem ref33_Need_walk {F : Fz} {fr : List Ow} {h0 : Heap} (members : Int) (fan : Int) (hS : St F (fr) h0)  {Q : Int → Prop} (hM : ref33_Need_W members fan Q) :
  HC Tryz.prog 27 #[.int .i64 members, .int .i64 fan] h0 fun u h' => ∃ (F' : Fz) (r_1 : Int), u = .int .i64 r_1 ∧ Kp F h0 F' h' ∧ St F' (fr) h' ∧ Q r_1 := by
 unfold ref33_Need_W at hM
 have hK := Kp.refl F h0
 refine HC.of_HW (n := 19) Tryz.func27 rfl rfl (Nat.le_of_ble_eq_true rfl) ?_
 refine HW.seq ?_
 refine HW.region ?_
 refine oA (.int .i64 0) rfl rfl ?_
 refine HO.nil (tqn (?_))
 refine HW.seq ?_
 refine HW.seq ?_
 refine HW.region ?_
 refine oA (.int .i64 0) rfl rfl ?_
 refine HO.nil (tqn (?_))
 refine HW.block ?_
 obtain ⟨I_1, m_1, hI_1, hR_1⟩ := hM
 refine HW.loop (S := Int) (fun k_1 f h => ∃ (F' : Fz), f 0 = .int .i64 members ∧ f 1 = .int .i64 fan ∧ f 4 = .int .i64 0 ∧ f 5 = .int .i64 k_1 ∧ Kp F h0 F' h ∧ St F' (fr) h ∧ I_1 k_1) m_1 0 ⟨F, rfl, rfl, rfl, rfl, hK, hS, hI_1⟩ ?_
 rintro k_1 f_1 h_1 ⟨F_1, e0, e1, e4, e5, hK, hS, hI0⟩
 obtain ⟨K_1, hKe_1⟩ : ∃ K : Int → Prop, K = fun k_1' => I_1 k_1' ∧ m_1 k_1' < m_1 k_1 := ⟨_, rfl⟩
 have hM : ref33_Need_l1 members fan Q K_1 k_1 := by rw [hKe_1]; exact hR_1 k_1 hI0
 unfold ref33_Need_l1 at hM
 refine HW.fr [(0, .int .i64 members), (1, .int .i64 fan), (4, .int .i64 0), (5, .int .i64 k_1)] ⟨e0, e1, e4, e5, trivial⟩ ?_
 refine HW.seq ?_
 refine HW.seq ?_
 refine HW.region ?_
 refine oM (.int .i64 k_1) rfl rfl ?_
 refine oV (.bool (decide (k_1 ≤ 400))) (q_leq rfl rfl) rfl ?_
 refine HO.nil (tqn (?_))
 refine HW.cond (decide (k_1 ≤ 400)) rfl (fun c_1 => ?_) (fun c_1 => ?_)
 ·
  replace hM := hM.1 (of_decide_eq_true c_1)
  refine HW.skip (tqn (?_))
  refine HW.seq ?_
  refine HW.block ?_
  refine HW.seq ?_
  refine HW.region ?_
  refine oM (.int .i64 fan) rfl rfl ?_
  refine oM (.int .i64 k_1) rfl rfl ?_
  refine oM (.int .i64 fan) rfl rfl ?_
  obtain ⟨ho_1, hM⟩ := hM
  refine oV (.int .i64 (fan - 1)) (q_subN _ rfl rfl rfl ho_1.1 ho_1.2) rfl ?_
  obtain ⟨ho_2, hM⟩ := hM
  refine oV (.int .i64 (k_1 * (fan - 1))) (q_mulN _ rfl rfl rfl ho_2.1 ho_2.2) rfl ?_
  obtain ⟨ho_3, hM⟩ := hM
  refine oV (.int .i64 (fan + (k_1 * (fan - 1)))) (q_addN _ rfl rfl rfl ho_3.1 ho_3.2) rfl ?_
  refine oM (.int .i64 members) rfl rfl ?_
  refine oV (.bool (decide (members ≤ (fan + (k_1 * (fan - 1)))))) (q_geq rfl rfl) rfl ?_
  refine HO.nil (tqn (?_))
  refine HW.cond (decide (members ≤ (fan + (k_1 * (fan - 1))))) rfl (fun c_2 => ?_) (fun c_2 => ?_)
  ·
   replace hM := hM.1 (of_decide_eq_true c_2)
   refine HW.seq ?_
   refine HW.region ?_
   refine oM (.int .i64 k_1) rfl rfl ?_
   refine oA (.int .i64 k_1) rfl rfl ?_
   refine HO.nil (tqn (?_))
   refine HW.ret (blockQ_ret (thenQ_ret (thenQ_ret (blockQ_ret (thenQ_ret (?_))))))
   refine ⟨.inr rfl, .int .i64 k_1, res1 rfl (rt rfl), ?_⟩
   exact ⟨F_1, k_1, rfl, hK, hS, hM⟩
  ·
   replace hM := hM.2 (of_decide_eq_false c_2)
   refine HW.skip (blockQ_normal (tqn (?_)))
   refine HW.region ?_
   refine oM (.int .i64 k_1) rfl rfl ?_
   obtain ⟨ho_4, hM⟩ := hM
   refine oV (.int .i64 (k_1 + 1)) (q_addN _ rfl rfl rfl ho_4.1 ho_4.2) rfl ?_
   refine oA (.int .i64 (k_1 + 1)) rfl rfl ?_
   refine HO.nil (tqn (?_))
   rw [hKe_1] at hM
   exact ⟨k_1 + 1, ⟨F_1, rfl, rfl, rfl, rfl, hK, hS, hM.1⟩, hM.2⟩
 ·
  replace hM := hM.2 (of_decide_eq_false c_1)
  refine HW.exit (thenQ_exit (thenQ_exit (blockQ_exit (tqn (?_)))))
  refine HW.seq ?_
  refine HW.region ?_
  refine oA (.int .i64 (-1)) rfl rfl ?_
  refine HO.nil (tqn (?_))
  refine HW.ret (?_)
  refine ⟨.inr rfl, .int .i64 (-1), res1 rfl (rt rfl), ?_⟩
  exact ⟨F_1, (-1), rfl, hK, hS, hM⟩
def ref32_less_W (a : TB) (b : TB) (Q : Bool → Prop) : Prop :=
 (a.1 < b.1 → Q true) ∧ (¬ (a.1 < b.1) → (a.1 = b.1 → Q (decide (a.2 < b.2))) ∧ (¬ (a.1 = b.1) → Q false))
theorem ref32_less_walk {F : Fz} {fr : List Ow} {h0 : Heap} (a : TB) (b : TB) (hS : St F (fr) h0)  {Q : Bool → Prop} (hM : ref32_less_W a b Q) :
  HC Tryz.prog 52 #[.agg #[.int .i64 a.1, .int .i64 a.2], .agg #[.int .i64 b.1, .int .i64 b.2]] h0 fun u h' => ∃ (F' : Fz) (r_1 : Bool), u = .bool r_1 ∧ Kp F h0 F' h' ∧ St F' (fr) h' ∧ Q r_1 := by
 unfold ref32_less_W at hM
 have hK := Kp.refl F h0
 refine HC.of_HW (n := 24) Tryz.func52 rfl rfl (Nat.le_of_ble_eq_true rfl) ?_
 refine HW.seq ?_
 refine HW.region ?_
 refine HO.eff (wn) rfl (st_box (c := #[.int .i64 a.1, .int .i64 a.2]) (k' := 2) hS rfl rfl) ?_
 rintro _ h_1 ⟨b_1, rfl, hS, hk⟩
 replace hK := hK.trans hk
 refine HO.eff (wn) rfl (st_box (c := #[.int .i64 b.1, .int .i64 b.2]) (k' := 2) hS rfl rfl) ?_
 rintro _ h_2 ⟨b_2, rfl, hS, hk⟩
 replace hK := hK.trans hk
 refine oA (.bool false) rfl rfl ?_
 refine HO.nil (tqn (?_))
 refine HW.seq ?_
 refine HW.region ?_
 refine oV (.pointer (some ⟨b_1, 0, none⟩)) (qfA fa_52_0 rfl rfl) rfl ?_
 refine oV (.int .i64 a.1) (q_load to_3 rfl (Blk.cell (hS.box 1 rfl) rfl)) rfl ?_
 refine oV (.pointer (some ⟨b_2, 0, none⟩)) (qfA fa_52_0 rfl rfl) rfl ?_
 refine oV (.int .i64 b.1) (q_load to_3 rfl (Blk.cell (hS.box 0 rfl) rfl)) rfl ?_
 refine oV (.bool (decide (a.1 < b.1))) (q_lss rfl rfl) rfl ?_
 refine oM (.bool (decide (a.1 < b.1))) rfl rfl ?_
 rcases Bool.eq_false_or_eq_true (decide (a.1 < b.1)) with c_1 | c_1
 ·
  replace hM := hM.1 (of_decide_eq_true c_1)
  refine HO.past (pby rfl rfl c_1) rfl ?_
  refine HO.past (pby rfl rfl c_1) rfl ?_
  refine HO.past (pby rfl rfl c_1) rfl ?_
  refine HO.past (pby rfl rfl c_1) rfl ?_
  refine HO.past (pby rfl rfl c_1) rfl ?_
  refine HO.past (pby rfl rfl c_1) rfl ?_
  refine HO.past (past_undef rfl rfl) rfl ?_
  refine HO.past (past_undef rfl rfl) rfl ?_
  refine HO.past (past_undef rfl rfl) rfl ?_
  refine HO.past (past_undef rfl rfl) rfl ?_
  refine HO.past (past_undef rfl rfl) rfl ?_
  refine HO.past (pby rfl rfl c_1) rfl ?_
  refine oV (.bool true) (q_pickK true rfl c_1 rfl) rfl ?_
  refine oA (.bool true) rfl rfl ?_
  refine HO.nil (tqn (?_))
  refine HW.ret (?_)
  refine ⟨.inr rfl, .bool true, res1 rfl (rt rfl), ?_⟩
  replace hS : St F (fr) h_2 := hS.perm2 [] 2 rfl rfl
  exact ⟨F, true, rfl, hK, hS, hM⟩
 ·
  replace hM := hM.2 (of_decide_eq_false c_1)
  refine HO.val (v := .pointer (some ⟨b_1, 0, none⟩)) (wby rfl rfl c_1) rfl (qfA fa_52_0 rfl rfl) ?_
  refine HO.val (v := .int .i64 a.1) (wby rfl rfl c_1) rfl (q_load to_3 rfl (Blk.cell (hS.box 1 rfl) rfl)) ?_
  refine HO.val (v := .pointer (some ⟨b_2, 0, none⟩)) (wby rfl rfl c_1) rfl (qfA fa_52_0 rfl rfl) ?_
  refine HO.val (v := .int .i64 b.1) (wby rfl rfl c_1) rfl (q_load to_3 rfl (Blk.cell (hS.box 0 rfl) rfl)) ?_
  refine HO.val (v := .bool (decide (a.1 = b.1))) (wby rfl rfl c_1) rfl (q_eql rfl rfl) ?_
  refine HO.val (v := .bool (decide (a.1 = b.1))) (wby rfl rfl c_1) rfl (q_move rfl) ?_
  rcases Bool.eq_false_or_eq_true (decide (a.1 = b.1)) with c_2 | c_2
  ·
   replace hM := hM.1 (of_decide_eq_true c_2)
   refine HO.val (v := .pointer (some ⟨b_1, 1, none⟩)) (wby rfl rfl c_2) rfl (qfA fa_52_1 rfl rfl) ?_
   refine HO.val (v := .int .i64 a.2) (wby rfl rfl c_2) rfl (q_load to_3 rfl (Blk.cell (hS.box 1 rfl) rfl)) ?_
   refine HO.val (v := .pointer (some ⟨b_2, 1, none⟩)) (wby rfl rfl c_2) rfl (qfA fa_52_1 rfl rfl) ?_
   refine HO.val (v := .int .i64 b.2) (wby rfl rfl c_2) rfl (q_load to_3 rfl (Blk.cell (hS.box 0 rfl) rfl)) ?_
   refine HO.val (v := .bool (decide (a.2 < b.2))) (wby rfl rfl c_2) rfl (q_lss rfl rfl) ?_
   refine HO.val (v := .bool (decide (a.2 < b.2))) (wby rfl rfl c_1) rfl (q_pickK true rfl c_2 rfl) ?_
   refine oV (.bool (decide (a.2 < b.2))) (q_pickK false rfl c_1 rfl) rfl ?_
   refine oA (.bool (decide (a.2 < b.2))) rfl rfl ?_
   refine HO.nil (tqn (?_))
   refine HW.ret (?_)
   refine ⟨.inr rfl, .bool (decide (a.2 < b.2)), res1 rfl (rt rfl), ?_⟩
   replace hS : St F (fr) h_2 := hS.perm2 [] 2 rfl rfl
   exact ⟨F, decide (a.2 < b.2), rfl, hK, hS, hM⟩
  ·
   replace hM := hM.2 (of_decide_eq_false c_2)
   refine HO.past (pby rfl rfl c_2) rfl ?_
   refine HO.past (pby rfl rfl c_2) rfl ?_
   refine HO.past (pby rfl rfl c_2) rfl ?_
   refine HO.past (pby rfl rfl c_2) rfl ?_
   refine HO.past (pby rfl rfl c_2) rfl ?_
   refine HO.val (v := .bool false) (wby rfl rfl c_1) rfl (q_pickK false rfl c_2 rfl) ?_
   refine oV (.bool false) (q_pickK false rfl c_1 rfl) rfl ?_
   refine oA (.bool false) rfl rfl ?_
   refine HO.nil (tqn (?_))
   refine HW.ret (?_)
   refine ⟨.inr rfl, .bool false, res1 rfl (rt rfl), ?_⟩
   replace hS : St F (fr) h_2 := hS.perm2 [] 2 rfl rfl
   exact ⟨F, false, rfl, hK, hS, hM⟩
def ref32_Sorted_j1 (l : List TB) (out_1 : List TB) (i_1 : Int) (K_1 : (List TB) → Int → Prop) (n_1 : Int) : Prop :=
 ((0 : Int) ≤ n_1 ∧ n_1 ≤ (out_1.length : Int)) ∧ (((0 : Int) ≤ i_1 ∧ i_1 < (l.length : Int)) ∧ (((0 : Int) ≤ 0 ∧ 0 ≤ n_1 ∧ n_1 ≤ (out_1.length : Int)) ∧ (((([] : List TB).length + (cut out_1 0 n_1).length) * 16 ≤ 140737488355328) ∧ ((((([] : List TB) ++ (cut out_1 0 n_1)).length + ([(gi l i_1)] : List TB).length) * 16 ≤ 140737488355328) ∧ (((0 : Int) ≤ n_1 ∧ n_1 ≤ (out_1.length : Int) ∧ (out_1.length : Int) ≤ (out_1.length : Int)) ∧ (((((([] : List TB) ++ (cut out_1 0 n_1)) ++ ([(gi l i_1)] : List TB)).length + (cut out_1 n_1 (out_1.length : Int)).length) * 16 ≤ 140737488355328) ∧ ((I64 (i_1 + 1)) ∧ (K_1 (((([] : List TB) ++ (cut out_1 0 n_1)) ++ ([(gi l i_1)] : List TB)) ++ (cut out_1 n_1 (out_1.length : Int))) (i_1 + 1)))))))))
def ref32_Sorted_l2 (l : List TB) (out_1 : List TB) (i_1 : Int) (K_1 : (List TB) → Int → Prop) (K_2 : Int → Prop) (n_2 : Int) : Prop :=
 (n_2 < (out_1.length : Int) → ((0 : Int) ≤ n_2 ∧ n_2 < (out_1.length : Int)) ∧ (((0 : Int) ≤ i_1 ∧ i_1 < (l.length : Int)) ∧ (ref32_less_W (gi out_1 n_2) (gi l i_1) (fun r_2 => (r_2 = true → (I64 (n_2 + 1)) ∧ (K_2 (n_2 + 1))) ∧ (r_2 = false → ref32_Sorted_j1 l out_1 i_1 K_1 n_2))))) ∧ (¬ (n_2 < (out_1.length : Int)) → ref32_Sorted_j1 l out_1 i_1 K_1 n_2)
def ref32_Sorted_l1 (l : List TB) (Q : (List TB) → Prop) (K_1 : (List TB) → Int → Prop) (out_1 : List TB) (i_1 : Int) : Prop :=
 (i_1 < (l.length : Int) → loopW (fun (K_2 : Int → Prop) (s : Int) => ref32_Sorted_l2 l out_1 i_1 K_1 K_2 s) 0) ∧ (¬ (i_1 < (l.length : Int)) → Q out_1)
def ref32_Sorted_W (l : List TB) (Q : (List TB) → Prop) : Prop :=
 loopW (fun (K_1 : (List TB × Int) → Prop) (s : List TB × Int) => ref32_Sorted_l1 l Q (fun out_1 i_1 => K_1 (out_1, i_1)) s.1 s.2) ([], 0)
theorem ref32_Sorted_walk {F : Fz} {fr : List Ow} {h0 : Heap} (l : List TB) (vl : Value) (hS : St F (fr) h0) (hL_l : SliceF F h0 2 eB vl l) {Q : (List TB) → Prop} (hM : ref32_Sorted_W l Q) :
  HC Tryz.prog 29 #[vl] h0 fun u h' => ∃ (F' : Fz) (r_1 : List TB) (vr_1 : Value), u = vr_1 ∧ Kp F h0 F' h' ∧ St F' (Ow.own 52 2 eB vr_1 r_1 :: fr) h' ∧ (SliceF F' h' 2 eB vl l) ∧ Q r_1 := by
 unfold ref32_Sorted_W at hM
 have hK := Kp.refl F h0
 refine HC.of_HW (n := 46) Tryz.func29 rfl rfl (Nat.le_of_ble_eq_true rfl) ?_
 refine HW.seq ?_
 refine HW.region ?_
 refine oA (.slice none 0 0) rfl rfl ?_
 refine HO.nil (tqn (?_))
 refine HW.seq ?_
 refine HW.region ?_
 refine HO.eff (wn) rfl (st_litEmpty (α := TB) eB hS tl_29) ?_
 rintro _ h_1 ⟨b_1, rfl, hS, hk⟩
 replace hK := hK.trans hk
 replace hL_l := hL_l.kp hk
 refine oA (.slice (some ⟨b_1, 0, none⟩) 0 0) rfl rfl ?_
 refine HO.nil (tqn (?_))
 refine HW.seq ?_
 refine HW.seq ?_
 refine HW.region ?_
 refine oA (.int .i64 0) rfl rfl ?_
 refine HO.nil (tqn (?_))
 refine HW.block ?_
 obtain ⟨I_1, m_1, hI_1, hR_1⟩ := hM
 refine HW.loop (S := List TB × Int) (fun s f h => match s with | (out_1, i_1) => ∃ (F' : Fz) (vout_1 : Value), f 0 = vl ∧ f 2 = .slice none 0 0 ∧ f 3 = vout_1 ∧ f 4 = .int .i64 i_1 ∧ Kp F h0 F' h ∧ St F' (Ow.own 52 2 eB vout_1 out_1 :: fr) h ∧ (SliceF F' h 2 eB vl l) ∧ I_1 (out_1, i_1)) m_1 ([], 0) ⟨F, .slice (some ⟨b_1, 0, none⟩) 0 0, rfl, rfl, rfl, rfl, hK, hS, hL_l, hI_1⟩ ?_
 rintro ⟨out_1, i_1⟩ f_1 h_2 ⟨F_1, vout_1, e0, e2, e3, e4, hK, hS, hL_l, hI0⟩
 obtain ⟨K_1, hKe_1⟩ : ∃ K : (List TB) → Int → Prop, K = fun out_1' i_1' => I_1 (out_1', i_1') ∧ m_1 (out_1', i_1') < m_1 (out_1, i_1) := ⟨_, rfl⟩
 have hM : ref32_Sorted_l1 l Q K_1 out_1 i_1 := by rw [hKe_1]; exact hR_1 (out_1, i_1) hI0
 unfold ref32_Sorted_l1 at hM
 refine HW.fr [(0, vl), (2, .slice none 0 0), (3, vout_1), (4, .int .i64 i_1)] ⟨e0, e2, e3, e4, trivial⟩ ?_
 refine HW.seq ?_
 refine HW.seq ?_
 refine HW.region ?_
 refine oM (.int .i64 i_1) rfl rfl ?_
 refine oM (vl) rfl rfl ?_
 refine oV (.int .i64 (l.length : Int)) (q_len ts_29 (shp hL_l.is) rfl rfl) rfl ?_
 refine oV (.bool (decide (i_1 < (l.length : Int)))) (q_lss rfl rfl) rfl ?_
 refine HO.nil (tqn (?_))
 refine HW.cond (decide (i_1 < (l.length : Int))) rfl (fun c_1 => ?_) (fun c_1 => ?_)
 ·
  replace hM := hM.1 (of_decide_eq_true c_1)
  refine HW.skip (tqn (?_))
  refine HW.seq ?_
  refine HW.block ?_
  refine HW.seq ?_
  refine HW.region ?_
  refine oA (.int .i64 0) rfl rfl ?_
  refine HO.nil (tqn (?_))
  refine HW.seq_mid (fun f h => ∃ (F' : Fz) (n_1 : Int), f 0 = vl ∧ f 2 = .slice none 0 0 ∧ f 3 = vout_1 ∧ f 4 = .int .i64 i_1 ∧ f 5 = .int .i64 n_1 ∧ Kp F h0 F' h ∧ St F' (Ow.own 52 2 eB vout_1 out_1 :: fr) h ∧ (SliceF F' h 2 eB vl l) ∧ ref32_Sorted_j1 l out_1 i_1 K_1 n_1) ?_ ?_
  ·
   refine HW.block ?_
   obtain ⟨I_2, m_2, hI_2, hR_2⟩ := hM
   refine HW.loop (S := Int) (fun n_2 f h => ∃ (F' : Fz), f 0 = vl ∧ f 2 = .slice none 0 0 ∧ f 3 = vout_1 ∧ f 4 = .int .i64 i_1 ∧ f 5 = .int .i64 n_2 ∧ Kp F h0 F' h ∧ St F' (Ow.own 52 2 eB vout_1 out_1 :: fr) h ∧ (SliceF F' h 2 eB vl l) ∧ I_2 n_2) m_2 0 ⟨F_1, rfl, rfl, rfl, rfl, rfl, hK, hS, hL_l, hI_2⟩ ?_
   rintro n_2 f_2 h_3 ⟨F_2, e0, e2, e3, e4, e5, hK, hS, hL_l, hI0⟩
   obtain ⟨K_2, hKe_2⟩ : ∃ K : Int → Prop, K = fun n_2' => I_2 n_2' ∧ m_2 n_2' < m_2 n_2 := ⟨_, rfl⟩
   have hM : ref32_Sorted_l2 l out_1 i_1 K_1 K_2 n_2 := by rw [hKe_2]; exact hR_2 n_2 hI0
   unfold ref32_Sorted_l2 at hM
   refine HW.fr [(0, vl), (2, .slice none 0 0), (3, vout_1), (4, .int .i64 i_1), (5, .int .i64 n_2)] ⟨e0, e2, e3, e4, e5, trivial⟩ ?_
   refine HW.seq ?_
   refine HW.seq ?_
   refine HW.regionA 15 mixed (fun h => (SliceIs h 2 eB vl l) ∧ (OwnIs h 0 52 2 eB vout_1 out_1)) [] (by kernel_rfl) ?_
   refine HA.val (k := 0) (v := .int .i64 n_2) rfl rfl (by kernel_rfl) (by kernel_rfl) (wn) rfl (fun _ ⟨hL_l, c405⟩ => q_move rfl) ?_
   refine HA.val (k := 1) (v := vout_1) rfl rfl (by kernel_rfl) (by kernel_rfl) (wn) rfl (fun _ ⟨hL_l, c405⟩ => q_move rfl) ?_
   refine HA.val (k := 2) (v := .int .i64 (out_1.length : Int)) rfl rfl (by kernel_rfl) (by kernel_rfl) (wn) rfl (fun _ ⟨hL_l, c405⟩ => q_len ts_29 (shp c405.slice) rfl rfl) ?_
   refine HA.val (k := 3) (v := .bool (decide (n_2 < (out_1.length : Int)))) rfl rfl (by kernel_rfl) (by kernel_rfl) (wn) rfl (fun _ ⟨hL_l, c405⟩ => q_lss rfl rfl) ?_
   refine HA.val (k := 4) (v := .bool (decide (n_2 < (out_1.length : Int)))) rfl rfl (by kernel_rfl) (by kernel_rfl) (wn) rfl (fun _ ⟨hL_l, c405⟩ => q_move rfl) ?_
   rcases Bool.eq_false_or_eq_true (decide (n_2 < (out_1.length : Int))) with c_2 | c_2
   ·
    replace hM := hM.1 (of_decide_eq_true c_2)
    refine HA.val (k := 5) (v := vout_1) rfl rfl (by kernel_rfl) (by kernel_rfl) (wby rfl rfl c_2) rfl (fun _ ⟨hL_l, c405⟩ => q_move rfl) ?_
    refine HA.val (k := 6) (v := .int .i64 n_2) rfl rfl (by kernel_rfl) (by kernel_rfl) (wby rfl rfl c_2) rfl (fun _ ⟨hL_l, c405⟩ => q_move rfl) ?_
    obtain ⟨ho_1, hM⟩ := hM
    refine HA.val (k := 7) (v := elemPtr 2 vout_1 (n_2).toNat) rfl rfl (by kernel_rfl) (by kernel_rfl) (wby rfl rfl c_2) rfl (fun _ ⟨hL_l, c405⟩ => q_idx ts_29 c405.slice rfl rfl ho_1) ?_
    refine HA.val (k := 8) (v := .agg #[.int .i64 ((gi out_1 n_2).1), .int .i64 ((gi out_1 n_2).2)]) rfl rfl (by kernel_rfl) (by kernel_rfl) (wby rfl rfl c_2) rfl (fun _ ⟨hL_l, c405⟩ => q_ldElemAgg (cs := [.int .i64 ((gi out_1 n_2).1), .int .i64 ((gi out_1 n_2).2)]) ta_52 c405.slice rfl ho_1 rfl) ?_
    refine HA.val (k := 9) (v := vl) rfl rfl (by kernel_rfl) (by kernel_rfl) (wby rfl rfl c_2) rfl (fun _ ⟨hL_l, c405⟩ => q_move rfl) ?_
    refine HA.val (k := 10) (v := .int .i64 i_1) rfl rfl (by kernel_rfl) (by kernel_rfl) (wby rfl rfl c_2) rfl (fun _ ⟨hL_l, c405⟩ => q_move rfl) ?_
    obtain ⟨ho_2, hM⟩ := hM
    refine HA.val (k := 11) (v := elemPtr 2 vl (i_1).toNat) rfl rfl (by kernel_rfl) (by kernel_rfl) (wby rfl rfl c_2) rfl (fun _ ⟨hL_l, c405⟩ => q_idx ts_29 hL_l rfl rfl ho_2) ?_
    refine HA.val (k := 12) (v := .agg #[.int .i64 ((gi l i_1).1), .int .i64 ((gi l i_1).2)]) rfl rfl (by kernel_rfl) (by kernel_rfl) (wby rfl rfl c_2) rfl (fun _ ⟨hL_l, c405⟩ => q_ldElemAgg (cs := [.int .i64 ((gi l i_1).1), .int .i64 ((gi l i_1).2)]) ta_52 hL_l rfl ho_2 rfl) ?_
    refine HA.one (k := 13) ⟨⟨hL_l.is, (hS.own 0 rfl)⟩, (Go.Wk.at_nil _ _)⟩ (by kernel_rfl) ?_
    refine HS.call rfl (wby rfl rfl c_2) rfl (ec en_52 rfl rfl) (ref32_less_walk (fr := (Ow.own 52 2 eB vout_1 out_1 :: fr)) (gi out_1 n_2) (gi l i_1) hS hM) ?_
    rintro _ h_4 ⟨F_3, r_2, rfl, hk, hS, hM⟩
    replace hK := hK.trans hk
    replace hL_l := hL_l.kp hk
    refine HA.val (k := 14) (v := .bool r_2) rfl rfl (by kernel_rfl) (by kernel_rfl) (wn) rfl (fun _ ⟨hL_l, c405⟩ => q_pickK true rfl c_2 rfl) ?_
    refine HA.nil ⟨⟨hL_l.is, (hS.own 0 rfl)⟩, (Go.Wk.at_nil _ _)⟩ (by kernel_rfl) (tqn (?_))
    refine HW.cond r_2 rfl (fun c_3 => ?_) (fun c_3 => ?_)
    ·
     replace hM := hM.1 c_3
     refine HW.skip (tqn (?_))
     refine HW.block ?_
     refine HW.region ?_
     refine oM (.int .i64 n_2) rfl rfl ?_
     obtain ⟨ho_3, hM⟩ := hM
     refine oV (.int .i64 (n_2 + 1)) (q_addN _ rfl rfl rfl ho_3.1 ho_3.2) rfl ?_
     refine oA (.int .i64 (n_2 + 1)) rfl rfl ?_
     refine HO.nil (blockQ_normal (tqn (?_)))
     rw [hKe_2] at hM
     exact ⟨n_2 + 1, ⟨F_3, rfl, rfl, rfl, rfl, rfl, hK, hS, hL_l, hM.1⟩, hM.2⟩
    ·
     replace hM := hM.2 c_3
     refine HW.exit (thenQ_exit (thenQ_exit (blockQ_exit (tqn (?_)))))
     exact ⟨F_3, n_2, rfl, rfl, rfl, rfl, rfl, hK, hS, hL_l, hM⟩
   ·
    replace hM := hM.2 (of_decide_eq_false c_2)
    refine HA.past (k := 5) rfl rfl (by kernel_rfl) (by kernel_rfl) (pby rfl rfl c_2) rfl ?_
    refine HA.past (k := 6) rfl rfl (by kernel_rfl) (by kernel_rfl) (pby rfl rfl c_2) rfl ?_
    refine HA.past (k := 7) rfl rfl (by kernel_rfl) (by kernel_rfl) (pby rfl rfl c_2) rfl ?_
    refine HA.past (k := 8) rfl rfl (by kernel_rfl) (by kernel_rfl) (pby rfl rfl c_2) rfl ?_
    refine HA.past (k := 9) rfl rfl (by kernel_rfl) (by kernel_rfl) (pby rfl rfl c_2) rfl ?_
    refine HA.past (k := 10) rfl rfl (by kernel_rfl) (by kernel_rfl) (pby rfl rfl c_2) rfl ?_
    refine HA.past (k := 11) rfl rfl (by kernel_rfl) (by kernel_rfl) (pby rfl rfl c_2) rfl ?_
    refine HA.past (k := 12) rfl rfl (by kernel_rfl) (by kernel_rfl) (pby rfl rfl c_2) rfl ?_
    refine HA.one (k := 13) ⟨⟨hL_l.is, (hS.own 0 rfl)⟩, (Go.Wk.at_nil _ _)⟩ (by kernel_rfl) ?_
    refine HS.past rfl (pby rfl rfl c_2) rfl ?_
    refine HA.val (k := 14) (v := .bool false) rfl rfl (by kernel_rfl) (by kernel_rfl) (wn) rfl (fun _ ⟨hL_l, c405⟩ => q_pickK false rfl c_2 rfl) ?_
    refine HA.nil ⟨⟨hL_l.is, (hS.own 0 rfl)⟩, (Go.Wk.at_nil _ _)⟩ (by kernel_rfl) (tqn (?_))
    refine HW.condF rfl ?_
    refine HW.exit (thenQ_exit (thenQ_exit (blockQ_exit (tqn (?_)))))
    exact ⟨F_2, n_2, rfl, rfl, rfl, rfl, rfl, hK, hS, hL_l, hM⟩
  ·
   rintro f_3 h_5 ⟨F_4, n_1, e0, e2, e3, e4, e5, hK, hS, hL_l, hM⟩
   unfold ref32_Sorted_j1 at hM
   refine HW.fr [(0, vl), (2, .slice none 0 0), (3, vout_1), (4, .int .i64 i_1), (5, .int .i64 n_1)] ⟨e0, e2, e3, e4, e5, trivial⟩ ?_
   obtain ⟨ho_4, hM⟩ := hM
   obtain ⟨ho_5, hM⟩ := hM
   obtain ⟨ho_6, hM⟩ := hM
   obtain ⟨ho_7, hM⟩ := hM
   obtain ⟨ho_8, hM⟩ := hM
   obtain ⟨ho_9, hM⟩ := hM
   obtain ⟨ho_10, hM⟩ := hM
   refine HW.regionA 16 mixed (fun h => (SliceIs h 2 eB vl l) ∧ (OwnIs h 0 52 2 eB vout_1 out_1)) [] (by kernel_rfl) ?_
   refine HA.val (k := 1) (v := vout_1) rfl rfl (by kernel_rfl) (by kernel_rfl) (wn) rfl (fun _ ⟨hL_l, c304⟩ => q_move rfl) ?_
   refine HA.val (k := 2) (v := .int .i64 n_1) rfl rfl (by kernel_rfl) (by kernel_rfl) (wn) rfl (fun _ ⟨hL_l, c304⟩ => q_move rfl) ?_
   refine HA.val (k := 3) (v := cutV 2 vout_1 (0 : Int).toNat (n_1).toNat) rfl rfl (by kernel_rfl) (by kernel_rfl) (wn) rfl (fun _ ⟨hL_l, c304⟩ => q_slH ts_29 c304.slice rfl rfl ho_4) ?_
   refine HA.val (k := 5) (v := vl) rfl rfl (by kernel_rfl) (by kernel_rfl) (wn) rfl (fun _ ⟨hL_l, c304⟩ => q_move rfl) ?_
   refine HA.val (k := 6) (v := .int .i64 i_1) rfl rfl (by kernel_rfl) (by kernel_rfl) (wn) rfl (fun _ ⟨hL_l, c304⟩ => q_move rfl) ?_
   refine HA.val (k := 7) (v := elemPtr 2 vl (i_1).toNat) rfl rfl (by kernel_rfl) (by kernel_rfl) (wn) rfl (fun _ ⟨hL_l, c304⟩ => q_idx ts_29 hL_l rfl rfl ho_5) ?_
   refine HA.val (k := 8) (v := .agg #[.int .i64 ((gi l i_1).1), .int .i64 ((gi l i_1).2)]) rfl rfl (by kernel_rfl) (by kernel_rfl) (wn) rfl (fun _ ⟨hL_l, c304⟩ => q_ldElemAgg (cs := [.int .i64 ((gi l i_1).1), .int .i64 ((gi l i_1).2)]) ta_52 hL_l rfl ho_5 rfl) ?_
   refine HA.val (k := 11) (v := vout_1) rfl rfl (by kernel_rfl) (by kernel_rfl) (wn) rfl (fun _ ⟨hL_l, c304⟩ => q_move rfl) ?_
   refine HA.val (k := 12) (v := .int .i64 n_1) rfl rfl (by kernel_rfl) (by kernel_rfl) (wn) rfl (fun _ ⟨hL_l, c304⟩ => q_move rfl) ?_
   refine HA.val (k := 13) (v := cutV 2 vout_1 (n_1).toNat ((out_1.length : Int)).toNat) rfl rfl (by kernel_rfl) (by kernel_rfl) (wn) rfl (fun _ ⟨hL_l, c304⟩ => q_slL ts_29 c304.slice rfl rfl ho_4) ?_
   refine HA.two (k := 0) (k' := 9) ⟨⟨hL_l.is, (hS.own 0 rfl)⟩, (Go.Wk.at_nil _ _)⟩ (by kernel_rfl) ?_ ?_
   ·
    refine HS.eff rfl (wn) rfl (st_litEmpty (α := TB) eB hS tl_29) ?_
    rintro _ h_6 ⟨b_2, rfl, hS, hk⟩
    replace hK := hK.trans hk
    replace hL_l := hL_l.kp hk
    refine HA.two (k := 4) (k' := 9) ⟨⟨hL_l.is, (hS.own 1 rfl)⟩, (Go.Wk.at_nil _ _)⟩ (by kernel_rfl) ?_ ?_
    ·
     refine HS.eff rfl (wn) rfl (st_append te_29 hS (i := 0) rfl (cutIs (hS.own 1 rfl).slice 0 n_1 ho_6.1 ho_6.2.1 ho_6.2.2) rfl rfl rfl (by intro a _ u hu; simp [eB, encI, encN, encB, encT] at hu; rcases hu with rfl | rfl <;> rfl) ho_7 (by omega)) ?_
     rintro v_1 h_7 ⟨hS, hk⟩
     replace hK := hK.trans hk
     replace hL_l := hL_l.kp hk
     refine HA.one (k := 9) ⟨⟨hL_l.is, (hS.own 1 rfl)⟩, (Go.Wk.at_nil _ _)⟩ (by kernel_rfl) ?_
     refine HS.eff rfl (wn) rfl (st_lit (enc := eB) (cells := #[.int .i64 ((gi l i_1).1), .int .i64 ((gi l i_1).2)]) #[.int .i64 0, .int .i64 0] ([(gi l i_1)] : List TB) hS tl_29 (by decide) (by decide) (by kernel_rfl) (by kernel_rfl) rfl (by intro x hx; rfl) rfl) ?_
     rintro _ h_8 ⟨b_3, rfl, hS, hk⟩
     replace hK := hK.trans hk
     replace hL_l := hL_l.kp hk
     refine HA.one (k := 10) ⟨⟨hL_l.is, (hS.own 2 rfl)⟩, (Go.Wk.at_nil _ _)⟩ (by kernel_rfl) ?_
     refine HS.eff rfl (wn) rfl (st_append te_29 hS (i := 1) rfl (hS.own 0 rfl).slice rfl rfl rfl (by intro a _ u hu; simp [eB, encI, encN, encB, encT] at hu; rcases hu with rfl | rfl <;> rfl) ho_8 (by omega)) ?_
     rintro v_2 h_9 ⟨hS, hk⟩
     replace hK := hK.trans hk
     replace hL_l := hL_l.kp hk
     refine HA.one (k := 14) ⟨⟨hL_l.is, (hS.own 2 rfl)⟩, (Go.Wk.at_nil _ _)⟩ (by kernel_rfl) ?_
     refine HS.eff rfl (wn) rfl (st_append te_29 hS (i := 1) rfl (cutIs (hS.own 2 rfl).slice n_1 (out_1.length : Int) ho_9.1 ho_9.2.1 ho_9.2.2) rfl rfl rfl (by intro a _ u hu; simp [eB, encI, encN, encB, encT] at hu; rcases hu with rfl | rfl <;> rfl) ho_10 (by omega)) ?_
     rintro v_3 h_10 ⟨hS, hk⟩
     replace hK := hK.trans hk
     replace hL_l := hL_l.kp hk
     refine HA.val (k := 15) (v := v_3) rfl rfl (by kernel_rfl) (by kernel_rfl) (wn) rfl (fun _ ⟨hL_l, c304⟩ => q_assign rfl) ?_
     refine HA.nil ⟨⟨hL_l.is, (hS.own 2 rfl)⟩, (Go.Wk.at_nil _ _)⟩ (by kernel_rfl) (blockQ_normal (tqn (?_)))
     refine HW.region ?_
     refine oM (.int .i64 i_1) rfl rfl ?_
     obtain ⟨ho_11, hM⟩ := hM
     refine oV (.int .i64 (i_1 + 1)) (q_addN _ rfl rfl rfl ho_11.1 ho_11.2) rfl ?_
     refine oA (.int .i64 (i_1 + 1)) rfl rfl ?_
     refine HO.nil (tqn (?_))
     replace hS : St F_4 (Ow.own 52 2 eB v_3 (((([] : List TB) ++ (cut out_1 0 n_1)) ++ ([(gi l i_1)] : List TB)) ++ (cut out_1 n_1 (out_1.length : Int))) :: fr) h_10 := hS.perm2 [1] 3 rfl rfl
     rw [hKe_1] at hM
     exact ⟨(((([] : List TB) ++ (cut out_1 0 n_1)) ++ ([(gi l i_1)] : List TB)) ++ (cut out_1 n_1 (out_1.length : Int)), i_1 + 1), ⟨F_4, v_3, rfl, rfl, rfl, rfl, hK, hS, hL_l, hM.1⟩, hM.2⟩
    ·
     refine HS.eff rfl (wn) rfl (st_lit (enc := eB) (cells := #[.int .i64 ((gi l i_1).1), .int .i64 ((gi l i_1).2)]) #[.int .i64 0, .int .i64 0] ([(gi l i_1)] : List TB) hS tl_29 (by decide) (by decide) (by kernel_rfl) (by kernel_rfl) rfl (by intro x hx; rfl) rfl) ?_
     rintro _ h_7 ⟨b_3, rfl, hS, hk⟩
     replace hK := hK.trans hk
     replace hL_l := hL_l.kp hk
     refine HA.one (k := 4) ⟨⟨hL_l.is, (hS.own 2 rfl)⟩, (Go.Wk.at_nil _ _)⟩ (by kernel_rfl) ?_
     refine HS.eff rfl (wn) rfl (st_append te_29 hS (i := 1) rfl (cutIs (hS.own 2 rfl).slice 0 n_1 ho_6.1 ho_6.2.1 ho_6.2.2) rfl rfl rfl (by intro a _ u hu; simp [eB, encI, encN, encB, encT] at hu; rcases hu with rfl | rfl <;> rfl) ho_7 (by omega)) ?_
     rintro v_1 h_8 ⟨hS, hk⟩
     replace hK := hK.trans hk
     replace hL_l := hL_l.kp hk
     refine HA.one (k := 10) ⟨⟨hL_l.is, (hS.own 2 rfl)⟩, (Go.Wk.at_nil _ _)⟩ (by kernel_rfl) ?_
     refine HS.eff rfl (wn) rfl (st_append te_29 hS (i := 1) rfl (hS.own 0 rfl).slice rfl rfl rfl (by intro a _ u hu; simp [eB, encI, encN, encB, encT] at hu; rcases hu with rfl | rfl <;> rfl) ho_8 (by omega)) ?_
     rintro v_2 h_9 ⟨hS, hk⟩
     replace hK := hK.trans hk
     replace hL_l := hL_l.kp hk
     refine HA.one (k := 14) ⟨⟨hL_l.is, (hS.own 2 rfl)⟩, (Go.Wk.at_nil _ _)⟩ (by kernel_rfl) ?_
     refine HS.eff rfl (wn) rfl (st_append te_29 hS (i := 1) rfl (cutIs (hS.own 2 rfl).slice n_1 (out_1.length : Int) ho_9.1 ho_9.2.1 ho_9.2.2) rfl rfl rfl (by intro a _ u hu; simp [eB, encI, encN, encB, encT] at hu; rcases hu with rfl | rfl <;> rfl) ho_10 (by omega)) ?_
     rintro v_3 h_10 ⟨hS, hk⟩
     replace hK := hK.trans hk
     replace hL_l := hL_l.kp hk
     refine HA.val (k := 15) (v := v_3) rfl rfl (by kernel_rfl) (by kernel_rfl) (wn) rfl (fun _ ⟨hL_l, c304⟩ => q_assign rfl) ?_
     refine HA.nil ⟨⟨hL_l.is, (hS.own 2 rfl)⟩, (Go.Wk.at_nil _ _)⟩ (by kernel_rfl) (blockQ_normal (tqn (?_)))
     refine HW.region ?_
     refine oM (.int .i64 i_1) rfl rfl ?_
     obtain ⟨ho_11, hM⟩ := hM
     refine oV (.int .i64 (i_1 + 1)) (q_addN _ rfl rfl rfl ho_11.1 ho_11.2) rfl ?_
     refine oA (.int .i64 (i_1 + 1)) rfl rfl ?_
     refine HO.nil (tqn (?_))
     replace hS : St F_4 (Ow.own 52 2 eB v_3 (((([] : List TB) ++ (cut out_1 0 n_1)) ++ ([(gi l i_1)] : List TB)) ++ (cut out_1 n_1 (out_1.length : Int))) :: fr) h_10 := hS.perm2 [1] 3 rfl rfl
     rw [hKe_1] at hM
     exact ⟨(((([] : List TB) ++ (cut out_1 0 n_1)) ++ ([(gi l i_1)] : List TB)) ++ (cut out_1 n_1 (out_1.length : Int)), i_1 + 1), ⟨F_4, v_3, rfl, rfl, rfl, rfl, hK, hS, hL_l, hM.1⟩, hM.2⟩
   ·
    refine HS.eff rfl (wn) rfl (st_lit (enc := eB) (cells := #[.int .i64 ((gi l i_1).1), .int .i64 ((gi l i_1).2)]) #[.int .i64 0, .int .i64 0] ([(gi l i_1)] : List TB) hS tl_29 (by decide) (by decide) (by kernel_rfl) (by kernel_rfl) rfl (by intro x hx; rfl) rfl) ?_
    rintro _ h_6 ⟨b_2, rfl, hS, hk⟩
    replace hK := hK.trans hk
    replace hL_l := hL_l.kp hk
    refine HA.one (k := 0) ⟨⟨hL_l.is, (hS.own 1 rfl)⟩, (Go.Wk.at_nil _ _)⟩ (by kernel_rfl) ?_
    refine HS.eff rfl (wn) rfl (st_litEmpty (α := TB) eB hS tl_29) ?_
    rintro _ h_7 ⟨b_3, rfl, hS, hk⟩
    replace hK := hK.trans hk
    replace hL_l := hL_l.kp hk
    refine HA.one (k := 4) ⟨⟨hL_l.is, (hS.own 2 rfl)⟩, (Go.Wk.at_nil _ _)⟩ (by kernel_rfl) ?_
    refine HS.eff rfl (wn) rfl (st_append te_29 hS (i := 0) rfl (cutIs (hS.own 2 rfl).slice 0 n_1 ho_6.1 ho_6.2.1 ho_6.2.2) rfl rfl rfl (by intro a _ u hu; simp [eB, encI, encN, encB, encT] at hu; rcases hu with rfl | rfl <;> rfl) ho_7 (by omega)) ?_
    rintro v_1 h_8 ⟨hS, hk⟩
    replace hK := hK.trans hk
    replace hL_l := hL_l.kp hk
    refine HA.one (k := 10) ⟨⟨hL_l.is, (hS.own 2 rfl)⟩, (Go.Wk.at_nil _ _)⟩ (by kernel_rfl) ?_
    refine HS.eff rfl (wn) rfl (st_append te_29 hS (i := 0) rfl (hS.own 1 rfl).slice rfl rfl rfl (by intro a _ u hu; simp [eB, encI, encN, encB, encT] at hu; rcases hu with rfl | rfl <;> rfl) ho_8 (by omega)) ?_
    rintro v_2 h_9 ⟨hS, hk⟩
    replace hK := hK.trans hk
    replace hL_l := hL_l.kp hk
    refine HA.one (k := 14) ⟨⟨hL_l.is, (hS.own 2 rfl)⟩, (Go.Wk.at_nil _ _)⟩ (by kernel_rfl) ?_
    refine HS.eff rfl (wn) rfl (st_append te_29 hS (i := 0) rfl (cutIs (hS.own 2 rfl).slice n_1 (out_1.length : Int) ho_9.1 ho_9.2.1 ho_9.2.2) rfl rfl rfl (by intro a _ u hu; simp [eB, encI, encN, encB, encT] at hu; rcases hu with rfl | rfl <;> rfl) ho_10 (by omega)) ?_
    rintro v_3 h_10 ⟨hS, hk⟩
    replace hK := hK.trans hk
    replace hL_l := hL_l.kp hk
    refine HA.val (k := 15) (v := v_3) rfl rfl (by kernel_rfl) (by kernel_rfl) (wn) rfl (fun _ ⟨hL_l, c304⟩ => q_assign rfl) ?_
    refine HA.nil ⟨⟨hL_l.is, (hS.own 2 rfl)⟩, (Go.Wk.at_nil _ _)⟩ (by kernel_rfl) (blockQ_normal (tqn (?_)))
    refine HW.region ?_
    refine oM (.int .i64 i_1) rfl rfl ?_
    obtain ⟨ho_11, hM⟩ := hM
    refine oV (.int .i64 (i_1 + 1)) (q_addN _ rfl rfl rfl ho_11.1 ho_11.2) rfl ?_
    refine oA (.int .i64 (i_1 + 1)) rfl rfl ?_
    refine HO.nil (tqn (?_))
    replace hS : St F_4 (Ow.own 52 2 eB v_3 (((([] : List TB) ++ (cut out_1 0 n_1)) ++ ([(gi l i_1)] : List TB)) ++ (cut out_1 n_1 (out_1.length : Int))) :: fr) h_10 := hS.perm2 [0] 3 rfl rfl
    rw [hKe_1] at hM
    exact ⟨(((([] : List TB) ++ (cut out_1 0 n_1)) ++ ([(gi l i_1)] : List TB)) ++ (cut out_1 n_1 (out_1.length : Int)), i_1 + 1), ⟨F_4, v_3, rfl, rfl, rfl, rfl, hK, hS, hL_l, hM.1⟩, hM.2⟩
 ·
  replace hM := hM.2 (of_decide_eq_false c_1)
  refine HW.exit (thenQ_exit (thenQ_exit (blockQ_exit (tqn (?_)))))
  refine HW.seq ?_
  refine HW.region ?_
  refine oM (vout_1) rfl rfl ?_
  refine oA (vout_1) rfl rfl ?_
  refine HO.nil (tqn (?_))
  refine HW.ret (?_)
  refine ⟨.inr rfl, vout_1, res1 rfl (rt rfl), ?_⟩
  exact ⟨F_1, out_1, vout_1, rfl, hK, hS, hL_l, hM⟩
def ref33_Star_l1 (root : Int) (members : List Int) (Q : Int → (List TB) → Prop) (K_1 : (List TB) → Int → Prop) (t_1_1 : List TB) (i_1 : Int) : Prop :=
 (i_1 < (members.length : Int) → ((0 : Int) ≤ i_1 ∧ i_1 < (members.length : Int)) ∧ (((t_1_1.length + ([(root, (gi members i_1))] : List TB).length) * 16 ≤ 140737488355328) ∧ ((I64 (i_1 + 1)) ∧ (K_1 (t_1_1 ++ ([(root, (gi members i_1))] : List TB)) (i_1 + 1))))) ∧ (¬ (i_1 < (members.length : Int)) → ref32_Sorted_W t_1_1 (fun r_1 => Q root r_1))
def ref33_Star_W (root : Int) (members : List Int) (Q : Int → (List TB) → Prop) : Prop :=
 loopW (fun (K_1 : (List TB × Int) → Prop) (s : List TB × Int) => ref33_Star_l1 root members Q (fun t_1_1 i_1 => K_1 (t_1_1, i_1)) s.1 s.2) ([], 0)
theorem ref33_Star_walk {F : Fz} {fr : List Ow} {h0 : Heap} (root : Int) (members : List Int) (vmembers : Value) (hS : St F (fr) h0) (hLm : SliceF F h0 1 encI vmembers members) {Q : Int → (List TB) → Prop} (hM : ref33_Star_W root members Q) :
  HC Tryz.prog 28 #[.int .i64 root, vmembers] h0 fun u h' => ∃ (F' : Fz) (r_0_1 : Int) (r_1_1 : List TB) (vr_1_1 : Value), u = .agg #[.int .i64 r_0_1, vr_1_1] ∧ Kp F h0 F' h' ∧ St F' (Ow.own 52 2 eB vr_1_1 r_1_1 :: fr) h' ∧ (SliceF F' h' 1 encI vmembers members) ∧ Q r_0_1 r_1_1 := by
 unfold ref33_Star_W at hM
 have hK := Kp.refl F h0
 refine HC.of_HW (n := 31) Tryz.func28 rfl rfl (Nat.le_of_ble_eq_true rfl) ?_
 refine HW.seq ?_
 refine HW.region ?_
 refine HO.eff (wn) rfl (st_alloc (c := #[.int .i64 0, .slice none 0 0]) hS tz_31 rfl) ?_
 rintro _ h_1 ⟨b_1, rfl, hS, hk⟩
 replace hK := hK.trans hk
 replace hLm := hLm.kp hk
 refine HO.nil (tqn (?_))
 refine HW.seq ?_
 refine HW.region ?_
 refine oM (.int .i64 root) rfl rfl ?_
 refine oV (.agg #[.int .i64 root, .slice none 0 0]) (q_build tp_31 rfl) rfl ?_
 refine HO.eff (wn) rfl (st_alloc (c := #[.int .i64 0, .slice none 0 0]) hS tz_31 rfl) ?_
 rintro _ h_2 ⟨b_2, rfl, hS, hk⟩
 replace hK := hK.trans hk
 replace hLm := hLm.kp hk
 refine HO.sto (wn) rfl (st_storeAgg (c' := #[.int .i64 root, .slice none 0 0]) hS (i := 0) rfl ta_31 rfl rfl rfl (by simp [Value.oneCell']) (Nat.le_of_ble_eq_true rfl) rfl) ?_
 rintro h_3 ⟨hS, hk⟩
 replace hK := hK.trans hk
 replace hLm := hLm.kp hk
 refine HO.nil (tqn (?_))
 refine HW.seq ?_
 refine HW.seq ?_
 refine HW.region ?_
 refine oA (.int .i64 0) rfl rfl ?_
 refine HO.nil (tqn (?_))
 refine HW.block ?_
 obtain ⟨I_1, m_1, hI_1, hR_1⟩ := hM
 replace hS := hS.nilOwn 52 2 eB
 replace hS : St F (Ow.box b_1 31 #[.int .i64 0, .slice none 0 0] :: Ow.box b_2 31 #[.int .i64 root, .slice none 0 0] :: Ow.own 52 2 eB (.slice none 0 0) ([] : List TB) :: fr) h_3 := hS.perm2 [2, 1, 0] 3 rfl rfl
 refine HW.loop (S := List TB × Int) (fun s f h => match s with | (t_1_1, i_1) => ∃ (F' : Fz) (vt_1_1 : Value), f 0 = .int .i64 root ∧ f 1 = vmembers ∧ f 4 = .pointer (some ⟨b_1, 0, none⟩) ∧ f 5 = .pointer (some ⟨b_2, 0, none⟩) ∧ f 6 = .int .i64 i_1 ∧ Kp F h0 F' h ∧ St F' (Ow.box b_1 31 #[.int .i64 0, .slice none 0 0] :: Ow.box b_2 31 #[.int .i64 root, vt_1_1] :: Ow.own 52 2 eB vt_1_1 t_1_1 :: fr) h ∧ (SliceF F' h 1 encI vmembers members) ∧ I_1 (t_1_1, i_1)) m_1 ([], 0) ⟨F, .slice none 0 0, rfl, rfl, rfl, rfl, rfl, hK, hS, hLm, hI_1⟩ ?_
 rintro ⟨t_1_1, i_1⟩ f_1 h_4 ⟨F_1, vt_1_1, e0, e1, e4, e5, e6, hK, hS, hLm, hI0⟩
 obtain ⟨K_1, hKe_1⟩ : ∃ K : (List TB) → Int → Prop, K = fun t_1_1' i_1' => I_1 (t_1_1', i_1') ∧ m_1 (t_1_1', i_1') < m_1 (t_1_1, i_1) := ⟨_, rfl⟩
 have hM : ref33_Star_l1 root members Q K_1 t_1_1 i_1 := by rw [hKe_1]; exact hR_1 (t_1_1, i_1) hI0
 unfold ref33_Star_l1 at hM
 refine HW.fr [(0, .int .i64 root), (1, vmembers), (4, .pointer (some ⟨b_1, 0, none⟩)), (5, .pointer (some ⟨b_2, 0, none⟩)), (6, .int .i64 i_1)] ⟨e0, e1, e4, e5, e6, trivial⟩ ?_
 refine HW.seq ?_
 refine HW.seq ?_
 refine HW.region ?_
 refine oM (.int .i64 i_1) rfl rfl ?_
 refine oM (vmembers) rfl rfl ?_
 refine oV (.int .i64 (members.length : Int)) (q_len ts_22 (shp hLm.is) rfl rfl) rfl ?_
 refine oV (.bool (decide (i_1 < (members.length : Int)))) (q_lss rfl rfl) rfl ?_
 refine HO.nil (tqn (?_))
 refine HW.cond (decide (i_1 < (members.length : Int))) rfl (fun c_1 => ?_) (fun c_1 => ?_)
 ·
  replace hM := hM.1 (of_decide_eq_true c_1)
  refine HW.skip (tqn (?_))
  refine HW.seq ?_
  refine HW.block ?_
  refine HW.regionA 12 mixed (fun h => (SliceIs h 1 encI vmembers members)) [(11, fun h => (Blk h b_2 (.cells #[.int .i64 root, vt_1_1] 31 (0, 0))))] (by kernel_rfl) ?_
  refine HA.val (k := 0) (v := .pointer (some ⟨b_2, 1, none⟩)) rfl rfl (by kernel_rfl) (by kernel_rfl) (wn) rfl (fun _ hLm => qfA fa_31_1 rfl rfl) ?_
  refine Go.Wk.HA.valN (k := 1) (v := vt_1_1) 0 11 (fun h => (Blk h b_2 (.cells #[.int .i64 root, vt_1_1] 31 (0, 0)))) rfl rfl (by kernel_rfl) (by kernel_rfl) (wn) rfl rfl (by kernel_rfl) (fun _ hLm c355 => q_load to_29 rfl (Blk.cell c355 rfl)) ?_
  refine HA.val (k := 2) (v := .int .i64 root) rfl rfl (by kernel_rfl) (by kernel_rfl) (wn) rfl (fun _ hLm => q_move rfl) ?_
  refine HA.val (k := 3) (v := vmembers) rfl rfl (by kernel_rfl) (by kernel_rfl) (wn) rfl (fun _ hLm => q_move rfl) ?_
  refine HA.val (k := 4) (v := .int .i64 i_1) rfl rfl (by kernel_rfl) (by kernel_rfl) (wn) rfl (fun _ hLm => q_move rfl) ?_
  obtain ⟨ho_1, hM⟩ := hM
  refine HA.val (k := 5) (v := elemPtr 1 vmembers (i_1).toNat) rfl rfl (by kernel_rfl) (by kernel_rfl) (wn) rfl (fun _ hLm => q_idx ts_22 hLm rfl rfl ho_1) ?_
  refine HA.val (k := 6) (v := .int .i64 (gi members i_1)) rfl rfl (by kernel_rfl) (by kernel_rfl) (wn) rfl (fun _ hLm => q_ldElem to_3 hLm rfl ho_1 rfl) ?_
  refine HA.val (k := 7) (v := .agg #[.int .i64 root, .int .i64 (gi members i_1)]) rfl rfl (by kernel_rfl) (by kernel_rfl) (wn) rfl (fun _ hLm => q_build tp_52 rfl) ?_
  refine HA.one (k := 8) ⟨hLm.is, (at_now (hS.box 1 rfl) (Go.Wk.at_nil _ _))⟩ (by kernel_rfl) ?_
  refine HS.eff rfl (wn) rfl (st_lit (enc := eB) (cells := #[.int .i64 root, .int .i64 (gi members i_1)]) #[.int .i64 0, .int .i64 0] ([(root, (gi members i_1))] : List TB) hS tl_29 (by decide) (by decide) (by kernel_rfl) (by kernel_rfl) rfl (by intro x hx; rfl) rfl) ?_
  rintro _ h_5 ⟨b_3, rfl, hS, hk⟩
  replace hK := hK.trans hk
  replace hLm := hLm.kp hk
  refine HA.one (k := 9) ⟨hLm.is, (at_now (hS.box 2 rfl) (Go.Wk.at_nil _ _))⟩ (by kernel_rfl) ?_
  obtain ⟨ho_2, hM⟩ := hM
  refine HS.eff rfl (wn) rfl (st_append te_29 hS (i := 3) rfl (hS.own 0 rfl).slice rfl rfl rfl (by intro a _ u hu; simp [eB, encI, encN, encB, encT] at hu; rcases hu with rfl | rfl <;> rfl) ho_2 (by omega)) ?_
  rintro v_1 h_6 ⟨hS, hk⟩
  replace hK := hK.trans hk
  replace hLm := hLm.kp hk
  refine HA.val (k := 10) (v := .pointer (some ⟨b_2, 1, none⟩)) rfl rfl (by kernel_rfl) (by kernel_rfl) (wn) rfl (fun _ hLm => qfA fa_31_1 rfl rfl) ?_
  refine HA.one (k := 11) ⟨hLm.is, (at_now (hS.box 2 rfl) (Go.Wk.at_nil _ _))⟩ (by kernel_rfl) ?_
  refine HS.sto rfl (wn) rfl (st_store (c' := #[.int .i64 root, v_1]) hS (i := 2) rfl to_29 rfl rfl (shp (hS.own 3 rfl).slice).cells (shp (hS.own 3 rfl).slice).one (Nat.le_of_ble_eq_true rfl) rfl) ?_
  rintro h_7 ⟨hS, hk⟩
  replace hK := hK.trans hk
  replace hLm := hLm.kp hk
  refine HA.nil ⟨hLm.is, (at_done (by kernel_rfl) (Go.Wk.at_nil _ _))⟩ (by kernel_rfl) (blockQ_normal (tqn (?_)))
  refine HW.region ?_
  refine oM (.int .i64 i_1) rfl rfl ?_
  obtain ⟨ho_3, hM⟩ := hM
  refine oV (.int .i64 (i_1 + 1)) (q_addN _ rfl rfl rfl ho_3.1 ho_3.2) rfl ?_
  refine oA (.int .i64 (i_1 + 1)) rfl rfl ?_
  refine HO.nil (tqn (?_))
  replace hS : St F_1 (Ow.box b_1 31 #[.int .i64 0, .slice none 0 0] :: Ow.box b_2 31 #[.int .i64 root, v_1] :: Ow.own 52 2 eB v_1 (t_1_1 ++ ([(root, (gi members i_1))] : List TB)) :: fr) h_7 := hS.perm2 [1, 2, 3] 4 rfl rfl
  rw [hKe_1] at hM
  exact ⟨(t_1_1 ++ ([(root, (gi members i_1))] : List TB), i_1 + 1), ⟨F_1, v_1, rfl, rfl, rfl, rfl, rfl, hK, hS, hLm, hM.1⟩, hM.2⟩
 ·
  replace hM := hM.2 (of_decide_eq_false c_1)
  refine HW.exit (thenQ_exit (thenQ_exit (blockQ_exit (tqn (?_)))))
  refine HW.seq ?_
  refine HW.region ?_
  refine oV (.pointer (some ⟨b_2, 1, none⟩)) (qfA fa_31_1 rfl rfl) rfl ?_
  refine oV (vt_1_1) (q_load to_29 rfl (Blk.cell (hS.box 1 rfl) rfl)) rfl ?_
  replace hS : St F_1 (Ow.own 52 2 eB vt_1_1 t_1_1 :: Ow.box b_1 31 #[.int .i64 0, .slice none 0 0] :: Ow.box b_2 31 #[.int .i64 root, vt_1_1] :: fr) h_4 := hS.perm2 [2, 0, 1] 3 rfl rfl
  have hZ_1 := hS
  have hkz_1 := (hS.freeze).2
  replace hS := hS.freeze.1
  have hL_1 : SliceF (fun bz_ => F_1 bz_ ∨ (Ow.own 52 2 eB vt_1_1 t_1_1).foot bz_) h_4 2 eB vt_1_1 t_1_1 := ⟨(hZ_1.own 0 rfl).slice, fun _ b hb => .inr hb⟩
  refine HO.call (wn) rfl (ec en_29 rfl rfl) (ref32_Sorted_walk (fr := (Ow.box b_1 31 #[.int .i64 0, .slice none 0 0] :: Ow.box b_2 31 #[.int .i64 root, vt_1_1] :: fr)) t_1_1 vt_1_1 hS hL_1 hM) ?_
  rintro vr_1 h_8 ⟨F_2, r_1, _, rfl, hk, hS, _, hM⟩
  obtain ⟨hS, hk⟩ := hZ_1.back hk hS
  generalize (fun bz_ => F_2 bz_ ∧ ¬ (Ow.own 52 2 eB vt_1_1 t_1_1).foot bz_) = F_3 at hS hk
  replace hK := hK.trans hk
  replace hLm := hLm.kp hk
  refine oV (.pointer (some ⟨b_2, 1, none⟩)) (qfA fa_31_1 rfl rfl) rfl ?_
  refine HO.sto (wn) rfl (st_store (c' := #[.int .i64 root, vr_1]) hS (i := 3) rfl to_29 rfl rfl (shp (hS.own 1 rfl).slice).cells (shp (hS.own 1 rfl).slice).one (Nat.le_of_ble_eq_true rfl) rfl) ?_
  rintro h_9 ⟨hS, hk⟩
  replace hK := hK.trans hk
  replace hLm := hLm.kp hk
  refine HO.nil (tqn (?_))
  refine HW.seq ?_
  refine HW.region ?_
  refine oV (.agg #[.int .i64 root, vr_1]) (q_loadAgg (cs := [.int .i64 root, vr_1]) ta_31 rfl rfl (Blk.cells (k := 2) (hS.box 3 rfl) rfl)) rfl ?_
  refine HO.sto (wn) rfl (st_storeAgg (c' := #[.int .i64 root, vr_1]) hS (i := 2) rfl ta_31 rfl rfl rfl (List.forall_mem_cons.2 ⟨rfl, (List.forall_mem_cons.2 ⟨(shp (hS.own 1 rfl).slice).one, (fun _ h => by cases h)⟩)⟩) (Nat.le_of_ble_eq_true rfl) rfl) ?_
  rintro h_10 ⟨hS, hk⟩
  replace hK := hK.trans hk
  replace hLm := hLm.kp hk
  refine HO.nil (tqn (?_))
  refine HW.ret (?_)
  refine ⟨.inr rfl, .agg #[.int .i64 root, vr_1], res1 rfl (rca (cs := [.int .i64 root, vr_1]) ta_31 rfl rfl (Blk.cells (k := 2) (hS.box 2 rfl) rfl)), ?_⟩
  replace hS : St F_3 (Ow.own 52 2 eB vr_1 r_1 :: fr) h_10 := hS.perm2 [1] 4 rfl rfl
  exact ⟨F_3, root, r_1, vr_1, rfl, hK, hS, hLm, hM⟩
end Go.Wk
