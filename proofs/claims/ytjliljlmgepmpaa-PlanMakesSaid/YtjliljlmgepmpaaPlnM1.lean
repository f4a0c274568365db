/- The walk of PlanMakes. -/
import Derived.Test.YtjliljlmgepmpaaPlnB2
set_option linter.unusedSimpArgs false
set_option linter.unusedVariables false
set_option linter.unusedSectionVars false
namespace Go.Wk
open Go.HL
open Go.Proofs hiding encI
variable [DM]
theorem en_11 (args : Array Value) (w : World) : (callFunc 11 args).run Try.prog w = .ok (.enter 11 args) w := by kernel_rfl
theorem ta_39 : TAgg Try.prog 39 4 := ⟨Try.isAgg39, Try.sizeOf39⟩
theorem en_17 (args : Array Value) (w : World) : (callFunc 17 args).run Try.prog w = .ok (.enter 17 args) w := by kernel_rfl
theorem en_18 (args : Array Value) (w : World) : (callFunc 18 args).run Try.prog w = .ok (.enter 18 args) w := by kernel_rfl
theorem en_25 (args : Array Value) (w : World) : (callFunc 25 args).run Try.prog w = .ok (.enter 25 args) w := by kernel_rfl
theorem en_21 (args : Array Value) (w : World) : (callFunc 21 args).run Try.prog w = .ok (.enter 21 args) w := by kernel_rfl
theorem en_22 (args : Array Value) (w : World) : (callFunc 22 args).run Try.prog w = .ok (.enter 22 args) w := by kernel_rfl
theorem en_24 (args : Array Value) (w : World) : (callFunc 24 args).run Try.prog w = .ok (.enter 24 args) w := by kernel_rfl
def plan_Star_W (root : Int) (members : List Int) (Q : Int → (List T_api_Branch) → Prop) : Prop :=
 plan_star_W root members (fun r_0_2 r_1_2 => Q r_0_2 r_1_2)
set_option maxHeartbeats 40000000 in
set_option maxRecDepth 100000 in
theorem plan_Star_walk {F : Fz} {fr : List Ow} {h0 : Heap} (root : Int) (members : List Int) (vmembers : Value) (hS : St F (fr) h0) (hL_members : SliceF F h0 1 encI vmembers members) {Q : Int → (List T_api_Branch) → Prop} (hM : plan_Star_W root members Q) :
  HC Try.prog 25 #[.int .i64 root, vmembers] h0 fun u h' => ∃ (F' : Fz) (r_0_1 : Int) (r_1_1 : List T_api_Branch) (vr_1_1 : Value), u = .agg #[.int .i64 r_0_1, vr_1_1] ∧ Kp F h0 F' h' ∧ St F' (Ow.own 67 2 e_api_Branch vr_1_1 r_1_1 :: fr) h' ∧ (SliceF F' h' 1 encI vmembers members) ∧ Q r_0_1 r_1_1 := by
 unfold plan_Star_W at hM
 have hK := Kp.refl F h0
 refine HC.of_HW (n := 8) Try.func25 rfl rfl (Nat.le_of_ble_eq_true rfl) ?_
 refine HW.seq ?_
 refine HW.region ?_
 refine HO.eff (want_none) rfl (st_alloc (c := #[.int .i64 0, .slice none 0 0]) hS tz_46 rfl) ?_
 rintro _ h_1 ⟨b_1, rfl, hS, hk⟩
 replace hK := hK.trans hk
 replace hL_members := hL_members.kp hk
 refine HO.nil (thenQ_normal (?_))
 refine HW.seq ?_
 refine HW.region ?_
 refine oM (.int .i64 root) rfl rfl ?_
 refine oM (vmembers) rfl rfl ?_
 refine HO.call (want_none) rfl (ec en_40 rfl rfl) (plan_star_walk (fr := (Ow.box b_1 46 #[.int .i64 0, .slice none 0 0] :: fr)) root members vmembers hS hL_members hM) ?_
 rintro _ h_2 ⟨F_1, r_0_2, r_1_2, vr_1_2, rfl, hk, hS, _, hM⟩
 replace hK := hK.trans hk
 replace hL_members := hL_members.kp hk
 refine HO.sto (want_none) rfl (st_storeAgg (c' := #[.int .i64 r_0_2, vr_1_2]) hS (i := 1) rfl ta_46 rfl rfl rfl (List.forall_mem_cons.2 ⟨rfl, (List.forall_mem_cons.2 ⟨(shp (hS.own 0 rfl).slice).one, (fun _ h => by cases h)⟩)⟩) (Nat.le_of_ble_eq_true rfl) rfl) ?_
 rintro h_3 ⟨hS, hk⟩
 replace hS : St F_1 (Ow.own 67 2 e_api_Branch vr_1_2 r_1_2 :: Ow.box b_1 46 #[.int .i64 r_0_2, vr_1_2] :: fr) h_3 := hS
 replace hK := hK.trans hk
 replace hL_members := hL_members.kp hk
 refine HO.nil (thenQ_normal (?_))
 refine HW.ret (?_)
 refine ⟨.inr rfl, .agg #[.int .i64 r_0_2, vr_1_2], res1 rfl (rca (cs := [.int .i64 r_0_2, vr_1_2]) ta_46 rfl rfl (Blk.cells (k := 2) (hS.box 1 rfl) rfl)), ?_⟩
 replace hS : St F_1 (Ow.own 67 2 e_api_Branch vr_1_2 r_1_2 :: fr) h_3 := hS.perm2 [0] 2 rfl rfl
 exact ⟨F_1, r_0_2, r_1_2, vr_1_2, rfl, hK, hS, hL_members, hM⟩

def law33_PlanMakes_j1 (Q : Bool → Prop) (r0_1 : Int) (r1_1 : List Int) (r2_1 : List Int) (r3_1 : Int) (r_0_1 : Int) (r_1_1 : List T_api_Branch) (b_4 : Bool) : Prop :=
 (b_4 = true → Q false) ∧ (b_4 = false → ref33_Valid_W r_0_1 r_1_1 r0_1 r1_1 r2_1 r3_1 (fun r_10 => (r_10 = true → ref33_Fits_W (r1_1.length : Int) (r2_1.length : Int) r3_1 (fun r_11 => ((!r_11) = true → law33_lives_W  (fun r_12 => Q r_12)) ∧ ((!r_11) = false → ref32_Fan_W r_0_1 r_1_1 (fun r_13 => (r_13 ≤ r3_1 → law33_lives_W  (fun r_14 => Q r_14)) ∧ (¬ (r_13 ≤ r3_1) → Q false))))) ∧ (r_10 = false → Q false)))
def law33_PlanMakes_W (a_Root : Int) (a_Members : List Int) (a_Services : List Int) (a_Fan : Int) (Q : Bool → Prop) : Prop :=
 law33_Ask_Own_W a_Root a_Members a_Services a_Fan (fun r0_1 r1_1 r2_1 r3_1 => law33_copied_W r1_1 (fun r_2 => law33_copied_W r2_1 (fun r_3 => plan_Make_W r0_1 r_2 r_3 r3_1 (fun r_0_1 r_1_1 => law33_copied_W r1_1 (fun r_4 => plan_Star_W r0_1 r_4 (fun r_0_2 r_1_2 => ref33_Make_W r0_1 r1_1 r2_1 r3_1 (fun r_0_3 r_1_3 => ref32_Same_W r_0_1 r_1_1 r_0_3 r_1_3 (fun r_5 => ((!r_5) = true → law33_PlanMakes_j1 Q r0_1 r1_1 r2_1 r3_1 r_0_1 r_1_1 true) ∧ ((!r_5) = false → ref33_Star_W r0_1 r1_1 (fun r_0_4 r_1_4 => ref32_Same_W r_0_2 r_1_2 r_0_4 r_1_4 (fun r_6 => ((!r_6) = true → law33_PlanMakes_j1 Q r0_1 r1_1 r2_1 r3_1 r_0_1 r_1_1 true) ∧ ((!r_6) = false → law33_copied_W r1_1 (fun r_7 => law33_copied_W r2_1 (fun r_8 => plan_Valid_W r_0_1 r_1_1 r0_1 r_7 r_8 r3_1 (fun r_9 => law33_PlanMakes_j1 Q r0_1 r1_1 r2_1 r3_1 r_0_1 r_1_1 (!r_9))))))))))))))))
set_option maxHeartbeats 40000000 in
set_option maxRecDepth 100000 in
theorem law33_PlanMakes_walk {F : Fz} {fr : List Ow} {h0 : Heap} (a_Root : Int) (a_Members : List Int) (a_Services : List Int) (a_Fan : Int) (va_Members : Value) (va_Services : Value) (hS : St F (fr) h0) (hL_a_Members : SliceF F h0 1 encI va_Members a_Members) (hL_a_Services : SliceF F h0 1 encI va_Services a_Services) (hD : DM.on = false) {Q : Bool → Prop} (hM : law33_PlanMakes_W a_Root a_Members a_Services a_Fan Q) :
  HC Try.prog 7 #[.agg #[.int .i64 a_Root, va_Members, va_Services, .int .u8 a_Fan]] h0 fun u h' => ∃ (F' : Fz) (r_1 : Bool), u = .bool r_1 ∧ Kp F h0 F' h' ∧ St F' (fr) h' ∧ (SliceF F' h' 1 encI va_Members a_Members) ∧ (SliceF F' h' 1 encI va_Services a_Services) ∧ Q r_1 := by
 unfold law33_PlanMakes_W at hM
 have hK := Kp.refl F h0
 refine HC.of_HW (n := 78) Try.func7 rfl rfl (Nat.le_of_ble_eq_true rfl) ?_
 refine HW.seq ?_
 refine HW.region ?_
 refine HO.eff (want_none) rfl (st_box (c := #[.int .i64 a_Root, va_Members, va_Services, .int .u8 a_Fan]) (k' := 4) hS rfl rfl) ?_
 rintro _ h_1 ⟨b_1, rfl, hS, hk⟩
 replace hK := hK.trans hk
 replace hL_a_Members := hL_a_Members.kp hk
 replace hL_a_Services := hL_a_Services.kp hk
 refine oA (.bool false) rfl rfl ?_
 refine HO.nil (thenQ_normal (?_))
 refine HW.seq ?_
 refine HW.region ?_
 refine oV (.agg #[.int .i64 a_Root, va_Members, va_Services, .int .u8 a_Fan]) (q_loadAgg (cs := [.int .i64 a_Root, va_Members, va_Services, .int .u8 a_Fan]) ta_39 rfl rfl (Blk.cells (k := 4) (hS.box 0 rfl) rfl)) rfl ?_
 refine HO.call (want_none) rfl (ec en_17 rfl rfl) (law33_Ask_Own_walk (fr := (Ow.box b_1 39 #[.int .i64 a_Root, va_Members, va_Services, .int .u8 a_Fan] :: fr)) a_Root a_Members a_Services a_Fan va_Members va_Services hS hL_a_Members hL_a_Services hM) ?_
 rintro _ h_2 ⟨F_1, r0_1, r1_1, r2_1, r3_1, vr1_1, vr2_1, rfl, hk, hS, _, _, hM⟩
 replace hK := hK.trans hk
 replace hL_a_Members := hL_a_Members.kp hk
 replace hL_a_Services := hL_a_Services.kp hk
 refine oM (.tuple #[.int .i64 r0_1, vr1_1, vr2_1, .int .i64 r3_1]) rfl rfl ?_
 refine oV (.int .i64 r0_1) (q_extract rfl rfl) rfl ?_
 refine oV (vr1_1) (q_extract rfl rfl) rfl ?_
 refine oV (vr2_1) (q_extract rfl rfl) rfl ?_
 refine oV (.int .i64 r3_1) (q_extract rfl rfl) rfl ?_
 refine oA (.int .i64 r0_1) rfl rfl ?_
 refine oA (vr1_1) rfl rfl ?_
 refine oA (vr2_1) rfl rfl ?_
 refine oA (.int .i64 r3_1) rfl rfl ?_
 refine HO.nil (thenQ_normal (?_))
 refine HW.seq ?_
 refine HW.region ?_
 refine oM (.int .i64 r0_1) rfl rfl ?_
 refine oM (vr1_1) rfl rfl ?_
 have hZ_1 := hS
 have hkz_1 := (hS.freeze).2
 replace hS := hS.freeze.1
 have hL_1 : SliceF (fun bz_ => F_1 bz_ ∨ (Ow.own 3 1 encI vr1_1 r1_1).foot bz_) h_2 1 encI vr1_1 r1_1 := ⟨(hZ_1.own 0 rfl).slice, fun _ b hb => .inr hb⟩
 refine HO.call (want_none) rfl (ec en_18 rfl rfl) (law33_copied_walk (fr := (Ow.own 3 1 encI vr2_1 r2_1 :: Ow.box b_1 39 #[.int .i64 a_Root, va_Members, va_Services, .int .u8 a_Fan] :: fr)) r1_1 vr1_1 hS hL_1 hM) ?_
 rintro vr_1 h_3 ⟨F_2, r_2, _, rfl, hk, hS, _, hM⟩
 obtain ⟨hS, hk⟩ := hZ_1.back hk hS
 generalize (fun bz_ => F_2 bz_ ∧ ¬ (Ow.own 3 1 encI vr1_1 r1_1).foot bz_) = F_3 at hS hk
 replace hK := hK.trans hk
 replace hL_a_Members := hL_a_Members.kp hk
 replace hL_a_Services := hL_a_Services.kp hk
 refine oM (vr2_1) rfl rfl ?_
 replace hS : St F_3 (Ow.own 3 1 encI vr2_1 r2_1 :: Ow.own 3 1 encI vr1_1 r1_1 :: Ow.own 3 1 encI vr_1 r_2 :: Ow.box b_1 39 #[.int .i64 a_Root, va_Members, va_Services, .int .u8 a_Fan] :: fr) h_3 := hS.perm2 [2, 0, 1, 3] 4 rfl rfl
 have hZ_2 := hS
 have hkz_2 := (hS.freeze).2
 replace hS := hS.freeze.1
 have hL_2 : SliceF (fun bz_ => F_3 bz_ ∨ (Ow.own 3 1 encI vr2_1 r2_1).foot bz_) h_3 1 encI vr2_1 r2_1 := ⟨(hZ_2.own 0 rfl).slice, fun _ b hb => .inr hb⟩
 refine HO.call (want_none) rfl (ec en_18 rfl rfl) (law33_copied_walk (fr := (Ow.own 3 1 encI vr1_1 r1_1 :: Ow.own 3 1 encI vr_1 r_2 :: Ow.box b_1 39 #[.int .i64 a_Root, va_Members, va_Services, .int .u8 a_Fan] :: fr)) r2_1 vr2_1 hS hL_2 hM) ?_
 rintro vr_2 h_4 ⟨F_4, r_3, _, rfl, hk, hS, _, hM⟩
 obtain ⟨hS, hk⟩ := hZ_2.back hk hS
 generalize (fun bz_ => F_4 bz_ ∧ ¬ (Ow.own 3 1 encI vr2_1 r2_1).foot bz_) = F_5 at hS hk
 replace hK := hK.trans hk
 replace hL_a_Members := hL_a_Members.kp hk
 replace hL_a_Services := hL_a_Services.kp hk
 refine oM (.int .i64 r3_1) rfl rfl ?_
 replace hS : St F_5 (Ow.own 3 1 encI vr_1 r_2 :: Ow.own 3 1 encI vr2_1 r2_1 :: Ow.own 3 1 encI vr_2 r_3 :: Ow.own 3 1 encI vr1_1 r1_1 :: Ow.box b_1 39 #[.int .i64 a_Root, va_Members, va_Services, .int .u8 a_Fan] :: fr) h_4 := hS.perm2 [3, 0, 1, 2, 4] 5 rfl rfl
 have hZ_3 := hS
 have hkz_3 := (hS.freeze).2
 replace hS := hS.freeze.1
 have hL_3 : SliceF (fun bz_ => F_5 bz_ ∨ (Ow.own 3 1 encI vr_1 r_2).foot bz_) h_4 1 encI vr_1 r_2 := ⟨(hZ_3.own 0 rfl).slice, fun _ b hb => .inr hb⟩
 replace hS : St (fun bz_ => F_5 bz_ ∨ (Ow.own 3 1 encI vr_1 r_2).foot bz_) (Ow.own 3 1 encI vr_2 r_3 :: Ow.own 3 1 encI vr2_1 r2_1 :: Ow.own 3 1 encI vr1_1 r1_1 :: Ow.box b_1 39 #[.int .i64 a_Root, va_Members, va_Services, .int .u8 a_Fan] :: fr) h_4 := hS.perm2 [1, 0, 2, 3] 4 rfl rfl
 have hZ_4 := hS
 have hkz_4 := (hS.freeze).2
 replace hS := hS.freeze.1
 have hL_4 : SliceF (fun bz_ => (fun bz_ => F_5 bz_ ∨ (Ow.own 3 1 encI vr_1 r_2).foot bz_) bz_ ∨ (Ow.own 3 1 encI vr_2 r_3).foot bz_) h_4 1 encI vr_2 r_3 := ⟨(hZ_4.own 0 rfl).slice, fun _ b hb => .inr hb⟩
 refine HO.call (want_none) rfl (ec en_19 rfl rfl) (plan_Make_walk (fr := (Ow.own 3 1 encI vr2_1 r2_1 :: Ow.own 3 1 encI vr1_1 r1_1 :: Ow.box b_1 39 #[.int .i64 a_Root, va_Members, va_Services, .int .u8 a_Fan] :: fr)) r0_1 r_2 r_3 r3_1 vr_1 vr_2 hS (hL_3.kp hkz_4) hL_4 hD hM) ?_
 rintro _ h_5 ⟨F_6, r_0_1, r_1_1, vr_1_1, rfl, hk, hS, _, _, hM⟩
 obtain ⟨hS, hk⟩ := hZ_4.back hk hS
 obtain ⟨hS, hk⟩ := hZ_3.back hk hS
 generalize (fun bz_ => (fun bz_ => F_6 bz_ ∧ ¬ (Ow.own 3 1 encI vr_2 r_3).foot bz_) bz_ ∧ ¬ (Ow.own 3 1 encI vr_1 r_2).foot bz_) = F_7 at hS hk
 replace hK := hK.trans hk
 replace hL_a_Members := hL_a_Members.kp hk
 replace hL_a_Services := hL_a_Services.kp hk
 refine HO.eff (want_none) rfl (st_alloc (c := #[.int .i64 0, .slice none 0 0]) hS tz_46 rfl) ?_
 rintro _ h_6 ⟨b_2, rfl, hS, hk⟩
 replace hK := hK.trans hk
 replace hL_a_Members := hL_a_Members.kp hk
 replace hL_a_Services := hL_a_Services.kp hk
 refine HO.sto (want_none) rfl (st_storeAgg (c' := #[.int .i64 r_0_1, vr_1_1]) hS (i := 0) rfl ta_46 rfl rfl rfl (List.forall_mem_cons.2 ⟨rfl, (List.forall_mem_cons.2 ⟨(shp (hS.own 3 rfl).slice).one, (fun _ h => by cases h)⟩)⟩) (Nat.le_of_ble_eq_true rfl) rfl) ?_
 rintro h_7 ⟨hS, hk⟩
 replace hS : St F_7 (Ow.box b_2 46 #[.int .i64 r_0_1, vr_1_1] :: Ow.own 3 1 encI vr_1 r_2 :: Ow.own 3 1 encI vr_2 r_3 :: Ow.own 67 2 e_api_Branch vr_1_1 r_1_1 :: Ow.own 3 1 encI vr2_1 r2_1 :: Ow.own 3 1 encI vr1_1 r1_1 :: Ow.box b_1 39 #[.int .i64 a_Root, va_Members, va_Services, .int .u8 a_Fan] :: fr) h_7 := hS
 replace hK := hK.trans hk
 replace hL_a_Members := hL_a_Members.kp hk
 replace hL_a_Services := hL_a_Services.kp hk
 refine HO.nil (thenQ_normal (?_))
 refine HW.seq ?_
 refine HW.region ?_
 refine oM (.int .i64 r0_1) rfl rfl ?_
 refine oM (vr1_1) rfl rfl ?_
 replace hS : St F_7 (Ow.own 3 1 encI vr1_1 r1_1 :: Ow.box b_2 46 #[.int .i64 r_0_1, vr_1_1] :: Ow.own 3 1 encI vr_1 r_2 :: Ow.own 3 1 encI vr_2 r_3 :: Ow.own 67 2 e_api_Branch vr_1_1 r_1_1 :: Ow.own 3 1 encI vr2_1 r2_1 :: Ow.box b_1 39 #[.int .i64 a_Root, va_Members, va_Services, .int .u8 a_Fan] :: fr) h_7 := hS.perm2 [5, 0, 1, 2, 3, 4, 6] 7 rfl rfl
 have hZ_5 := hS
 have hkz_5 := (hS.freeze).2
 replace hS := hS.freeze.1
 have hL_5 : SliceF (fun bz_ => F_7 bz_ ∨ (Ow.own 3 1 encI vr1_1 r1_1).foot bz_) h_7 1 encI vr1_1 r1_1 := ⟨(hZ_5.own 0 rfl).slice, fun _ b hb => .inr hb⟩
 refine HO.call (want_none) rfl (ec en_18 rfl rfl) (law33_copied_walk (fr := (Ow.box b_2 46 #[.int .i64 r_0_1, vr_1_1] :: Ow.own 3 1 encI vr_1 r_2 :: Ow.own 3 1 encI vr_2 r_3 :: Ow.own 67 2 e_api_Branch vr_1_1 r_1_1 :: Ow.own 3 1 encI vr2_1 r2_1 :: Ow.box b_1 39 #[.int .i64 a_Root, va_Members, va_Services, .int .u8 a_Fan] :: fr)) r1_1 vr1_1 hS hL_5 hM) ?_
 rintro vr_3 h_8 ⟨F_8, r_4, _, rfl, hk, hS, _, hM⟩
 obtain ⟨hS, hk⟩ := hZ_5.back hk hS
 generalize (fun bz_ => F_8 bz_ ∧ ¬ (Ow.own 3 1 encI vr1_1 r1_1).foot bz_) = F_9 at hS hk
 replace hK := hK.trans hk
 replace hL_a_Members := hL_a_Members.kp hk
 replace hL_a_Services := hL_a_Services.kp hk
 replace hS : St F_9 (Ow.own 3 1 encI vr_3 r_4 :: Ow.own 3 1 encI vr1_1 r1_1 :: Ow.box b_2 46 #[.int .i64 r_0_1, vr_1_1] :: Ow.own 3 1 encI vr_1 r_2 :: Ow.own 3 1 encI vr_2 r_3 :: Ow.own 67 2 e_api_Branch vr_1_1 r_1_1 :: Ow.own 3 1 encI vr2_1 r2_1 :: Ow.box b_1 39 #[.int .i64 a_Root, va_Members, va_Services, .int .u8 a_Fan] :: fr) h_8 := hS.perm2 [1, 0, 2, 3, 4, 5, 6, 7] 8 rfl rfl
 have hZ_6 := hS
 have hkz_6 := (hS.freeze).2
 replace hS := hS.freeze.1
 have hL_6 : SliceF (fun bz_ => F_9 bz_ ∨ (Ow.own 3 1 encI vr_3 r_4).foot bz_) h_8 1 encI vr_3 r_4 := ⟨(hZ_6.own 0 rfl).slice, fun _ b hb => .inr hb⟩
 refine HO.call (want_none) rfl (ec en_25 rfl rfl) (plan_Star_walk (fr := (Ow.own 3 1 encI vr1_1 r1_1 :: Ow.box b_2 46 #[.int .i64 r_0_1, vr_1_1] :: Ow.own 3 1 encI vr_1 r_2 :: Ow.own 3 1 encI vr_2 r_3 :: Ow.own 67 2 e_api_Branch vr_1_1 r_1_1 :: Ow.own 3 1 encI vr2_1 r2_1 :: Ow.box b_1 39 #[.int .i64 a_Root, va_Members, va_Services, .int .u8 a_Fan] :: fr)) r0_1 r_4 vr_3 hS hL_6 hM) ?_
 rintro _ h_9 ⟨F_10, r_0_2, r_1_2, vr_1_2, rfl, hk, hS, _, hM⟩
 obtain ⟨hS, hk⟩ := hZ_6.back hk hS
 generalize (fun bz_ => F_10 bz_ ∧ ¬ (Ow.own 3 1 encI vr_3 r_4).foot bz_) = F_11 at hS hk
 replace hK := hK.trans hk
 replace hL_a_Members := hL_a_Members.kp hk
 replace hL_a_Services := hL_a_Services.kp hk
 refine HO.eff (want_none) rfl (st_alloc (c := #[.int .i64 0, .slice none 0 0]) hS tz_46 rfl) ?_
 rintro _ h_10 ⟨b_3, rfl, hS, hk⟩
 replace hK := hK.trans hk
 replace hL_a_Members := hL_a_Members.kp hk
 replace hL_a_Services := hL_a_Services.kp hk
 refine HO.sto (want_none) rfl (st_storeAgg (c' := #[.int .i64 r_0_2, vr_1_2]) hS (i := 0) rfl ta_46 rfl rfl rfl (List.forall_mem_cons.2 ⟨rfl, (List.forall_mem_cons.2 ⟨(shp (hS.own 2 rfl).slice).one, (fun _ h => by cases h)⟩)⟩) (Nat.le_of_ble_eq_true rfl) rfl) ?_
 rintro h_11 ⟨hS, hk⟩
 replace hS : St F_11 (Ow.box b_3 46 #[.int .i64 r_0_2, vr_1_2] :: Ow.own 3 1 encI vr_3 r_4 :: Ow.own 67 2 e_api_Branch vr_1_2 r_1_2 :: Ow.own 3 1 encI vr1_1 r1_1 :: Ow.box b_2 46 #[.int .i64 r_0_1, vr_1_1] :: Ow.own 3 1 encI vr_1 r_2 :: Ow.own 3 1 encI vr_2 r_3 :: Ow.own 67 2 e_api_Branch vr_1_1 r_1_1 :: Ow.own 3 1 encI vr2_1 r2_1 :: Ow.box b_1 39 #[.int .i64 a_Root, va_Members, va_Services, .int .u8 a_Fan] :: fr) h_11 := hS
 replace hK := hK.trans hk
 replace hL_a_Members := hL_a_Members.kp hk
 replace hL_a_Services := hL_a_Services.kp hk
 refine HO.nil (thenQ_normal (?_))
 refine HW.seq ?_
 refine HW.seq_mid (fun f h => ∃ (F' : Fz) (b_4 : Bool), f 2 = .bool false ∧ f 3 = .int .i64 r0_1 ∧ f 4 = vr1_1 ∧ f 5 = vr2_1 ∧ f 6 = .int .i64 r3_1 ∧ f 7 = .pointer (some ⟨b_2, 0, none⟩) ∧ f 53 = .bool b_4 ∧ Kp F h0 F' h ∧ St F' (Ow.own 3 1 encI vr1_1 r1_1 :: Ow.own 3 1 encI vr2_1 r2_1 :: Ow.box b_2 46 #[.int .i64 r_0_1, vr_1_1] :: Ow.own 67 2 e_api_Branch vr_1_1 r_1_1 :: fr) h ∧ (SliceF F' h 1 encI va_Members a_Members) ∧ (SliceF F' h 1 encI va_Services a_Services) ∧ law33_PlanMakes_j1 Q r0_1 r1_1 r2_1 r3_1 r_0_1 r_1_1 b_4) ?_ ?_
 ·
  refine HW.regionA 27 mixed (fun h => (Blk h b_3 (.cells #[.int .i64 r_0_2, vr_1_2] 46 (0, 0))) ∧ (Blk h b_2 (.cells #[.int .i64 r_0_1, vr_1_1] 46 (0, 0)))) [] (by kernel_rfl) ?_
  refine HA.val (k := 0) (v := .agg #[.int .i64 r_0_1, vr_1_1]) rfl rfl (by kernel_rfl) (by kernel_rfl) (want_none) rfl (fun _ ⟨c210, c207⟩ => q_loadAgg (cs := [.int .i64 r_0_1, vr_1_1]) ta_46 rfl rfl (Blk.cells (k := 2) c207 rfl)) ?_
  refine HA.val (k := 1) (v := .int .i64 r0_1) rfl rfl (by kernel_rfl) (by kernel_rfl) (want_none) rfl (fun _ ⟨c210, c207⟩ => q_move rfl) ?_
  refine HA.val (k := 2) (v := vr1_1) rfl rfl (by kernel_rfl) (by kernel_rfl) (want_none) rfl (fun _ ⟨c210, c207⟩ => q_move rfl) ?_
  refine HA.val (k := 3) (v := vr2_1) rfl rfl (by kernel_rfl) (by kernel_rfl) (want_none) rfl (fun _ ⟨c210, c207⟩ => q_move rfl) ?_
  refine HA.val (k := 4) (v := .int .i64 r3_1) rfl rfl (by kernel_rfl) (by kernel_rfl) (want_none) rfl (fun _ ⟨c210, c207⟩ => q_move rfl) ?_
  refine HA.one (k := 5) ⟨⟨(hS.box 0 rfl), (hS.box 4 rfl)⟩, (Go.Wk.at_nil _ _)⟩ (by kernel_rfl) ?_
  replace hS : St F_11 (Ow.own 3 1 encI vr1_1 r1_1 :: Ow.box b_3 46 #[.int .i64 r_0_2, vr_1_2] :: Ow.own 3 1 encI vr_3 r_4 :: Ow.own 67 2 e_api_Branch vr_1_2 r_1_2 :: Ow.box b_2 46 #[.int .i64 r_0_1, vr_1_1] :: Ow.own 3 1 encI vr_1 r_2 :: Ow.own 3 1 encI vr_2 r_3 :: Ow.own 67 2 e_api_Branch vr_1_1 r_1_1 :: Ow.own 3 1 encI vr2_1 r2_1 :: Ow.box b_1 39 #[.int .i64 a_Root, va_Members, va_Services, .int .u8 a_Fan] :: fr) h_11 := hS.perm2 [3, 0, 1, 2, 4, 5, 6, 7, 8, 9] 10 rfl rfl
  have hZ_7 := hS
  have hkz_7 := (hS.freeze).2
  replace hS := hS.freeze.1
  have hL_7 : SliceF (fun bz_ => F_11 bz_ ∨ (Ow.own 3 1 encI vr1_1 r1_1).foot bz_) h_11 1 encI vr1_1 r1_1 := ⟨(hZ_7.own 0 rfl).slice, fun _ b hb => .inr hb⟩
  replace hS : St (fun bz_ => F_11 bz_ ∨ (Ow.own 3 1 encI vr1_1 r1_1).foot bz_) (Ow.own 3 1 encI vr2_1 r2_1 :: Ow.box b_3 46 #[.int .i64 r_0_2, vr_1_2] :: Ow.own 3 1 encI vr_3 r_4 :: Ow.own 67 2 e_api_Branch vr_1_2 r_1_2 :: Ow.box b_2 46 #[.int .i64 r_0_1, vr_1_1] :: Ow.own 3 1 encI vr_1 r_2 :: Ow.own 3 1 encI vr_2 r_3 :: Ow.own 67 2 e_api_Branch vr_1_1 r_1_1 :: Ow.box b_1 39 #[.int .i64 a_Root, va_Members, va_Services, .int .u8 a_Fan] :: fr) h_11 := hS.perm2 [7, 0, 1, 2, 3, 4, 5, 6, 8] 9 rfl rfl
  have hZ_8 := hS
  have hkz_8 := (hS.freeze).2
  replace hS := hS.freeze.1
  have hL_8 : SliceF (fun bz_ => (fun bz_ => F_11 bz_ ∨ (Ow.own 3 1 encI vr1_1 r1_1).foot bz_) bz_ ∨ (Ow.own 3 1 encI vr2_1 r2_1).foot bz_) h_11 1 encI vr2_1 r2_1 := ⟨(hZ_8.own 0 rfl).slice, fun _ b hb => .inr hb⟩
  refine HS.call rfl (want_none) rfl (ec en_21 rfl rfl) (ref33_Make_walk (fr := (Ow.box b_3 46 #[.int .i64 r_0_2, vr_1_2] :: Ow.own 3 1 encI vr_3 r_4 :: Ow.own 67 2 e_api_Branch vr_1_2 r_1_2 :: Ow.box b_2 46 #[.int .i64 r_0_1, vr_1_1] :: Ow.own 3 1 encI vr_1 r_2 :: Ow.own 3 1 encI vr_2 r_3 :: Ow.own 67 2 e_api_Branch vr_1_1 r_1_1 :: Ow.box b_1 39 #[.int .i64 a_Root, va_Members, va_Services, .int .u8 a_Fan] :: fr)) r0_1 r1_1 r2_1 r3_1 vr1_1 vr2_1 hS (hL_7.kp hkz_8) hL_8 hM) ?_
  rintro _ h_12 ⟨F_12, r_0_3, r_1_3, vr_1_3, rfl, hk, hS, _, _, hM⟩
  obtain ⟨hS, hk⟩ := hZ_8.back hk hS
  obtain ⟨hS, hk⟩ := hZ_7.back hk hS
  generalize (fun bz_ => (fun bz_ => F_12 bz_ ∧ ¬ (Ow.own 3 1 encI vr2_1 r2_1).foot bz_) bz_ ∧ ¬ (Ow.own 3 1 encI vr1_1 r1_1).foot bz_) = F_13 at hS hk
  replace hK := hK.trans hk
  replace hL_a_Members := hL_a_Members.kp hk
  replace hL_a_Services := hL_a_Services.kp hk
  refine HA.one (k := 6) ⟨⟨(hS.box 3 rfl), (hS.box 6 rfl)⟩, (Go.Wk.at_nil _ _)⟩ (by kernel_rfl) ?_
  replace hS : St F_13 (Ow.own 67 2 e_api_Branch vr_1_1 r_1_1 :: Ow.own 3 1 encI vr1_1 r1_1 :: Ow.own 3 1 encI vr2_1 r2_1 :: Ow.own 67 2 e_api_Branch vr_1_3 r_1_3 :: Ow.box b_3 46 #[.int .i64 r_0_2, vr_1_2] :: Ow.own 3 1 encI vr_3 r_4 :: Ow.own 67 2 e_api_Branch vr_1_2 r_1_2 :: Ow.box b_2 46 #[.int .i64 r_0_1, vr_1_1] :: Ow.own 3 1 encI vr_1 r_2 :: Ow.own 3 1 encI vr_2 r_3 :: Ow.box b_1 39 #[.int .i64 a_Root, va_Members, va_Services, .int .u8 a_Fan] :: fr) h_12 := hS.perm2 [9, 0, 1, 2, 3, 4, 5, 6, 7, 8, 10] 11 rfl rfl
  have hZ_9 := hS
  have hkz_9 := (hS.freeze).2
  replace hS := hS.freeze.1
  have hL_9 : SliceF (fun bz_ => F_13 bz_ ∨ (Ow.own 67 2 e_api_Branch vr_1_1 r_1_1).foot bz_) h_12 2 e_api_Branch vr_1_1 r_1_1 := ⟨(hZ_9.own 0 rfl).slice, fun _ b hb => .inr hb⟩
  replace hS : St (fun bz_ => F_13 bz_ ∨ (Ow.own 67 2 e_api_Branch vr_1_1 r_1_1).foot bz_) (Ow.own 67 2 e_api_Branch vr_1_3 r_1_3 :: Ow.own 3 1 encI vr1_1 r1_1 :: Ow.own 3 1 encI vr2_1 r2_1 :: Ow.box b_3 46 #[.int .i64 r_0_2, vr_1_2] :: Ow.own 3 1 encI vr_3 r_4 :: Ow.own 67 2 e_api_Branch vr_1_2 r_1_2 :: Ow.box b_2 46 #[.int .i64 r_0_1, vr_1_1] :: Ow.own 3 1 encI vr_1 r_2 :: Ow.own 3 1 encI vr_2 r_3 :: Ow.box b_1 39 #[.int .i64 a_Root, va_Members, va_Services, .int .u8 a_Fan] :: fr) h_12 := hS.perm2 [2, 0, 1, 3, 4, 5, 6, 7, 8, 9] 10 rfl rfl
  have hZ_10 := hS
  have hkz_10 := (hS.freeze).2
  replace hS := hS.freeze.1
  have hL_10 : SliceF (fun bz_ => (fun bz_ => F_13 bz_ ∨ (Ow.own 67 2 e_api_Branch vr_1_1 r_1_1).foot bz_) bz_ ∨ (Ow.own 67 2 e_api_Branch vr_1_3 r_1_3).foot bz_) h_12 2 e_api_Branch vr_1_3 r_1_3 := ⟨(hZ_10.own 0 rfl).slice, fun _ b hb => .inr hb⟩
  refine HS.call rfl (want_none) rfl (ec en_20 rfl rfl) (ref32_Same_walk (fr := (Ow.own 3 1 encI vr1_1 r1_1 :: Ow.own 3 1 encI vr2_1 r2_1 :: Ow.box b_3 46 #[.int .i64 r_0_2, vr_1_2] :: Ow.own 3 1 encI vr_3 r_4 :: Ow.own 67 2 e_api_Branch vr_1_2 r_1_2 :: Ow.box b_2 46 #[.int .i64 r_0_1, vr_1_1] :: Ow.own 3 1 encI vr_1 r_2 :: Ow.own 3 1 encI vr_2 r_3 :: Ow.box b_1 39 #[.int .i64 a_Root, va_Members, va_Services, .int .u8 a_Fan] :: fr)) r_0_1 r_1_1 r_0_3 r_1_3 vr_1_1 vr_1_3 hS (hL_9.kp hkz_10) hL_10 hM) ?_
  rintro _ h_13 ⟨F_14, r_5, rfl, hk, hS, _, _, hM⟩
  obtain ⟨hS, hk⟩ := hZ_10.back hk hS
  obtain ⟨hS, hk⟩ := hZ_9.back hk hS
  generalize (fun bz_ => (fun bz_ => F_14 bz_ ∧ ¬ (Ow.own 67 2 e_api_Branch vr_1_3 r_1_3).foot bz_) bz_ ∧ ¬ (Ow.own 67 2 e_api_Branch vr_1_1 r_1_1).foot bz_) = F_15 at hS hk
  replace hK := hK.trans hk
  replace hL_a_Members := hL_a_Members.kp hk
  replace hL_a_Services := hL_a_Services.kp hk
  refine HA.val (k := 7) (v := .bool (!r_5)) rfl rfl (by kernel_rfl) (by kernel_rfl) (want_none) rfl (fun _ ⟨c210, c207⟩ => q_not rfl) ?_
  refine HA.val (k := 8) (v := .bool (!r_5)) rfl rfl (by kernel_rfl) (by kernel_rfl) (want_none) rfl (fun _ ⟨c210, c207⟩ => q_move rfl) ?_
  rcases Bool.eq_false_or_eq_true (!r_5) with c_1 | c_1
  ·
   replace hM := hM.1 c_1
   refine HA.past (k := 9) rfl rfl (by kernel_rfl) (by kernel_rfl) (past_by rfl rfl c_1) rfl ?_
   refine HA.past (k := 10) rfl rfl (by kernel_rfl) (by kernel_rfl) (past_by rfl rfl c_1) rfl ?_
   refine HA.past (k := 11) rfl rfl (by kernel_rfl) (by kernel_rfl) (past_by rfl rfl c_1) rfl ?_
   refine HA.one (k := 12) ⟨⟨(hS.box 4 rfl), (hS.box 7 rfl)⟩, (Go.Wk.at_nil _ _)⟩ (by kernel_rfl) ?_
   refine HS.past rfl (past_by rfl rfl c_1) rfl ?_
   refine HA.one (k := 13) ⟨⟨(hS.box 4 rfl), (hS.box 7 rfl)⟩, (Go.Wk.at_nil _ _)⟩ (by kernel_rfl) ?_
   refine HS.past rfl (past_by rfl rfl c_1) rfl ?_
   refine HA.past (k := 14) rfl rfl (by kernel_rfl) (by kernel_rfl) (past_by rfl rfl c_1) rfl ?_
   refine HA.val (k := 15) (v := .bool true) rfl rfl (by kernel_rfl) (by kernel_rfl) (want_none) rfl (fun _ ⟨c210, c207⟩ => q_pickK true rfl c_1 rfl) ?_
   refine HA.val (k := 16) (v := .bool true) rfl rfl (by kernel_rfl) (by kernel_rfl) (want_none) rfl (fun _ ⟨c210, c207⟩ => q_move rfl) ?_
   refine HA.past (k := 17) rfl rfl (by kernel_rfl) (by kernel_rfl) (past_some rfl rfl) rfl ?_
   refine HA.past (k := 18) rfl rfl (by kernel_rfl) (by kernel_rfl) (past_some rfl rfl) rfl ?_
   refine HA.past (k := 19) rfl rfl (by kernel_rfl) (by kernel_rfl) (past_some rfl rfl) rfl ?_
   refine HA.past (k := 21) rfl rfl (by kernel_rfl) (by kernel_rfl) (past_some rfl rfl) rfl ?_
   refine HA.past (k := 23) rfl rfl (by kernel_rfl) (by kernel_rfl) (past_some rfl rfl) rfl ?_
   refine HA.one (k := 20) ⟨⟨(hS.box 4 rfl), (hS.box 7 rfl)⟩, (Go.Wk.at_nil _ _)⟩ (by kernel_rfl) ?_
   refine HS.past rfl (past_some rfl rfl) rfl ?_
   refine HA.one (k := 22) ⟨⟨(hS.box 4 rfl), (hS.box 7 rfl)⟩, (Go.Wk.at_nil _ _)⟩ (by kernel_rfl) ?_
   refine HS.past rfl (past_some rfl rfl) rfl ?_
   refine HA.one (k := 24) ⟨⟨(hS.box 4 rfl), (hS.box 7 rfl)⟩, (Go.Wk.at_nil _ _)⟩ (by kernel_rfl) ?_
   refine HS.past rfl (past_some rfl rfl) rfl ?_
   refine HA.past (k := 25) rfl rfl (by kernel_rfl) (by kernel_rfl) (past_some rfl rfl) rfl ?_
   refine HA.val (k := 26) (v := .bool true) rfl rfl (by kernel_rfl) (by kernel_rfl) (want_none) rfl (fun _ ⟨c210, c207⟩ => q_pick rfl rfl) ?_
   refine HA.nil ⟨⟨(hS.box 4 rfl), (hS.box 7 rfl)⟩, (Go.Wk.at_nil _ _)⟩ (by kernel_rfl) (thenQ_normal (?_))
   replace hS : St F_15 (Ow.own 3 1 encI vr1_1 r1_1 :: Ow.own 3 1 encI vr2_1 r2_1 :: Ow.box b_2 46 #[.int .i64 r_0_1, vr_1_1] :: Ow.own 67 2 e_api_Branch vr_1_1 r_1_1 :: fr) h_13 := hS.perm2 [2, 3, 7, 0] 11 rfl rfl
   exact ⟨F_15, true, rfl, rfl, rfl, rfl, rfl, rfl, rfl, hK, hS, hL_a_Members, hL_a_Services, hM⟩
  ·
   replace hM := hM.2 c_1
   refine HA.val (k := 9) (v := .agg #[.int .i64 r_0_2, vr_1_2]) rfl rfl (by kernel_rfl) (by kernel_rfl) (want_by rfl rfl c_1) rfl (fun _ ⟨c210, c207⟩ => q_loadAgg (cs := [.int .i64 r_0_2, vr_1_2]) ta_46 rfl rfl (Blk.cells (k := 2) c210 rfl)) ?_
   refine HA.val (k := 10) (v := .int .i64 r0_1) rfl rfl (by kernel_rfl) (by kernel_rfl) (want_by rfl rfl c_1) rfl (fun _ ⟨c210, c207⟩ => q_move rfl) ?_
   refine HA.val (k := 11) (v := vr1_1) rfl rfl (by kernel_rfl) (by kernel_rfl) (want_by rfl rfl c_1) rfl (fun _ ⟨c210, c207⟩ => q_move rfl) ?_
   refine HA.one (k := 12) ⟨⟨(hS.box 4 rfl), (hS.box 7 rfl)⟩, (Go.Wk.at_nil _ _)⟩ (by kernel_rfl) ?_
   replace hS : St F_15 (Ow.own 3 1 encI vr1_1 r1_1 :: Ow.own 67 2 e_api_Branch vr_1_1 r_1_1 :: Ow.own 67 2 e_api_Branch vr_1_3 r_1_3 :: Ow.own 3 1 encI vr2_1 r2_1 :: Ow.box b_3 46 #[.int .i64 r_0_2, vr_1_2] :: Ow.own 3 1 encI vr_3 r_4 :: Ow.own 67 2 e_api_Branch vr_1_2 r_1_2 :: Ow.box b_2 46 #[.int .i64 r_0_1, vr_1_1] :: Ow.own 3 1 encI vr_1 r_2 :: Ow.own 3 1 encI vr_2 r_3 :: Ow.box b_1 39 #[.int .i64 a_Root, va_Members, va_Services, .int .u8 a_Fan] :: fr) h_13 := hS.perm2 [2, 0, 1, 3, 4, 5, 6, 7, 8, 9, 10] 11 rfl rfl
   have hZ_11 := hS
   have hkz_11 := (hS.freeze).2
   replace hS := hS.freeze.1
   have hL_11 : SliceF (fun bz_ => F_15 bz_ ∨ (Ow.own 3 1 encI vr1_1 r1_1).foot bz_) h_13 1 encI vr1_1 r1_1 := ⟨(hZ_11.own 0 rfl).slice, fun _ b hb => .inr hb⟩
   refine HS.call rfl (want_by rfl rfl c_1) rfl (ec en_26 rfl rfl) (ref33_Star_walk (fr := (Ow.own 67 2 e_api_Branch vr_1_1 r_1_1 :: Ow.own 67 2 e_api_Branch vr_1_3 r_1_3 :: Ow.own 3 1 encI vr2_1 r2_1 :: Ow.box b_3 46 #[.int .i64 r_0_2, vr_1_2] :: Ow.own 3 1 encI vr_3 r_4 :: Ow.own 67 2 e_api_Branch vr_1_2 r_1_2 :: Ow.box b_2 46 #[.int .i64 r_0_1, vr_1_1] :: Ow.own 3 1 encI vr_1 r_2 :: Ow.own 3 1 encI vr_2 r_3 :: Ow.box b_1 39 #[.int .i64 a_Root, va_Members, va_Services, .int .u8 a_Fan] :: fr)) r0_1 r1_1 vr1_1 hS hL_11 hM) ?_
   rintro _ h_14 ⟨F_16, r_0_4, r_1_4, vr_1_4, rfl, hk, hS, _, hM⟩
   obtain ⟨hS, hk⟩ := hZ_11.back hk hS
   generalize (fun bz_ => F_16 bz_ ∧ ¬ (Ow.own 3 1 encI vr1_1 r1_1).foot bz_) = F_17 at hS hk
   replace hK := hK.trans hk
   replace hL_a_Members := hL_a_Members.kp hk
   replace hL_a_Services := hL_a_Services.kp hk
   refine HA.one (k := 13) ⟨⟨(hS.box 5 rfl), (hS.box 8 rfl)⟩, (Go.Wk.at_nil _ _)⟩ (by kernel_rfl) ?_
   replace hS : St F_17 (Ow.own 67 2 e_api_Branch vr_1_2 r_1_2 :: Ow.own 3 1 encI vr1_1 r1_1 :: Ow.own 67 2 e_api_Branch vr_1_4 r_1_4 :: Ow.own 67 2 e_api_Branch vr_1_1 r_1_1 :: Ow.own 67 2 e_api_Branch vr_1_3 r_1_3 :: Ow.own 3 1 encI vr2_1 r2_1 :: Ow.box b_3 46 #[.int .i64 r_0_2, vr_1_2] :: Ow.own 3 1 encI vr_3 r_4 :: Ow.box b_2 46 #[.int .i64 r_0_1, vr_1_1] :: Ow.own 3 1 encI vr_1 r_2 :: Ow.own 3 1 encI vr_2 r_3 :: Ow.box b_1 39 #[.int .i64 a_Root, va_Members, va_Services, .int .u8 a_Fan] :: fr) h_14 := hS.perm2 [7, 0, 1, 2, 3, 4, 5, 6, 8, 9, 10, 11] 12 rfl rfl
   have hZ_12 := hS
   have hkz_12 := (hS.freeze).2
   replace hS := hS.freeze.1
   have hL_12 : SliceF (fun bz_ => F_17 bz_ ∨ (Ow.own 67 2 e_api_Branch vr_1_2 r_1_2).foot bz_) h_14 2 e_api_Branch vr_1_2 r_1_2 := ⟨(hZ_12.own 0 rfl).slice, fun _ b hb => .inr hb⟩
   replace hS : St (fun bz_ => F_17 bz_ ∨ (Ow.own 67 2 e_api_Branch vr_1_2 r_1_2).foot bz_) (Ow.own 67 2 e_api_Branch vr_1_4 r_1_4 :: Ow.own 3 1 encI vr1_1 r1_1 :: Ow.own 67 2 e_api_Branch vr_1_1 r_1_1 :: Ow.own 67 2 e_api_Branch vr_1_3 r_1_3 :: Ow.own 3 1 encI vr2_1 r2_1 :: Ow.box b_3 46 #[.int .i64 r_0_2, vr_1_2] :: Ow.own 3 1 encI vr_3 r_4 :: Ow.box b_2 46 #[.int .i64 r_0_1, vr_1_1] :: Ow.own 3 1 encI vr_1 r_2 :: Ow.own 3 1 encI vr_2 r_3 :: Ow.box b_1 39 #[.int .i64 a_Root, va_Members, va_Services, .int .u8 a_Fan] :: fr) h_14 := hS.perm2 [1, 0, 2, 3, 4, 5, 6, 7, 8, 9, 10] 11 rfl rfl
   have hZ_13 := hS
   have hkz_13 := (hS.freeze).2
   replace hS := hS.freeze.1
   have hL_13 : SliceF (fun bz_ => (fun bz_ => F_17 bz_ ∨ (Ow.own 67 2 e_api_Branch vr_1_2 r_1_2).foot bz_) bz_ ∨ (Ow.own 67 2 e_api_Branch vr_1_4 r_1_4).foot bz_) h_14 2 e_api_Branch vr_1_4 r_1_4 := ⟨(hZ_13.own 0 rfl).slice, fun _ b hb => .inr hb⟩
   refine HS.call rfl (want_by rfl rfl c_1) rfl (ec en_20 rfl rfl) (ref32_Same_walk (fr := (Ow.own 3 1 encI vr1_1 r1_1 :: Ow.own 67 2 e_api_Branch vr_1_1 r_1_1 :: Ow.own 67 2 e_api_Branch vr_1_3 r_1_3 :: Ow.own 3 1 encI vr2_1 r2_1 :: Ow.box b_3 46 #[.int .i64 r_0_2, vr_1_2] :: Ow.own 3 1 encI vr_3 r_4 :: Ow.box b_2 46 #[.int .i64 r_0_1, vr_1_1] :: Ow.own 3 1 encI vr_1 r_2 :: Ow.own 3 1 encI vr_2 r_3 :: Ow.box b_1 39 #[.int .i64 a_Root, va_Members, va_Services, .int .u8 a_Fan] :: fr)) r_0_2 r_1_2 r_0_4 r_1_4 vr_1_2 vr_1_4 hS (hL_12.kp hkz_13) hL_13 hM) ?_
   rintro _ h_15 ⟨F_18, r_6, rfl, hk, hS, _, _, hM⟩
   obtain ⟨hS, hk⟩ := hZ_13.back hk hS
   obtain ⟨hS, hk⟩ := hZ_12.back hk hS
   generalize (fun bz_ => (fun bz_ => F_18 bz_ ∧ ¬ (Ow.own 67 2 e_api_Branch vr_1_4 r_1_4).foot bz_) bz_ ∧ ¬ (Ow.own 67 2 e_api_Branch vr_1_2 r_1_2).foot bz_) = F_19 at hS hk
   replace hK := hK.trans hk
   replace hL_a_Members := hL_a_Members.kp hk
   replace hL_a_Services := hL_a_Services.kp hk
   refine HA.val (k := 14) (v := .bool (!r_6)) rfl rfl (by kernel_rfl) (by kernel_rfl) (want_by rfl rfl c_1) rfl (fun _ ⟨c210, c207⟩ => q_not rfl) ?_
   refine HA.val (k := 15) (v := .bool (!r_6)) rfl rfl (by kernel_rfl) (by kernel_rfl) (want_none) rfl (fun _ ⟨c210, c207⟩ => q_pickK false rfl c_1 rfl) ?_
   refine HA.val (k := 16) (v := .bool (!r_6)) rfl rfl (by kernel_rfl) (by kernel_rfl) (want_none) rfl (fun _ ⟨c210, c207⟩ => q_move rfl) ?_
   rcases Bool.eq_false_or_eq_true (!r_6) with c_2 | c_2
   ·
    replace hM := hM.1 c_2
    refine HA.past (k := 17) rfl rfl (by kernel_rfl) (by kernel_rfl) (past_by rfl rfl c_2) rfl ?_
    refine HA.past (k := 18) rfl rfl (by kernel_rfl) (by kernel_rfl) (past_by rfl rfl c_2) rfl ?_
    refine HA.past (k := 19) rfl rfl (by kernel_rfl) (by kernel_rfl) (past_by rfl rfl c_2) rfl ?_
    refine HA.past (k := 21) rfl rfl (by kernel_rfl) (by kernel_rfl) (past_by rfl rfl c_2) rfl ?_
    refine HA.past (k := 23) rfl rfl (by kernel_rfl) (by kernel_rfl) (past_by rfl rfl c_2) rfl ?_
    refine HA.one (k := 20) ⟨⟨(hS.box 6 rfl), (hS.box 8 rfl)⟩, (Go.Wk.at_nil _ _)⟩ (by kernel_rfl) ?_
    refine HS.past rfl (past_by rfl rfl c_2) rfl ?_
    refine HA.one (k := 22) ⟨⟨(hS.box 6 rfl), (hS.box 8 rfl)⟩, (Go.Wk.at_nil _ _)⟩ (by kernel_rfl) ?_
    refine HS.past rfl (past_by rfl rfl c_2) rfl ?_
    refine HA.one (k := 24) ⟨⟨(hS.box 6 rfl), (hS.box 8 rfl)⟩, (Go.Wk.at_nil _ _)⟩ (by kernel_rfl) ?_
    refine HS.past rfl (past_by rfl rfl c_2) rfl ?_
    refine HA.past (k := 25) rfl rfl (by kernel_rfl) (by kernel_rfl) (past_by rfl rfl c_2) rfl ?_
    refine HA.val (k := 26) (v := .bool true) rfl rfl (by kernel_rfl) (by kernel_rfl) (want_none) rfl (fun _ ⟨c210, c207⟩ => q_pickK true rfl c_2 rfl) ?_
    refine HA.nil ⟨⟨(hS.box 6 rfl), (hS.box 8 rfl)⟩, (Go.Wk.at_nil _ _)⟩ (by kernel_rfl) (thenQ_normal (?_))
    replace hS : St F_19 (Ow.own 3 1 encI vr1_1 r1_1 :: Ow.own 3 1 encI vr2_1 r2_1 :: Ow.box b_2 46 #[.int .i64 r_0_1, vr_1_1] :: Ow.own 67 2 e_api_Branch vr_1_1 r_1_1 :: fr) h_15 := hS.perm2 [2, 5, 8, 3] 12 rfl rfl
    exact ⟨F_19, true, rfl, rfl, rfl, rfl, rfl, rfl, rfl, hK, hS, hL_a_Members, hL_a_Services, hM⟩
   ·
    replace hM := hM.2 c_2
    refine HA.val (k := 17) (v := .agg #[.int .i64 r_0_1, vr_1_1]) rfl rfl (by kernel_rfl) (by kernel_rfl) (want_by rfl rfl c_2) rfl (fun _ ⟨c210, c207⟩ => q_loadAgg (cs := [.int .i64 r_0_1, vr_1_1]) ta_46 rfl rfl (Blk.cells (k := 2) c207 rfl)) ?_
    refine HA.val (k := 18) (v := .int .i64 r0_1) rfl rfl (by kernel_rfl) (by kernel_rfl) (want_by rfl rfl c_2) rfl (fun _ ⟨c210, c207⟩ => q_move rfl) ?_
    refine HA.val (k := 19) (v := vr1_1) rfl rfl (by kernel_rfl) (by kernel_rfl) (want_by rfl rfl c_2) rfl (fun _ ⟨c210, c207⟩ => q_move rfl) ?_
    refine HA.val (k := 21) (v := vr2_1) rfl rfl (by kernel_rfl) (by kernel_rfl) (want_by rfl rfl c_2) rfl (fun _ ⟨c210, c207⟩ => q_move rfl) ?_
    refine HA.val (k := 23) (v := .int .i64 r3_1) rfl rfl (by kernel_rfl) (by kernel_rfl) (want_by rfl rfl c_2) rfl (fun _ ⟨c210, c207⟩ => q_move rfl) ?_
    refine HA.one (k := 20) ⟨⟨(hS.box 6 rfl), (hS.box 8 rfl)⟩, (Go.Wk.at_nil _ _)⟩ (by kernel_rfl) ?_
    replace hS : St F_19 (Ow.own 3 1 encI vr1_1 r1_1 :: Ow.own 67 2 e_api_Branch vr_1_2 r_1_2 :: Ow.own 67 2 e_api_Branch vr_1_4 r_1_4 :: Ow.own 67 2 e_api_Branch vr_1_1 r_1_1 :: Ow.own 67 2 e_api_Branch vr_1_3 r_1_3 :: Ow.own 3 1 encI vr2_1 r2_1 :: Ow.box b_3 46 #[.int .i64 r_0_2, vr_1_2] :: Ow.own 3 1 encI vr_3 r_4 :: Ow.box b_2 46 #[.int .i64 r_0_1, vr_1_1] :: Ow.own 3 1 encI vr_1 r_2 :: Ow.own 3 1 encI vr_2 r_3 :: Ow.box b_1 39 #[.int .i64 a_Root, va_Members, va_Services, .int .u8 a_Fan] :: fr) h_15 := hS.perm2 [2, 0, 1, 3, 4, 5, 6, 7, 8, 9, 10, 11] 12 rfl rfl
    have hZ_14 := hS
    have hkz_14 := (hS.freeze).2
    replace hS := hS.freeze.1
    have hL_14 : SliceF (fun bz_ => F_19 bz_ ∨ (Ow.own 3 1 encI vr1_1 r1_1).foot bz_) h_15 1 encI vr1_1 r1_1 := ⟨(hZ_14.own 0 rfl).slice, fun _ b hb => .inr hb⟩
    refine HS.call rfl (want_by rfl rfl c_2) rfl (ec en_18 rfl rfl) (law33_copied_walk (fr := (Ow.own 67 2 e_api_Branch vr_1_2 r_1_2 :: Ow.own 67 2 e_api_Branch vr_1_4 r_1_4 :: Ow.own 67 2 e_api_Branch vr_1_1 r_1_1 :: Ow.own 67 2 e_api_Branch vr_1_3 r_1_3 :: Ow.own 3 1 encI vr2_1 r2_1 :: Ow.box b_3 46 #[.int .i64 r_0_2, vr_1_2] :: Ow.own 3 1 encI vr_3 r_4 :: Ow.box b_2 46 #[.int .i64 r_0_1, vr_1_1] :: Ow.own 3 1 encI vr_1 r_2 :: Ow.own 3 1 encI vr_2 r_3 :: Ow.box b_1 39 #[.int .i64 a_Root, va_Members, va_Services, .int .u8 a_Fan] :: fr)) r1_1 vr1_1 hS hL_14 hM) ?_
    rintro vr_4 h_16 ⟨F_20, r_7, _, rfl, hk, hS, _, hM⟩
    obtain ⟨hS, hk⟩ := hZ_14.back hk hS
    generalize (fun bz_ => F_20 bz_ ∧ ¬ (Ow.own 3 1 encI vr1_1 r1_1).foot bz_) = F_21 at hS hk
    replace hK := hK.trans hk
    replace hL_a_Members := hL_a_Members.kp hk
    replace hL_a_Services := hL_a_Services.kp hk
    refine HA.one (k := 22) ⟨⟨(hS.box 7 rfl), (hS.box 9 rfl)⟩, (Go.Wk.at_nil _ _)⟩ (by kernel_rfl) ?_
    replace hS : St F_21 (Ow.own 3 1 encI vr2_1 r2_1 :: Ow.own 3 1 encI vr1_1 r1_1 :: Ow.own 3 1 encI vr_4 r_7 :: Ow.own 67 2 e_api_Branch vr_1_2 r_1_2 :: Ow.own 67 2 e_api_Branch vr_1_4 r_1_4 :: Ow.own 67 2 e_api_Branch vr_1_1 r_1_1 :: Ow.own 67 2 e_api_Branch vr_1_3 r_1_3 :: Ow.box b_3 46 #[.int .i64 r_0_2, vr_1_2] :: Ow.own 3 1 encI vr_3 r_4 :: Ow.box b_2 46 #[.int .i64 r_0_1, vr_1_1] :: Ow.own 3 1 encI vr_1 r_2 :: Ow.own 3 1 encI vr_2 r_3 :: Ow.box b_1 39 #[.int .i64 a_Root, va_Members, va_Services, .int .u8 a_Fan] :: fr) h_16 := hS.perm2 [6, 0, 1, 2, 3, 4, 5, 7, 8, 9, 10, 11, 12] 13 rfl rfl
    have hZ_15 := hS
    have hkz_15 := (hS.freeze).2
    replace hS := hS.freeze.1
    have hL_15 : SliceF (fun bz_ => F_21 bz_ ∨ (Ow.own 3 1 encI vr2_1 r2_1).foot bz_) h_16 1 encI vr2_1 r2_1 := ⟨(hZ_15.own 0 rfl).slice, fun _ b hb => .inr hb⟩
    refine HS.call rfl (want_by rfl rfl c_2) rfl (ec en_18 rfl rfl) (law33_copied_walk (fr := (Ow.own 3 1 encI vr1_1 r1_1 :: Ow.own 3 1 encI vr_4 r_7 :: Ow.own 67 2 e_api_Branch vr_1_2 r_1_2 :: Ow.own 67 2 e_api_Branch vr_1_4 r_1_4 :: Ow.own 67 2 e_api_Branch vr_1_1 r_1_1 :: Ow.own 67 2 e_api_Branch vr_1_3 r_1_3 :: Ow.box b_3 46 #[.int .i64 r_0_2, vr_1_2] :: Ow.own 3 1 encI vr_3 r_4 :: Ow.box b_2 46 #[.int .i64 r_0_1, vr_1_1] :: Ow.own 3 1 encI vr_1 r_2 :: Ow.own 3 1 encI vr_2 r_3 :: Ow.box b_1 39 #[.int .i64 a_Root, va_Members, va_Services, .int .u8 a_Fan] :: fr)) r2_1 vr2_1 hS hL_15 hM) ?_
    rintro vr_5 h_17 ⟨F_22, r_8, _, rfl, hk, hS, _, hM⟩
    obtain ⟨hS, hk⟩ := hZ_15.back hk hS
    generalize (fun bz_ => F_22 bz_ ∧ ¬ (Ow.own 3 1 encI vr2_1 r2_1).foot bz_) = F_23 at hS hk
    replace hK := hK.trans hk
    replace hL_a_Members := hL_a_Members.kp hk
    replace hL_a_Services := hL_a_Services.kp hk
    refine HA.one (k := 24) ⟨⟨(hS.box 8 rfl), (hS.box 10 rfl)⟩, (Go.Wk.at_nil _ _)⟩ (by kernel_rfl) ?_
    replace hS : St F_23 (Ow.own 67 2 e_api_Branch vr_1_1 r_1_1 :: Ow.own 3 1 encI vr2_1 r2_1 :: Ow.own 3 1 encI vr_5 r_8 :: Ow.own 3 1 encI vr1_1 r1_1 :: Ow.own 3 1 encI vr_4 r_7 :: Ow.own 67 2 e_api_Branch vr_1_2 r_1_2 :: Ow.own 67 2 e_api_Branch vr_1_4 r_1_4 :: Ow.own 67 2 e_api_Branch vr_1_3 r_1_3 :: Ow.box b_3 46 #[.int .i64 r_0_2, vr_1_2] :: Ow.own 3 1 encI vr_3 r_4 :: Ow.box b_2 46 #[.int .i64 r_0_1, vr_1_1] :: Ow.own 3 1 encI vr_1 r_2 :: Ow.own 3 1 encI vr_2 r_3 :: Ow.box b_1 39 #[.int .i64 a_Root, va_Members, va_Services, .int .u8 a_Fan] :: fr) h_17 := hS.perm2 [6, 0, 1, 2, 3, 4, 5, 7, 8, 9, 10, 11, 12, 13] 14 rfl rfl
    have hZ_16 := hS
    have hkz_16 := (hS.freeze).2
    replace hS := hS.freeze.1
    have hL_16 : SliceF (fun bz_ => F_23 bz_ ∨ (Ow.own 67 2 e_api_Branch vr_1_1 r_1_1).foot bz_) h_17 2 e_api_Branch vr_1_1 r_1_1 := ⟨(hZ_16.own 0 rfl).slice, fun _ b hb => .inr hb⟩
    replace hS : St (fun bz_ => F_23 bz_ ∨ (Ow.own 67 2 e_api_Branch vr_1_1 r_1_1).foot bz_) (Ow.own 3 1 encI vr_4 r_7 :: Ow.own 3 1 encI vr2_1 r2_1 :: Ow.own 3 1 encI vr_5 r_8 :: Ow.own 3 1 encI vr1_1 r1_1 :: Ow.own 67 2 e_api_Branch vr_1_2 r_1_2 :: Ow.own 67 2 e_api_Branch vr_1_4 r_1_4 :: Ow.own 67 2 e_api_Branch vr_1_3 r_1_3 :: Ow.box b_3 46 #[.int .i64 r_0_2, vr_1_2] :: Ow.own 3 1 encI vr_3 r_4 :: Ow.box b_2 46 #[.int .i64 r_0_1, vr_1_1] :: Ow.own 3 1 encI vr_1 r_2 :: Ow.own 3 1 encI vr_2 r_3 :: Ow.box b_1 39 #[.int .i64 a_Root, va_Members, va_Services, .int .u8 a_Fan] :: fr) h_17 := hS.perm2 [3, 0, 1, 2, 4, 5, 6, 7, 8, 9, 10, 11, 12] 13 rfl rfl
    have hZ_17 := hS
    have hkz_17 := (hS.freeze).2
    replace hS := hS.freeze.1
    have hL_17 : SliceF (fun bz_ => (fun bz_ => F_23 bz_ ∨ (Ow.own 67 2 e_api_Branch vr_1_1 r_1_1).foot bz_) bz_ ∨ (Ow.own 3 1 encI vr_4 r_7).foot bz_) h_17 1 encI vr_4 r_7 := ⟨(hZ_17.own 0 rfl).slice, fun _ b hb => .inr hb⟩
    replace hS : St (fun bz_ => (fun bz_ => F_23 bz_ ∨ (Ow.own 67 2 e_api_Branch vr_1_1 r_1_1).foot bz_) bz_ ∨ (Ow.own 3 1 encI vr_4 r_7).foot bz_) (Ow.own 3 1 encI vr_5 r_8 :: Ow.own 3 1 encI vr2_1 r2_1 :: Ow.own 3 1 encI vr1_1 r1_1 :: Ow.own 67 2 e_api_Branch vr_1_2 r_1_2 :: Ow.own 67 2 e_api_Branch vr_1_4 r_1_4 :: Ow.own 67 2 e_api_Branch vr_1_3 r_1_3 :: Ow.box b_3 46 #[.int .i64 r_0_2, vr_1_2] :: Ow.own 3 1 encI vr_3 r_4 :: Ow.box b_2 46 #[.int .i64 r_0_1, vr_1_1] :: Ow.own 3 1 encI vr_1 r_2 :: Ow.own 3 1 encI vr_2 r_3 :: Ow.box b_1 39 #[.int .i64 a_Root, va_Members, va_Services, .int .u8 a_Fan] :: fr) h_17 := hS.perm2 [1, 0, 2, 3, 4, 5, 6, 7, 8, 9, 10, 11] 12 rfl rfl
    have hZ_18 := hS
    have hkz_18 := (hS.freeze).2
    replace hS := hS.freeze.1
    have hL_18 : SliceF (fun bz_ => (fun bz_ => (fun bz_ => F_23 bz_ ∨ (Ow.own 67 2 e_api_Branch vr_1_1 r_1_1).foot bz_) bz_ ∨ (Ow.own 3 1 encI vr_4 r_7).foot bz_) bz_ ∨ (Ow.own 3 1 encI vr_5 r_8).foot bz_) h_17 1 encI vr_5 r_8 := ⟨(hZ_18.own 0 rfl).slice, fun _ b hb => .inr hb⟩
    refine HS.call rfl (want_by rfl rfl c_2) rfl (ec en_22 rfl rfl) (plan_Valid_walk (fr := (Ow.own 3 1 encI vr2_1 r2_1 :: Ow.own 3 1 encI vr1_1 r1_1 :: Ow.own 67 2 e_api_Branch vr_1_2 r_1_2 :: Ow.own 67 2 e_api_Branch vr_1_4 r_1_4 :: Ow.own 67 2 e_api_Branch vr_1_3 r_1_3 :: Ow.box b_3 46 #[.int .i64 r_0_2, vr_1_2] :: Ow.own 3 1 encI vr_3 r_4 :: Ow.box b_2 46 #[.int .i64 r_0_1, vr_1_1] :: Ow.own 3 1 encI vr_1 r_2 :: Ow.own 3 1 encI vr_2 r_3 :: Ow.box b_1 39 #[.int .i64 a_Root, va_Members, va_Services, .int .u8 a_Fan] :: fr)) r_0_1 r_1_1 r0_1 r_7 r_8 r3_1 vr_1_1 vr_4 vr_5 hS ((hL_16.kp hkz_17).kp hkz_18) (hL_17.kp hkz_18) hL_18 hM) ?_
    rintro _ h_18 ⟨F_24, r_9, rfl, hk, hS, _, _, _, hM⟩
    obtain ⟨hS, hk⟩ := hZ_18.back hk hS
    obtain ⟨hS, hk⟩ := hZ_17.back hk hS
    obtain ⟨hS, hk⟩ := hZ_16.back hk hS
    generalize (fun bz_ => (fun bz_ => (fun bz_ => F_24 bz_ ∧ ¬ (Ow.own 3 1 encI vr_5 r_8).foot bz_) bz_ ∧ ¬ (Ow.own 3 1 encI vr_4 r_7).foot bz_) bz_ ∧ ¬ (Ow.own 67 2 e_api_Branch vr_1_1 r_1_1).foot bz_) = F_25 at hS hk
    replace hK := hK.trans hk
    replace hL_a_Members := hL_a_Members.kp hk
    replace hL_a_Services := hL_a_Services.kp hk
    refine HA.val (k := 25) (v := .bool (!r_9)) rfl rfl (by kernel_rfl) (by kernel_rfl) (want_by rfl rfl c_2) rfl (fun _ ⟨c210, c207⟩ => q_not rfl) ?_
    refine HA.val (k := 26) (v := .bool (!r_9)) rfl rfl (by kernel_rfl) (by kernel_rfl) (want_none) rfl (fun _ ⟨c210, c207⟩ => q_pickK false rfl c_2 rfl) ?_
    refine HA.nil ⟨⟨(hS.box 8 rfl), (hS.box 10 rfl)⟩, (Go.Wk.at_nil _ _)⟩ (by kernel_rfl) (thenQ_normal (?_))
    replace hS : St F_25 (Ow.own 3 1 encI vr1_1 r1_1 :: Ow.own 3 1 encI vr2_1 r2_1 :: Ow.box b_2 46 #[.int .i64 r_0_1, vr_1_1] :: Ow.own 67 2 e_api_Branch vr_1_1 r_1_1 :: fr) h_18 := hS.perm2 [4, 3, 10, 0] 14 rfl rfl
    exact ⟨F_25, !r_9, rfl, rfl, rfl, rfl, rfl, rfl, rfl, hK, hS, hL_a_Members, hL_a_Services, hM⟩
 ·
  rintro f_1 h_19 ⟨F_26, b_4, e2, e3, e4, e5, e6, e7, e53, hK, hS, hL_a_Members, hL_a_Services, hM⟩
  unfold law33_PlanMakes_j1 at hM
  refine HW.fr [(2, .bool false), (3, .int .i64 r0_1), (4, vr1_1), (5, vr2_1), (6, .int .i64 r3_1), (7, .pointer (some ⟨b_2, 0, none⟩)), (53, .bool b_4)] ⟨e2, e3, e4, e5, e6, e7, e53, trivial⟩ ?_
  refine HW.cond b_4 rfl (fun c_3 => ?_) (fun c_3 => ?_)
  ·
   replace hM := hM.1 c_3
   refine HW.seq ?_
   refine HW.region ?_
   refine oA (.bool false) rfl rfl ?_
   refine HO.nil (thenQ_normal (?_))
   refine HW.ret (thenQ_ret (?_))
   refine ⟨.inr rfl, .bool false, res1 rfl (rt rfl), ?_⟩
   replace hS : St F_26 (fr) h_19 := hS.perm2 [] 4 rfl rfl
   exact ⟨F_26, false, rfl, hK, hS, hL_a_Members, hL_a_Services, hM⟩
  ·
   replace hM := hM.2 c_3
   refine HW.skip (thenQ_normal (?_))
   refine HW.seq ?_
   refine HW.region ?_
   refine oV (.agg #[.int .i64 r_0_1, vr_1_1]) (q_loadAgg (cs := [.int .i64 r_0_1, vr_1_1]) ta_46 rfl rfl (Blk.cells (k := 2) (hS.box 2 rfl) rfl)) rfl ?_
   refine oM (.int .i64 r0_1) rfl rfl ?_
   refine oM (vr1_1) rfl rfl ?_
   refine oM (vr2_1) rfl rfl ?_
   refine oM (.int .i64 r3_1) rfl rfl ?_
   replace hS : St F_26 (Ow.own 67 2 e_api_Branch vr_1_1 r_1_1 :: Ow.own 3 1 encI vr1_1 r1_1 :: Ow.own 3 1 encI vr2_1 r2_1 :: Ow.box b_2 46 #[.int .i64 r_0_1, vr_1_1] :: fr) h_19 := hS.perm2 [3, 0, 1, 2] 4 rfl rfl
   have hZ_19 := hS
   have hkz_19 := (hS.freeze).2
   replace hS := hS.freeze.1
   have hL_19 : SliceF (fun bz_ => F_26 bz_ ∨ (Ow.own 67 2 e_api_Branch vr_1_1 r_1_1).foot bz_) h_19 2 e_api_Branch vr_1_1 r_1_1 := ⟨(hZ_19.own 0 rfl).slice, fun _ b hb => .inr hb⟩
   have hZ_20 := hS
   have hkz_20 := (hS.freeze).2
   replace hS := hS.freeze.1
   have hL_20 : SliceF (fun bz_ => (fun bz_ => F_26 bz_ ∨ (Ow.own 67 2 e_api_Branch vr_1_1 r_1_1).foot bz_) bz_ ∨ (Ow.own 3 1 encI vr1_1 r1_1).foot bz_) h_19 1 encI vr1_1 r1_1 := ⟨(hZ_20.own 0 rfl).slice, fun _ b hb => .inr hb⟩
   have hZ_21 := hS
   have hkz_21 := (hS.freeze).2
   replace hS := hS.freeze.1
   have hL_21 : SliceF (fun bz_ => (fun bz_ => (fun bz_ => F_26 bz_ ∨ (Ow.own 67 2 e_api_Branch vr_1_1 r_1_1).foot bz_) bz_ ∨ (Ow.own 3 1 encI vr1_1 r1_1).foot bz_) bz_ ∨ (Ow.own 3 1 encI vr2_1 r2_1).foot bz_) h_19 1 encI vr2_1 r2_1 := ⟨(hZ_21.own 0 rfl).slice, fun _ b hb => .inr hb⟩
   refine HO.call (want_none) rfl (ec en_24 rfl rfl) (ref33_Valid_walk (fr := (Ow.box b_2 46 #[.int .i64 r_0_1, vr_1_1] :: fr)) r_0_1 r_1_1 r0_1 r1_1 r2_1 r3_1 vr_1_1 vr1_1 vr2_1 hS ((hL_19.kp hkz_20).kp hkz_21) (hL_20.kp hkz_21) hL_21 hM) ?_
   rintro _ h_20 ⟨F_27, r_10, rfl, hk, hS, _, _, _, hM⟩
   obtain ⟨hS, hk⟩ := hZ_21.back hk hS
   obtain ⟨hS, hk⟩ := hZ_20.back hk hS
   obtain ⟨hS, hk⟩ := hZ_19.back hk hS
   generalize (fun bz_ => (fun bz_ => (fun bz_ => F_27 bz_ ∧ ¬ (Ow.own 3 1 encI vr2_1 r2_1).foot bz_) bz_ ∧ ¬ (Ow.own 3 1 encI vr1_1 r1_1).foot bz_) bz_ ∧ ¬ (Ow.own 67 2 e_api_Branch vr_1_1 r_1_1).foot bz_) = F_28 at hS hk
   replace hK := hK.trans hk
   replace hL_a_Members := hL_a_Members.kp hk
   replace hL_a_Services := hL_a_Services.kp hk
   refine oM (.bool r_10) rfl rfl ?_
   rcases Bool.eq_false_or_eq_true r_10 with c_4 | c_4
   ·
    replace hM := hM.1 c_4
    refine HO.val (v := vr1_1) (want_by rfl rfl c_4) rfl (q_move rfl) ?_
    refine HO.val (v := .int .i64 (r1_1.length : Int)) (want_by rfl rfl c_4) rfl (q_len ts_31 (shp (hS.own 1 rfl).slice) rfl rfl) ?_
    refine HO.val (v := vr2_1) (want_by rfl rfl c_4) rfl (q_move rfl) ?_
    refine HO.val (v := .int .i64 (r2_1.length : Int)) (want_by rfl rfl c_4) rfl (q_len ts_31 (shp (hS.own 2 rfl).slice) rfl rfl) ?_
    refine HO.val (v := .int .i64 r3_1) (want_by rfl rfl c_4) rfl (q_move rfl) ?_
    refine HO.call (want_by rfl rfl c_4) rfl (ec en_27 rfl rfl) (ref33_Fits_walk (fr := (Ow.own 67 2 e_api_Branch vr_1_1 r_1_1 :: Ow.own 3 1 encI vr1_1 r1_1 :: Ow.own 3 1 encI vr2_1 r2_1 :: Ow.box b_2 46 #[.int .i64 r_0_1, vr_1_1] :: fr)) (r1_1.length : Int) (r2_1.length : Int) r3_1 hS hM) ?_
    rintro _ h_21 ⟨F_29, r_11, rfl, hk, hS, hM⟩
    replace hK := hK.trans hk
    replace hL_a_Members := hL_a_Members.kp hk
    replace hL_a_Services := hL_a_Services.kp hk
    refine HO.val (v := .bool (!r_11)) (want_by rfl rfl c_4) rfl (q_not rfl) ?_
    refine HO.val (v := .bool (!r_11)) (want_by rfl rfl c_4) rfl (q_move rfl) ?_
    rcases Bool.eq_false_or_eq_true (!r_11) with c_5 | c_5
    ·
     replace hM := hM.1 c_5
     refine HO.past (past_by rfl rfl c_5) rfl ?_
     refine HO.past (past_by rfl rfl c_5) rfl ?_
     refine HO.past (past_by rfl rfl c_5) rfl ?_
     refine HO.past (past_by rfl rfl c_5) rfl ?_
     refine HO.val (v := .bool true) (want_by rfl rfl c_4) rfl (q_pickK true rfl c_5 rfl) ?_
     refine oV (.bool true) (q_pickK true rfl c_4 rfl) rfl ?_
     refine oM (.bool true) rfl rfl ?_
     refine HO.call (want_some rfl rfl) rfl (ec en_11 rfl rfl) (law33_lives_walk (fr := (Ow.own 67 2 e_api_Branch vr_1_1 r_1_1 :: Ow.own 3 1 encI vr1_1 r1_1 :: Ow.own 3 1 encI vr2_1 r2_1 :: Ow.box b_2 46 #[.int .i64 r_0_1, vr_1_1] :: fr))  hS hD hM) ?_
     rintro _ h_22 ⟨F_30, r_12, rfl, hk, hS, hM⟩
     replace hK := hK.trans hk
     replace hL_a_Members := hL_a_Members.kp hk
     replace hL_a_Services := hL_a_Services.kp hk
     refine oV (.bool r_12) (q_pick rfl rfl) rfl ?_
     refine oA (.bool r_12) rfl rfl ?_
     refine HO.nil (thenQ_normal (?_))
     refine HW.ret (?_)
     refine ⟨.inr rfl, .bool r_12, res1 rfl (rt rfl), ?_⟩
     replace hS : St F_30 (fr) h_22 := hS.perm2 [] 4 rfl rfl
     exact ⟨F_30, r_12, rfl, hK, hS, hL_a_Members, hL_a_Services, hM⟩
    ·
     replace hM := hM.2 c_5
     refine HO.val (v := .agg #[.int .i64 r_0_1, vr_1_1]) (want_by rfl rfl c_5) rfl (q_loadAgg (cs := [.int .i64 r_0_1, vr_1_1]) ta_46 rfl rfl (Blk.cells (k := 2) (hS.box 3 rfl) rfl)) ?_
     have hZ_22 := hS
     have hkz_22 := (hS.freeze).2
     replace hS := hS.freeze.1
     have hL_22 : SliceF (fun bz_ => F_29 bz_ ∨ (Ow.own 67 2 e_api_Branch vr_1_1 r_1_1).foot bz_) h_21 2 e_api_Branch vr_1_1 r_1_1 := ⟨(hZ_22.own 0 rfl).slice, fun _ b hb => .inr hb⟩
     refine HO.call (want_by rfl rfl c_5) rfl (ec en_28 rfl rfl) (ref32_Fan_walk (fr := (Ow.own 3 1 encI vr1_1 r1_1 :: Ow.own 3 1 encI vr2_1 r2_1 :: Ow.box b_2 46 #[.int .i64 r_0_1, vr_1_1] :: fr)) r_0_1 r_1_1 vr_1_1 hS hL_22 hM) ?_
     rintro _ h_23 ⟨F_31, r_13, rfl, hk, hS, _, hM⟩
     obtain ⟨hS, hk⟩ := hZ_22.back hk hS
     generalize (fun bz_ => F_31 bz_ ∧ ¬ (Ow.own 67 2 e_api_Branch vr_1_1 r_1_1).foot bz_) = F_32 at hS hk
     replace hK := hK.trans hk
     replace hL_a_Members := hL_a_Members.kp hk
     replace hL_a_Services := hL_a_Services.kp hk
     refine HO.val (v := .int .i64 r3_1) (want_by rfl rfl c_5) rfl (q_move rfl) ?_
     refine HO.val (v := .bool (decide (r_13 ≤ r3_1))) (want_by rfl rfl c_5) rfl (q_leq rfl rfl) ?_
     refine HO.val (v := .bool (decide (r_13 ≤ r3_1))) (want_by rfl rfl c_4) rfl (q_pickK false rfl c_5 rfl) ?_
     refine oV (.bool (decide (r_13 ≤ r3_1))) (q_pickK true rfl c_4 rfl) rfl ?_
     refine oM (.bool (decide (r_13 ≤ r3_1))) rfl rfl ?_
     rcases Bool.eq_false_or_eq_true (decide (r_13 ≤ r3_1)) with c_6 | c_6
     ·
      replace hM := hM.1 (of_decide_eq_true c_6)
      refine HO.call (want_by rfl rfl c_6) rfl (ec en_11 rfl rfl) (law33_lives_walk (fr := (Ow.own 67 2 e_api_Branch vr_1_1 r_1_1 :: Ow.own 3 1 encI vr1_1 r1_1 :: Ow.own 3 1 encI vr2_1 r2_1 :: Ow.box b_2 46 #[.int .i64 r_0_1, vr_1_1] :: fr))  hS hD hM) ?_
      rintro _ h_24 ⟨F_33, r_14, rfl, hk, hS, hM⟩
      replace hK := hK.trans hk
      replace hL_a_Members := hL_a_Members.kp hk
      replace hL_a_Services := hL_a_Services.kp hk
      refine oV (.bool r_14) (q_pickK true rfl c_6 rfl) rfl ?_
      refine oA (.bool r_14) rfl rfl ?_
      refine HO.nil (thenQ_normal (?_))
      refine HW.ret (?_)
      refine ⟨.inr rfl, .bool r_14, res1 rfl (rt rfl), ?_⟩
      replace hS : St F_33 (fr) h_24 := hS.perm2 [] 4 rfl rfl
      exact ⟨F_33, r_14, rfl, hK, hS, hL_a_Members, hL_a_Services, hM⟩
     ·
      replace hM := hM.2 (of_decide_eq_false c_6)
      refine HO.past (past_by rfl rfl c_6) rfl ?_
      refine oV (.bool false) (q_pickK false rfl c_6 rfl) rfl ?_
      refine oA (.bool false) rfl rfl ?_
      refine HO.nil (thenQ_normal (?_))
      refine HW.ret (?_)
      refine ⟨.inr rfl, .bool false, res1 rfl (rt rfl), ?_⟩
      replace hS : St F_32 (fr) h_23 := hS.perm2 [] 4 rfl rfl
      exact ⟨F_32, false, rfl, hK, hS, hL_a_Members, hL_a_Services, hM⟩
   ·
    replace hM := hM.2 c_4
    refine HO.past (past_by rfl rfl c_4) rfl ?_
    refine HO.past (past_by rfl rfl c_4) rfl ?_
    refine HO.past (past_by rfl rfl c_4) rfl ?_
    refine HO.past (past_by rfl rfl c_4) rfl ?_
    refine HO.past (past_by rfl rfl c_4) rfl ?_
    refine HO.past (past_by rfl rfl c_4) rfl ?_
    refine HO.past (past_by rfl rfl c_4) rfl ?_
    refine HO.past (past_by rfl rfl c_4) rfl ?_
    refine HO.past (past_undef rfl rfl) rfl ?_
    refine HO.past (past_undef rfl rfl) rfl ?_
    refine HO.past (past_undef rfl rfl) rfl ?_
    refine HO.past (past_undef rfl rfl) rfl ?_
    refine HO.past (past_by rfl rfl c_4) rfl ?_
    refine oV (.bool false) (q_pickK false rfl c_4 rfl) rfl ?_
    refine oM (.bool false) rfl rfl ?_
    refine HO.past (past_some rfl rfl) rfl ?_
    refine oV (.bool false) (q_pick rfl rfl) rfl ?_
    refine oA (.bool false) rfl rfl ?_
    refine HO.nil (thenQ_normal (?_))
    refine HW.ret (?_)
    refine ⟨.inr rfl, .bool false, res1 rfl (rt rfl), ?_⟩
    replace hS : St F_28 (fr) h_20 := hS.perm2 [] 4 rfl rfl
    exact ⟨F_28, false, rfl, hK, hS, hL_a_Members, hL_a_Services, hM⟩
end Go.Wk
