/- test -/
import Derived.Test.YtnemfpgfgblpbaaAudW2
set_option linter.unusedSimpArgs false
set_option linter.unusedVariables false
set_option linter.unusedSectionVars false
namespace Go.Wk
open Go.HL
open Go.Proofs hiding encI
variable [DM]

def law44_AuditHolds_j1 (q_Want : List (Int × Int)) (q_But : Int × Int) (r_4 : List (Int × Int × Int × Int × Str)) (all_2 : Bool) (i_3 : Int) (K_3 : Bool → Int → Prop) (b_5 : Bool) : Prop :=
  (b_5 = true → (all_2 = true → (¬ ((((gi r_4 i_3).2.1, (gi r_4 i_3).2.2.2.1) : Int × Int) = q_But) → law44_own_W q_Want (fun r_12 => ref44_Has_W r_12 ((gi r_4 i_3).2.1, (gi r_4 i_3).2.2.2.1) (fun r_13 => (I64 (i_3 + 1)) ∧ (K_3 r_13 (i_3 + 1))))) ∧ ((((gi r_4 i_3).2.1, (gi r_4 i_3).2.2.2.1) : Int × Int) = q_But → (I64 (i_3 + 1)) ∧ (K_3 false (i_3 + 1)))) ∧ (all_2 = false → (I64 (i_3 + 1)) ∧ (K_3 false (i_3 + 1)))) ∧ (b_5 = false → (I64 (i_3 + 1)) ∧ (K_3 all_2 (i_3 + 1)))
def law44_AuditHolds_l3 (q_Id : Int) (q_Vlan : Int) (q_Want : List (Int × Int)) (q_But : Int × Int) (Q : Bool → Prop) (r_4 : List (Int × Int × Int × Int × Str)) (r0_1 : List (Int × Int)) (r1_1 : List (Int × Int)) (again_1 : Bool) (K_3 : Bool → Int → Prop) (all_2 : Bool) (i_3 : Int) : Prop :=
  (i_3 < (r_4.length : Int) → ((0 : Int) ≤ i_3 ∧ i_3 < (r_4.length : Int)) ∧ ((((gi r_4 i_3).1) = q_Id → law44_AuditHolds_j1 q_Want q_But r_4 all_2 i_3 K_3 (decide (((gi r_4 i_3).2.2.1) = q_Vlan))) ∧ (¬ (((gi r_4 i_3).1) = q_Id) → law44_AuditHolds_j1 q_Want q_But r_4 all_2 i_3 K_3 false))) ∧ (¬ (i_3 < (r_4.length : Int)) → ((r0_1.length : Int) = 0 → ((r1_1.length : Int) = 0 → (((!again_1) == all_2) = true → law44_lives_W  (fun r_14 => Q r_14)) ∧ (((!again_1) == all_2) = false → Q false)) ∧ (¬ ((r1_1.length : Int) = 0) → ((false == all_2) = true → law44_lives_W  (fun r_15 => Q r_15)) ∧ ((false == all_2) = false → Q false))) ∧ (¬ ((r0_1.length : Int) = 0) → ((false == all_2) = true → law44_lives_W  (fun r_16 => Q r_16)) ∧ ((false == all_2) = false → Q false)))
def law44_AuditHolds_l2 (q_Id : Int) (q_Vlan : Int) (q_Want : List (Int × Int)) (q_But : Int × Int) (Q : Bool → Prop) (r_4 : List (Int × Int × Int × Int × Str)) (r0_1 : List (Int × Int)) (r1_1 : List (Int × Int)) (again_1 : Bool) (K_2 : Bool → Int → Prop) (all_1 : Bool) (i_2 : Int) : Prop :=
  law44_own_W q_Want (fun r_9 => (i_2 < (r_9.length : Int) → law44_own_W q_Want (fun r_10 => ((0 : Int) ≤ i_2 ∧ i_2 < (r_10.length : Int)) ∧ (ref44_Count_W r_4 q_Id q_Vlan (gi r_10 i_2) (fun r_11 => (all_1 = true → (((gi r_10 i_2) : Int × Int) = q_But → (r_11 = 0 → (I64 (i_2 + 1)) ∧ (K_2 true (i_2 + 1))) ∧ (¬ (r_11 = 0) → (I64 (i_2 + 1)) ∧ (K_2 false (i_2 + 1)))) ∧ (¬ (((gi r_10 i_2) : Int × Int) = q_But) → (I64 (i_2 + 1)) ∧ (K_2 (decide (r_11 = 1)) (i_2 + 1)))) ∧ (all_1 = false → (I64 (i_2 + 1)) ∧ (K_2 false (i_2 + 1))))))) ∧ (¬ (i_2 < (r_9.length : Int)) → loopW (fun (K_3 : (Bool × Int) → Prop) (s : Bool × Int) => law44_AuditHolds_l3 q_Id q_Vlan q_Want q_But Q r_4 r0_1 r1_1 again_1 (fun all_2 i_3 => K_3 (all_2, i_3)) s.1 s.2) (all_1, 0)))
def law44_AuditHolds_l1 (q_Id : Int) (q_Vlan : Int) (q_Want : List (Int × Int)) (q_But : Int × Int) (Q : Bool → Prop) (r_4 : List (Int × Int × Int × Int × Str)) (r0_1 : List (Int × Int)) (r1_1 : List (Int × Int)) (r_8 : List (Int × Int × Int × Int × Str)) (K_1 : Bool → Int → Prop) (again_1 : Bool) (i_1 : Int) : Prop :=
  (i_1 < (r_8.length : Int) → (again_1 = true → (I64 (i_1 + 1)) ∧ (K_1 true (i_1 + 1))) ∧ (again_1 = false → ((0 : Int) ≤ i_1 ∧ i_1 < (r_8.length : Int)) ∧ ((((gi r_8 i_1).1) = q_Id → (I64 (i_1 + 1)) ∧ (K_1 (decide (((gi r_8 i_1).2.2.1) = q_Vlan)) (i_1 + 1))) ∧ (¬ (((gi r_8 i_1).1) = q_Id) → (I64 (i_1 + 1)) ∧ (K_1 false (i_1 + 1)))))) ∧ (¬ (i_1 < (r_8.length : Int)) → loopW (fun (K_2 : (Bool × Int) → Prop) (s : Bool × Int) => law44_AuditHolds_l2 q_Id q_Vlan q_Want q_But Q r_4 r0_1 r1_1 again_1 (fun all_1 i_2 => K_2 (all_1, i_2)) s.1 s.2) (true, 0))
def law44_AuditHolds_W (x : List (Int × Int × Int × Int × Str)) (q_Id : Int) (q_Vlan : Int) (q_Want : List (Int × Int)) (q_But : Int × Int) (Q : Bool → Prop) : Prop :=
  audit_New_W  (law44_few_W x (fun r_3 => law44_taken_W r_3 (fun r_4 => law44_few_W x (fun r_5 => audit_Audit_Add_W [] [] 0 r_5 (fun r_6 am_1 a_twice_1 a_all_1 => law44_own_W q_Want (fun r_7 => audit_Audit_Held_W am_1 a_twice_1 a_all_1 q_Id q_Vlan r_7 q_But (fun r0_1 r1_1 am_2 a_twice_2 a_all_2 => audit_Audit_Twice_W am_2 a_twice_2 a_all_2 (fun r_8 am_3 a_twice_3 a_all_3 => loopW (fun (K_1 : (Bool × Int) → Prop) (s : Bool × Int) => law44_AuditHolds_l1 q_Id q_Vlan q_Want q_But Q r_4 r0_1 r1_1 r_8 (fun again_1 i_1 => K_1 (again_1, i_1)) s.1 s.2) (false, 0)))))))))
set_option maxHeartbeats 40000000 in
set_option maxRecDepth 100000 in
theorem law44_AuditHolds_walk {F : Fz} {fr : List Ow} {h0 : Heap} (x : List (Int × Int × Int × Int × Str)) (q_Id : Int) (q_Vlan : Int) (q_Want : List (Int × Int)) (q_But : Int × Int) (vx : Value) (vq_Want : Value) (hS : St F (fr) h0) (hL_x : SliceF F h0 5 e_api_Given vx x) (hL_q_Want : SliceF F h0 2 e_api_Spot vq_Want q_Want) {Q : Bool → Prop} (hM : law44_AuditHolds_W x q_Id q_Vlan q_Want q_But Q) :
    HC Try.prog 12 #[vx, .agg #[.int .i64 q_Id, .int .i64 q_Vlan, vq_Want, .int .i64 q_But.1, .int .i64 q_But.2]] h0 fun u h' => ∃ (F' : Fz) (r_1 : Bool), u = .bool r_1 ∧ Kp F h0 F' h' ∧ St F' (fr) h' ∧ (SliceF F' h' 5 e_api_Given vx x) ∧ (SliceF F' h' 2 e_api_Spot vq_Want q_Want) ∧ Q r_1 := by
  unfold law44_AuditHolds_W at hM
  have hK := Kp.refl F h0
  refine HC.of_HW (n := 177) Try.func12 rfl rfl (Nat.le_of_ble_eq_true rfl) ?_
  refine HW.seq ?_
  refine HW.region ?_
  refine HO.eff (want_none) rfl (st_box (c := #[.int .i64 q_Id, .int .i64 q_Vlan, vq_Want, .int .i64 q_But.1, .int .i64 q_But.2]) (k' := 5) hS rfl rfl) ?_
  rintro _ h_1 ⟨b_1, rfl, hS, hk⟩
  replace hK := hK.trans hk
  replace hL_x := hL_x.kp hk
  replace hL_q_Want := hL_q_Want.kp hk
  refine HO.val (v := .bool false) (want_none) rfl (q_assign rfl) ?_
  refine HO.nil (thenQ_normal (?_))
  refine HW.seq ?_
  refine HW.region ?_
  refine HO.call (want_none) rfl (ec en_71 rfl rfl) (audit_New_walk (fr := (Ow.box b_1 102 #[.int .i64 q_Id, .int .i64 q_Vlan, vq_Want, .int .i64 q_But.1, .int .i64 q_But.2] :: fr))  hS hM) ?_
  rintro _ h_2 ⟨F_1, b_2, r_2, rfl, hk, hS, hM⟩
  replace hK := hK.trans hk
  replace hL_x := hL_x.kp hk
  replace hL_q_Want := hL_q_Want.kp hk
  refine HO.val (v := vx) (want_none) rfl (q_move rfl) ?_
  refine HO.call (want_none) rfl (ec en_73 rfl rfl) (law44_few_walk (fr := (Ow.box b_2 151 #[.map (some r_2), .slice none 0 0, .int .i64 0] :: Ow.map r_2 (fun (x : Int × Int × Int × Int) => .agg #[.int .i64 x.1, .int .i64 x.2.1, .int .i64 x.2.2.1, .int .i64 x.2.2.2]) kI ([] : List ((Int × Int × Int × Int) × Int)) :: Ow.box b_1 102 #[.int .i64 q_Id, .int .i64 q_Vlan, vq_Want, .int .i64 q_But.1, .int .i64 q_But.2] :: fr)) x vx hS hL_x hM) ?_
  rintro vr_1 h_3 ⟨F_2, r_3, _, rfl, hk, hS, _, hM⟩
  replace hK := hK.trans hk
  replace hL_x := hL_x.kp hk
  replace hL_q_Want := hL_q_Want.kp hk
  have hZ_1 := hS
  have hkz_1 := (hS.freeze).2
  replace hS := hS.freeze.1
  have hL_1 : SliceF (fun b => F_2 b ∨ (Ow.own 112 5 e_api_Given vr_1 r_3).foot b) h_3 5 e_api_Given vr_1 r_3 := ⟨(hZ_1.own 0 rfl).slice, fun _ b hb => .inr hb⟩
  refine HO.call (want_none) rfl (ec en_72 rfl rfl) (law44_taken_walk (fr := (Ow.box b_2 151 #[.map (some r_2), .slice none 0 0, .int .i64 0] :: Ow.map r_2 (fun (x : Int × Int × Int × Int) => .agg #[.int .i64 x.1, .int .i64 x.2.1, .int .i64 x.2.2.1, .int .i64 x.2.2.2]) kI ([] : List ((Int × Int × Int × Int) × Int)) :: Ow.box b_1 102 #[.int .i64 q_Id, .int .i64 q_Vlan, vq_Want, .int .i64 q_But.1, .int .i64 q_But.2] :: fr)) r_3 vr_1 hS hL_1 hM) ?_
  rintro vr_2 h_4 ⟨F_3, r_4, _, rfl, hk, hS, _, hM⟩
  obtain ⟨hS, hk⟩ := hZ_1.back hk hS
  generalize (fun b => F_3 b ∧ ¬ (Ow.own 112 5 e_api_Given vr_1 r_3).foot b) = F_4 at hS hk
  replace hK := hK.trans hk
  replace hL_x := hL_x.kp hk
  replace hL_q_Want := hL_q_Want.kp hk
  refine HO.val (v := .pointer (some ⟨b_2, 0, none⟩)) (want_none) rfl (q_assign rfl) ?_
  refine HO.val (v := vr_2) (want_none) rfl (q_assign rfl) ?_
  refine HO.nil (thenQ_normal (?_))
  refine HW.seq ?_
  refine HW.region ?_
  refine HO.val (v := .pointer (some ⟨b_2, 0, none⟩)) (want_none) rfl (q_move rfl) ?_
  refine HO.val (v := vx) (want_none) rfl (q_move rfl) ?_
  refine HO.call (want_none) rfl (ec en_73 rfl rfl) (law44_few_walk (fr := (Ow.own 112 5 e_api_Given vr_1 r_3 :: Ow.own 112 5 e_api_Given vr_2 r_4 :: Ow.box b_2 151 #[.map (some r_2), .slice none 0 0, .int .i64 0] :: Ow.map r_2 (fun (x : Int × Int × Int × Int) => .agg #[.int .i64 x.1, .int .i64 x.2.1, .int .i64 x.2.2.1, .int .i64 x.2.2.2]) kI ([] : List ((Int × Int × Int × Int) × Int)) :: Ow.box b_1 102 #[.int .i64 q_Id, .int .i64 q_Vlan, vq_Want, .int .i64 q_But.1, .int .i64 q_But.2] :: fr)) x vx hS hL_x hM) ?_
  rintro vr_3 h_5 ⟨F_5, r_5, _, rfl, hk, hS, _, hM⟩
  replace hK := hK.trans hk
  replace hL_x := hL_x.kp hk
  replace hL_q_Want := hL_q_Want.kp hk
  have hZ_2 := hS
  have hkz_2 := (hS.freeze).2
  replace hS := hS.freeze.1
  have hL_2 : SliceF (fun b => F_5 b ∨ (Ow.own 112 5 e_api_Given vr_3 r_5).foot b) h_5 5 e_api_Given vr_3 r_5 := ⟨(hZ_2.own 0 rfl).slice, fun _ b hb => .inr hb⟩
  replace hS := hS.nilOwn 112 5 e_api_Given
  replace hS : St (fun b => F_5 b ∨ (Ow.own 112 5 e_api_Given vr_3 r_5).foot b) (Ow.box b_2 151 #[.map (some r_2), .slice none 0 0, .int .i64 0] :: Ow.map r_2 (fun (x : Int × Int × Int × Int) => .agg #[.int .i64 x.1, .int .i64 x.2.1, .int .i64 x.2.2.1, .int .i64 x.2.2.2]) kI ([] : List ((Int × Int × Int × Int) × Int)) :: Ow.own 112 5 e_api_Given (.slice none 0 0) ([] : List (Int × Int × Int × Int × Str)) :: Ow.own 112 5 e_api_Given vr_1 r_3 :: Ow.own 112 5 e_api_Given vr_2 r_4 :: Ow.box b_1 102 #[.int .i64 q_Id, .int .i64 q_Vlan, vq_Want, .int .i64 q_But.1, .int .i64 q_But.2] :: fr) h_5 := St.perm (front := [Ow.own 112 5 e_api_Given (.slice none 0 0) ([] : List (Int × Int × Int × Int × Str)), Ow.own 112 5 e_api_Given vr_1 r_3, Ow.own 112 5 e_api_Given vr_2 r_4, Ow.box b_2 151 #[.map (some r_2), .slice none 0 0, .int .i64 0], Ow.map r_2 (fun (x : Int × Int × Int × Int) => .agg #[.int .i64 x.1, .int .i64 x.2.1, .int .i64 x.2.2.1, .int .i64 x.2.2.2]) kI ([] : List ((Int × Int × Int × Int) × Int)), Ow.box b_1 102 #[.int .i64 q_Id, .int .i64 q_Vlan, vq_Want, .int .i64 q_But.1, .int .i64 q_But.2]]) (fr := fr) hS [3, 4, 0, 1, 2, 5] 6 rfl (by decide) [Ow.box b_2 151 #[.map (some r_2), .slice none 0 0, .int .i64 0], Ow.map r_2 (fun (x : Int × Int × Int × Int) => .agg #[.int .i64 x.1, .int .i64 x.2.1, .int .i64 x.2.2.1, .int .i64 x.2.2.2]) kI ([] : List ((Int × Int × Int × Int) × Int)), Ow.own 112 5 e_api_Given (.slice none 0 0) ([] : List (Int × Int × Int × Int × Str)), Ow.own 112 5 e_api_Given vr_1 r_3, Ow.own 112 5 e_api_Given vr_2 r_4, Ow.box b_1 102 #[.int .i64 q_Id, .int .i64 q_Vlan, vq_Want, .int .i64 q_But.1, .int .i64 q_But.2]] rfl
  refine HO.call (want_none) rfl (ec en_74 rfl rfl) (audit_Audit_Add_walk (fr := (Ow.own 112 5 e_api_Given vr_1 r_3 :: Ow.own 112 5 e_api_Given vr_2 r_4 :: Ow.box b_1 102 #[.int .i64 q_Id, .int .i64 q_Vlan, vq_Want, .int .i64 q_But.1, .int .i64 q_But.2] :: fr)) [] [] 0 r_5 b_2 r_2 (.slice none 0 0) vr_3 hS hL_2 hM) ?_
  rintro _ h_6 ⟨F_6, r_6, am_1, a_twice_1, a_all_1, v_1, rfl, hk, hS, _, hM⟩
  obtain ⟨hS, hk⟩ := hZ_2.back hk hS
  generalize (fun b => F_6 b ∧ ¬ (Ow.own 112 5 e_api_Given vr_3 r_5).foot b) = F_7 at hS hk
  replace hK := hK.trans hk
  replace hL_x := hL_x.kp hk
  replace hL_q_Want := hL_q_Want.kp hk
  refine HO.nil (thenQ_normal (?_))
  refine HW.seq ?_
  refine HW.regionA 16 mixed (fun h => (SliceIs h 5 e_api_Given vx x) ∧ (SliceIs h 2 e_api_Spot vq_Want q_Want) ∧ (OwnIs h 0 112 5 e_api_Given vr_3 r_5) ∧ (OwnIs h 0 112 5 e_api_Given vr_1 r_3) ∧ (OwnIs h 0 112 5 e_api_Given vr_2 r_4) ∧ (Blk h b_1 (.cells #[.int .i64 q_Id, .int .i64 q_Vlan, vq_Want, .int .i64 q_But.1, .int .i64 q_But.2] 102 (0, 0)))) [(10, fun h => (Blk h b_2 (.cells #[.map (some r_2), v_1, .int .i64 a_all_1] 151 (0, 0))) ∧ (MapIs h r_2 (fun (x : Int × Int × Int × Int) => .agg #[.int .i64 x.1, .int .i64 x.2.1, .int .i64 x.2.2.1, .int .i64 x.2.2.2]) kI am_1) ∧ (OwnIs h 0 112 5 e_api_Given v_1 a_twice_1))] (by kernel_rfl) ?_
  refine HA.val (k := 0) (v := .pointer (some ⟨b_2, 0, none⟩)) rfl rfl (by kernel_rfl) (by kernel_rfl) (want_none) rfl (fun _ ⟨hL_x, hL_q_Want, c206, c204, c205, c201⟩ => q_move rfl) ?_
  refine HA.val (k := 1) (v := .pointer (some ⟨b_1, 0, none⟩)) rfl rfl (by kernel_rfl) (by kernel_rfl) (want_none) rfl (fun _ ⟨hL_x, hL_q_Want, c206, c204, c205, c201⟩ => q_fieldAddr fa_102_0 rfl rfl) ?_
  refine HA.val (k := 2) (v := .int .i64 q_Id) rfl rfl (by kernel_rfl) (by kernel_rfl) (want_none) rfl (fun _ ⟨hL_x, hL_q_Want, c206, c204, c205, c201⟩ => q_load to_3 rfl (Blk.cell c201 rfl)) ?_
  refine HA.val (k := 3) (v := .pointer (some ⟨b_1, 1, none⟩)) rfl rfl (by kernel_rfl) (by kernel_rfl) (want_none) rfl (fun _ ⟨hL_x, hL_q_Want, c206, c204, c205, c201⟩ => q_fieldAddr fa_102_1 rfl rfl) ?_
  refine HA.val (k := 4) (v := .int .i64 q_Vlan) rfl rfl (by kernel_rfl) (by kernel_rfl) (want_none) rfl (fun _ ⟨hL_x, hL_q_Want, c206, c204, c205, c201⟩ => q_load to_3 rfl (Blk.cell c201 rfl)) ?_
  refine HA.val (k := 5) (v := .pointer (some ⟨b_1, 2, none⟩)) rfl rfl (by kernel_rfl) (by kernel_rfl) (want_none) rfl (fun _ ⟨hL_x, hL_q_Want, c206, c204, c205, c201⟩ => q_fieldAddr fa_102_2 rfl rfl) ?_
  refine HA.val (k := 6) (v := vq_Want) rfl rfl (by kernel_rfl) (by kernel_rfl) (want_none) rfl (fun _ ⟨hL_x, hL_q_Want, c206, c204, c205, c201⟩ => q_load to_98 rfl (Blk.cell c201 rfl)) ?_
  refine HA.val (k := 8) (v := .pointer (some ⟨b_1, 3, none⟩)) rfl rfl (by kernel_rfl) (by kernel_rfl) (want_none) rfl (fun _ ⟨hL_x, hL_q_Want, c206, c204, c205, c201⟩ => q_fieldAddr fa_102_3 rfl rfl) ?_
  refine HA.val (k := 9) (v := .agg #[.int .i64 q_But.1, .int .i64 q_But.2]) rfl rfl (by kernel_rfl) (by kernel_rfl) (want_none) rfl (fun _ ⟨hL_x, hL_q_Want, c206, c204, c205, c201⟩ => q_loadAgg (cs := [.int .i64 q_But.1, .int .i64 q_But.2]) ta_100 rfl rfl (Blk.cells (k := 2) c201 rfl)) ?_
  refine HA.one (k := 7) ⟨⟨hL_x.is, hL_q_Want.is, (hS.own 0 rfl), (hS.own 4 rfl), (hS.own 5 rfl), (hS.box 6 rfl)⟩, (at_now ⟨(hS.box 1 rfl), (hS.mp 2 rfl), (hS.own 3 rfl)⟩ (Go.Wk.at_nil _ _))⟩ (by kernel_rfl) ?_
  refine HS.call rfl (want_none) rfl (ec en_76 rfl rfl) (law44_own_walk (fr := (Ow.own 112 5 e_api_Given vr_3 r_5 :: Ow.box b_2 151 #[.map (some r_2), v_1, .int .i64 a_all_1] :: Ow.map r_2 (fun (x : Int × Int × Int × Int) => .agg #[.int .i64 x.1, .int .i64 x.2.1, .int .i64 x.2.2.1, .int .i64 x.2.2.2]) kI am_1 :: Ow.own 112 5 e_api_Given v_1 a_twice_1 :: Ow.own 112 5 e_api_Given vr_1 r_3 :: Ow.own 112 5 e_api_Given vr_2 r_4 :: Ow.box b_1 102 #[.int .i64 q_Id, .int .i64 q_Vlan, vq_Want, .int .i64 q_But.1, .int .i64 q_But.2] :: fr)) q_Want vq_Want hS hL_q_Want hM) ?_
  rintro vr_4 h_7 ⟨F_8, r_7, _, rfl, hk, hS, _, hM⟩
  replace hK := hK.trans hk
  replace hL_x := hL_x.kp hk
  replace hL_q_Want := hL_q_Want.kp hk
  refine Go.Wk.HA.re (fun h => (SliceIs h 5 e_api_Given vx x) ∧ (SliceIs h 2 e_api_Spot vq_Want q_Want) ∧ (OwnIs h 0 100 2 e_api_Spot vr_4 r_7) ∧ (OwnIs h 0 112 5 e_api_Given vr_3 r_5) ∧ (OwnIs h 0 112 5 e_api_Given vr_1 r_3) ∧ (OwnIs h 0 112 5 e_api_Given vr_2 r_4) ∧ (Blk h b_1 (.cells #[.int .i64 q_Id, .int .i64 q_Vlan, vq_Want, .int .i64 q_But.1, .int .i64 q_But.2] 102 (0, 0)))) [(10, fun h => (Blk h b_2 (.cells #[.map (some r_2), v_1, .int .i64 a_all_1] 151 (0, 0))) ∧ (MapIs h r_2 (fun (x : Int × Int × Int × Int) => .agg #[.int .i64 x.1, .int .i64 x.2.1, .int .i64 x.2.2.1, .int .i64 x.2.2.2]) kI am_1) ∧ (OwnIs h 0 112 5 e_api_Given v_1 a_twice_1))] (fun L_ h_ hL_ ⟨hL_x, hL_q_Want, c250, c206, c204, c205, c201⟩ hs_ => ⟨⟨hL_x, hL_q_Want, c206, c204, c205, c201⟩, (at_keep 0 rfl hs_ (fun ⟨c202, c203, c207⟩ => ⟨c202, c203, c207⟩) (Go.Wk.at_nil _ _))⟩) ?_
  refine HA.one (k := 10) ⟨⟨hL_x.is, hL_q_Want.is, (hS.own 0 rfl), (hS.own 1 rfl), (hS.own 5 rfl), (hS.own 6 rfl), (hS.box 7 rfl)⟩, (at_now ⟨(hS.box 2 rfl), (hS.mp 3 rfl), (hS.own 4 rfl)⟩ (Go.Wk.at_nil _ _))⟩ (by kernel_rfl) ?_
  have hZ_3 := hS
  have hkz_3 := (hS.freeze).2
  replace hS := hS.freeze.1
  have hL_3 : SliceF (fun b => F_8 b ∨ (Ow.own 100 2 e_api_Spot vr_4 r_7).foot b) h_7 2 e_api_Spot vr_4 r_7 := ⟨(hZ_3.own 0 rfl).slice, fun _ b hb => .inr hb⟩
  replace hS : St (fun b => F_8 b ∨ (Ow.own 100 2 e_api_Spot vr_4 r_7).foot b) (Ow.box b_2 151 #[.map (some r_2), v_1, .int .i64 a_all_1] :: Ow.map r_2 (fun (x : Int × Int × Int × Int) => .agg #[.int .i64 x.1, .int .i64 x.2.1, .int .i64 x.2.2.1, .int .i64 x.2.2.2]) kI am_1 :: Ow.own 112 5 e_api_Given v_1 a_twice_1 :: Ow.own 112 5 e_api_Given vr_3 r_5 :: Ow.own 112 5 e_api_Given vr_1 r_3 :: Ow.own 112 5 e_api_Given vr_2 r_4 :: Ow.box b_1 102 #[.int .i64 q_Id, .int .i64 q_Vlan, vq_Want, .int .i64 q_But.1, .int .i64 q_But.2] :: fr) h_7 := St.perm (front := [Ow.own 112 5 e_api_Given vr_3 r_5, Ow.box b_2 151 #[.map (some r_2), v_1, .int .i64 a_all_1], Ow.map r_2 (fun (x : Int × Int × Int × Int) => .agg #[.int .i64 x.1, .int .i64 x.2.1, .int .i64 x.2.2.1, .int .i64 x.2.2.2]) kI am_1, Ow.own 112 5 e_api_Given v_1 a_twice_1, Ow.own 112 5 e_api_Given vr_1 r_3, Ow.own 112 5 e_api_Given vr_2 r_4, Ow.box b_1 102 #[.int .i64 q_Id, .int .i64 q_Vlan, vq_Want, .int .i64 q_But.1, .int .i64 q_But.2]]) (fr := fr) hS [1, 2, 3, 0, 4, 5, 6] 7 rfl (by decide) [Ow.box b_2 151 #[.map (some r_2), v_1, .int .i64 a_all_1], Ow.map r_2 (fun (x : Int × Int × Int × Int) => .agg #[.int .i64 x.1, .int .i64 x.2.1, .int .i64 x.2.2.1, .int .i64 x.2.2.2]) kI am_1, Ow.own 112 5 e_api_Given v_1 a_twice_1, Ow.own 112 5 e_api_Given vr_3 r_5, Ow.own 112 5 e_api_Given vr_1 r_3, Ow.own 112 5 e_api_Given vr_2 r_4, Ow.box b_1 102 #[.int .i64 q_Id, .int .i64 q_Vlan, vq_Want, .int .i64 q_But.1, .int .i64 q_But.2]] rfl
  refine HS.call rfl (want_none) rfl (ec en_75 rfl rfl) (audit_Audit_Held_walk (fr := (Ow.own 112 5 e_api_Given vr_3 r_5 :: Ow.own 112 5 e_api_Given vr_1 r_3 :: Ow.own 112 5 e_api_Given vr_2 r_4 :: Ow.box b_1 102 #[.int .i64 q_Id, .int .i64 q_Vlan, vq_Want, .int .i64 q_But.1, .int .i64 q_But.2] :: fr)) am_1 a_twice_1 a_all_1 q_Id q_Vlan r_7 q_But b_2 r_2 v_1 vr_4 hS hL_3 hM) ?_
  rintro _ h_8 ⟨F_9, r0_1, r1_1, am_2, a_twice_2, a_all_2, vr0_1, vr1_1, v_2, rfl, hk, hS, _, hM⟩
  obtain ⟨hS, hk⟩ := hZ_3.back hk hS
  generalize (fun b => F_9 b ∧ ¬ (Ow.own 100 2 e_api_Spot vr_4 r_7).foot b) = F_10 at hS hk
  replace hK := hK.trans hk
  replace hL_x := hL_x.kp hk
  replace hL_q_Want := hL_q_Want.kp hk
  refine HA.val (k := 11) (v := .tuple #[vr0_1, vr1_1]) rfl rfl (by kernel_rfl) (by kernel_rfl) (want_none) rfl (fun _ ⟨hL_x, hL_q_Want, c250, c206, c204, c205, c201⟩ => q_move rfl) ?_
  refine HA.val (k := 12) (v := vr0_1) rfl rfl (by kernel_rfl) (by kernel_rfl) (want_none) rfl (fun _ ⟨hL_x, hL_q_Want, c250, c206, c204, c205, c201⟩ => q_extract rfl rfl) ?_
  refine HA.val (k := 13) (v := vr1_1) rfl rfl (by kernel_rfl) (by kernel_rfl) (want_none) rfl (fun _ ⟨hL_x, hL_q_Want, c250, c206, c204, c205, c201⟩ => q_extract rfl rfl) ?_
  refine HA.val (k := 14) (v := vr0_1) rfl rfl (by kernel_rfl) (by kernel_rfl) (want_none) rfl (fun _ ⟨hL_x, hL_q_Want, c250, c206, c204, c205, c201⟩ => q_assign rfl) ?_
  refine HA.val (k := 15) (v := vr1_1) rfl rfl (by kernel_rfl) (by kernel_rfl) (want_none) rfl (fun _ ⟨hL_x, hL_q_Want, c250, c206, c204, c205, c201⟩ => q_assign rfl) ?_
  refine HA.nil ⟨⟨hL_x.is, hL_q_Want.is, (hS.own 0 rfl), (hS.own 6 rfl), (hS.own 7 rfl), (hS.own 8 rfl), (hS.box 9 rfl)⟩, (at_done (by kernel_rfl) (Go.Wk.at_nil _ _))⟩ (by kernel_rfl) (thenQ_normal (?_))
  refine HW.seq ?_
  refine HW.region ?_
  refine HO.val (v := .bool false) (want_none) rfl (q_assign rfl) ?_
  refine HO.nil (thenQ_normal (?_))
  refine HW.seq ?_
  refine HW.region ?_
  refine HO.val (v := .pointer (some ⟨b_2, 0, none⟩)) (want_none) rfl (q_move rfl) ?_
  replace hS : St F_10 (Ow.box b_2 151 #[.map (some r_2), v_2, .int .i64 a_all_2] :: Ow.map r_2 (fun (x : Int × Int × Int × Int) => .agg #[.int .i64 x.1, .int .i64 x.2.1, .int .i64 x.2.2.1, .int .i64 x.2.2.2]) kI am_2 :: Ow.own 112 5 e_api_Given v_2 a_twice_2 :: Ow.own 100 2 e_api_Spot vr_4 r_7 :: Ow.own 100 2 e_api_Spot vr0_1 r0_1 :: Ow.own 100 2 e_api_Spot vr1_1 r1_1 :: Ow.own 112 5 e_api_Given vr_3 r_5 :: Ow.own 112 5 e_api_Given vr_1 r_3 :: Ow.own 112 5 e_api_Given vr_2 r_4 :: Ow.box b_1 102 #[.int .i64 q_Id, .int .i64 q_Vlan, vq_Want, .int .i64 q_But.1, .int .i64 q_But.2] :: fr) h_8 := St.perm (front := [Ow.own 100 2 e_api_Spot vr_4 r_7, Ow.own 100 2 e_api_Spot vr0_1 r0_1, Ow.own 100 2 e_api_Spot vr1_1 r1_1, Ow.box b_2 151 #[.map (some r_2), v_2, .int .i64 a_all_2], Ow.map r_2 (fun (x : Int × Int × Int × Int) => .agg #[.int .i64 x.1, .int .i64 x.2.1, .int .i64 x.2.2.1, .int .i64 x.2.2.2]) kI am_2, Ow.own 112 5 e_api_Given v_2 a_twice_2, Ow.own 112 5 e_api_Given vr_3 r_5, Ow.own 112 5 e_api_Given vr_1 r_3, Ow.own 112 5 e_api_Given vr_2 r_4, Ow.box b_1 102 #[.int .i64 q_Id, .int .i64 q_Vlan, vq_Want, .int .i64 q_But.1, .int .i64 q_But.2]]) (fr := fr) hS [3, 4, 5, 0, 1, 2, 6, 7, 8, 9] 10 rfl (by decide) [Ow.box b_2 151 #[.map (some r_2), v_2, .int .i64 a_all_2], Ow.map r_2 (fun (x : Int × Int × Int × Int) => .agg #[.int .i64 x.1, .int .i64 x.2.1, .int .i64 x.2.2.1, .int .i64 x.2.2.2]) kI am_2, Ow.own 112 5 e_api_Given v_2 a_twice_2, Ow.own 100 2 e_api_Spot vr_4 r_7, Ow.own 100 2 e_api_Spot vr0_1 r0_1, Ow.own 100 2 e_api_Spot vr1_1 r1_1, Ow.own 112 5 e_api_Given vr_3 r_5, Ow.own 112 5 e_api_Given vr_1 r_3, Ow.own 112 5 e_api_Given vr_2 r_4, Ow.box b_1 102 #[.int .i64 q_Id, .int .i64 q_Vlan, vq_Want, .int .i64 q_But.1, .int .i64 q_But.2]] rfl
  refine HO.call (want_none) rfl (ec en_77 rfl rfl) (audit_Audit_Twice_walk (fr := (Ow.own 100 2 e_api_Spot vr_4 r_7 :: Ow.own 100 2 e_api_Spot vr0_1 r0_1 :: Ow.own 100 2 e_api_Spot vr1_1 r1_1 :: Ow.own 112 5 e_api_Given vr_3 r_5 :: Ow.own 112 5 e_api_Given vr_1 r_3 :: Ow.own 112 5 e_api_Given vr_2 r_4 :: Ow.box b_1 102 #[.int .i64 q_Id, .int .i64 q_Vlan, vq_Want, .int .i64 q_But.1, .int .i64 q_But.2] :: fr)) am_2 a_twice_2 a_all_2 b_2 r_2 v_2 hS hM) ?_
  rintro vr_5 h_9 ⟨F_11, r_8, am_3, a_twice_3, a_all_3, _, v_3, rfl, hk, hS, hM⟩
  replace hK := hK.trans hk
  replace hL_x := hL_x.kp hk
  replace hL_q_Want := hL_q_Want.kp hk
  refine HO.val (v := vr_5) (want_none) rfl (q_assign rfl) ?_
  refine HO.nil (thenQ_normal (?_))
  refine HW.seq ?_
  refine HW.seq ?_
  refine HW.region ?_
  refine HO.val (v := .int .i64 0) (want_none) rfl (q_assign rfl) ?_
  refine HO.nil (thenQ_normal (?_))
  refine HW.block ?_
  obtain ⟨I_1, m_1, hI_1, hR_1⟩ := hM
  replace hS : St F_11 (Ow.box b_1 102 #[.int .i64 q_Id, .int .i64 q_Vlan, vq_Want, .int .i64 q_But.1, .int .i64 q_But.2] :: Ow.own 112 5 e_api_Given vr_2 r_4 :: Ow.own 100 2 e_api_Spot vr0_1 r0_1 :: Ow.own 100 2 e_api_Spot vr1_1 r1_1 :: Ow.own 112 5 e_api_Given vr_5 r_8 :: fr) h_9 := St.perm (front := [Ow.own 112 5 e_api_Given vr_5 r_8, Ow.box b_2 151 #[.map (some r_2), v_3, .int .i64 a_all_3], Ow.map r_2 (fun (x : Int × Int × Int × Int) => .agg #[.int .i64 x.1, .int .i64 x.2.1, .int .i64 x.2.2.1, .int .i64 x.2.2.2]) kI am_3, Ow.own 112 5 e_api_Given v_3 a_twice_3, Ow.own 100 2 e_api_Spot vr_4 r_7, Ow.own 100 2 e_api_Spot vr0_1 r0_1, Ow.own 100 2 e_api_Spot vr1_1 r1_1, Ow.own 112 5 e_api_Given vr_3 r_5, Ow.own 112 5 e_api_Given vr_1 r_3, Ow.own 112 5 e_api_Given vr_2 r_4, Ow.box b_1 102 #[.int .i64 q_Id, .int .i64 q_Vlan, vq_Want, .int .i64 q_But.1, .int .i64 q_But.2]]) (fr := fr) hS [10, 9, 5, 6, 0] 11 rfl (by decide) [Ow.box b_1 102 #[.int .i64 q_Id, .int .i64 q_Vlan, vq_Want, .int .i64 q_But.1, .int .i64 q_But.2], Ow.own 112 5 e_api_Given vr_2 r_4, Ow.own 100 2 e_api_Spot vr0_1 r0_1, Ow.own 100 2 e_api_Spot vr1_1 r1_1, Ow.own 112 5 e_api_Given vr_5 r_8] rfl
  refine HW.loop (S := Bool × Int) (fun s f h => match s with | (again_1, i_1) => ∃ (F' : Fz), f 3 = .pointer (some ⟨b_1, 0, none⟩) ∧ f 4 = .bool false ∧ f 6 = vr_2 ∧ f 7 = vr0_1 ∧ f 8 = vr1_1 ∧ f 9 = .bool again_1 ∧ f 10 = vr_5 ∧ f 11 = .int .i64 i_1 ∧ Kp F h0 F' h ∧ St F' (Ow.box b_1 102 #[.int .i64 q_Id, .int .i64 q_Vlan, vq_Want, .int .i64 q_But.1, .int .i64 q_But.2] :: Ow.own 112 5 e_api_Given vr_2 r_4 :: Ow.own 100 2 e_api_Spot vr0_1 r0_1 :: Ow.own 100 2 e_api_Spot vr1_1 r1_1 :: Ow.own 112 5 e_api_Given vr_5 r_8 :: fr) h ∧ (SliceF F' h 5 e_api_Given vx x) ∧ (SliceF F' h 2 e_api_Spot vq_Want q_Want) ∧ I_1 (again_1, i_1)) m_1 (false, 0) ⟨F_11, rfl, rfl, rfl, rfl, rfl, rfl, rfl, rfl, hK, hS, hL_x, hL_q_Want, hI_1⟩ ?_
  rintro ⟨again_1, i_1⟩ f_1 h_10 ⟨F_12, e3, e4, e6, e7, e8, e9, e10, e11, hK, hS, hL_x, hL_q_Want, hI0⟩
  obtain ⟨K_1, hKe_1⟩ : ∃ K : Bool → Int → Prop, K = fun again_1' i_1' => I_1 (again_1', i_1') ∧ m_1 (again_1', i_1') < m_1 (again_1, i_1) := ⟨_, rfl⟩
  have hM : law44_AuditHolds_l1 q_Id q_Vlan q_Want q_But Q r_4 r0_1 r1_1 r_8 K_1 again_1 i_1 := by rw [hKe_1]; exact hR_1 (again_1, i_1) hI0
  unfold law44_AuditHolds_l1 at hM
  refine HW.fr [(3, .pointer (some ⟨b_1, 0, none⟩)), (4, .bool false), (6, vr_2), (7, vr0_1), (8, vr1_1), (9, .bool again_1), (10, vr_5), (11, .int .i64 i_1)] ⟨e3, e4, e6, e7, e8, e9, e10, e11, trivial⟩ ?_
  refine HW.seq ?_
  refine HW.seq ?_
  refine HW.region ?_
  refine HO.val (v := .int .i64 i_1) (want_none) rfl (q_move rfl) ?_
  refine HO.val (v := vr_5) (want_none) rfl (q_move rfl) ?_
  refine HO.val (v := .int .i64 (r_8.length : Int)) (want_none) rfl (q_len ts_97 (shp (hS.own 4 rfl).slice) rfl rfl) ?_
  refine HO.val (v := .bool (decide (i_1 < (r_8.length : Int)))) (want_none) rfl (q_lss rfl rfl) ?_
  refine HO.nil (thenQ_normal (?_))
  refine HW.cond (decide (i_1 < (r_8.length : Int))) rfl (fun c_1 => ?_) (fun c_1 => ?_)
  · replace hM := hM.1 (of_decide_eq_true c_1)
    refine HW.skip (thenQ_normal (?_))
    refine HW.seq ?_
    refine HW.block ?_
    refine HW.regionA 22 mixed (fun h => (SliceIs h 5 e_api_Given vx x) ∧ (SliceIs h 2 e_api_Spot vq_Want q_Want) ∧ (Blk h b_1 (.cells #[.int .i64 q_Id, .int .i64 q_Vlan, vq_Want, .int .i64 q_But.1, .int .i64 q_But.2] 102 (0, 0))) ∧ (OwnIs h 0 112 5 e_api_Given vr_2 r_4) ∧ (OwnIs h 0 100 2 e_api_Spot vr0_1 r0_1) ∧ (OwnIs h 0 100 2 e_api_Spot vr1_1 r1_1) ∧ (OwnIs h 0 112 5 e_api_Given vr_5 r_8)) [] (by kernel_rfl) ?_
    refine HA.val (k := 0) (v := .bool again_1) rfl rfl (by kernel_rfl) (by kernel_rfl) (want_none) rfl (fun _ ⟨hL_x, hL_q_Want, c411, c412, c413, c414, c415⟩ => q_move rfl) ?_
    refine HA.val (k := 1) (v := .bool again_1) rfl rfl (by kernel_rfl) (by kernel_rfl) (want_none) rfl (fun _ ⟨hL_x, hL_q_Want, c411, c412, c413, c414, c415⟩ => q_move rfl) ?_
    rcases Bool.eq_false_or_eq_true again_1 with c_2 | c_2
    · replace hM := hM.1 c_2
      refine HA.past (k := 2) rfl rfl (by kernel_rfl) (by kernel_rfl) (past_by rfl rfl c_2) rfl ?_
      refine HA.past (k := 3) rfl rfl (by kernel_rfl) (by kernel_rfl) (past_by rfl rfl c_2) rfl ?_
      refine HA.past (k := 4) rfl rfl (by kernel_rfl) (by kernel_rfl) (past_by rfl rfl c_2) rfl ?_
      refine HA.past (k := 5) rfl rfl (by kernel_rfl) (by kernel_rfl) (past_by rfl rfl c_2) rfl ?_
      refine HA.past (k := 6) rfl rfl (by kernel_rfl) (by kernel_rfl) (past_by rfl rfl c_2) rfl ?_
      refine HA.past (k := 7) rfl rfl (by kernel_rfl) (by kernel_rfl) (past_by rfl rfl c_2) rfl ?_
      refine HA.past (k := 8) rfl rfl (by kernel_rfl) (by kernel_rfl) (past_by rfl rfl c_2) rfl ?_
      refine HA.past (k := 9) rfl rfl (by kernel_rfl) (by kernel_rfl) (past_by rfl rfl c_2) rfl ?_
      refine HA.past (k := 10) rfl rfl (by kernel_rfl) (by kernel_rfl) (past_by rfl rfl c_2) rfl ?_
      refine HA.past (k := 11) rfl rfl (by kernel_rfl) (by kernel_rfl) (past_undef rfl rfl) rfl ?_
      refine HA.past (k := 12) rfl rfl (by kernel_rfl) (by kernel_rfl) (past_undef rfl rfl) rfl ?_
      refine HA.past (k := 13) rfl rfl (by kernel_rfl) (by kernel_rfl) (past_undef rfl rfl) rfl ?_
      refine HA.past (k := 14) rfl rfl (by kernel_rfl) (by kernel_rfl) (past_undef rfl rfl) rfl ?_
      refine HA.past (k := 15) rfl rfl (by kernel_rfl) (by kernel_rfl) (past_undef rfl rfl) rfl ?_
      refine HA.past (k := 16) rfl rfl (by kernel_rfl) (by kernel_rfl) (past_undef rfl rfl) rfl ?_
      refine HA.past (k := 17) rfl rfl (by kernel_rfl) (by kernel_rfl) (past_undef rfl rfl) rfl ?_
      refine HA.past (k := 18) rfl rfl (by kernel_rfl) (by kernel_rfl) (past_undef rfl rfl) rfl ?_
      refine HA.past (k := 19) rfl rfl (by kernel_rfl) (by kernel_rfl) (past_by rfl rfl c_2) rfl ?_
      refine HA.val (k := 20) (v := .bool true) rfl rfl (by kernel_rfl) (by kernel_rfl) (want_none) rfl (fun _ ⟨hL_x, hL_q_Want, c411, c412, c413, c414, c415⟩ => q_pickK true rfl c_2 rfl) ?_
      refine HA.val (k := 21) (v := .bool true) rfl rfl (by kernel_rfl) (by kernel_rfl) (want_none) rfl (fun _ ⟨hL_x, hL_q_Want, c411, c412, c413, c414, c415⟩ => q_assign rfl) ?_
      refine HA.nil ⟨⟨hL_x.is, hL_q_Want.is, (hS.box 0 rfl), (hS.own 1 rfl), (hS.own 2 rfl), (hS.own 3 rfl), (hS.own 4 rfl)⟩, (Go.Wk.at_nil _ _)⟩ (by kernel_rfl) (blockQ_normal (thenQ_normal (?_)))
      refine HW.region ?_
      refine HO.val (v := .int .i64 i_1) (want_none) rfl (q_move rfl) ?_
      obtain ⟨ho_1, hM⟩ := hM
      refine HO.val (v := .int .i64 (i_1 + 1)) (want_none) rfl (q_addN _ rfl rfl rfl ho_1.1 ho_1.2) ?_
      refine HO.val (v := .int .i64 (i_1 + 1)) (want_none) rfl (q_assign rfl) ?_
      refine HO.nil (thenQ_normal (?_))
      rw [hKe_1] at hM
      exact ⟨(true, i_1 + 1), ⟨F_12, rfl, rfl, rfl, rfl, rfl, rfl, rfl, rfl, hK, hS, hL_x, hL_q_Want, hM.1⟩, hM.2⟩
    · replace hM := hM.2 c_2
      refine HA.val (k := 2) (v := vr_5) rfl rfl (by kernel_rfl) (by kernel_rfl) (want_by rfl rfl c_2) rfl (fun _ ⟨hL_x, hL_q_Want, c411, c412, c413, c414, c415⟩ => q_move rfl) ?_
      refine HA.val (k := 3) (v := .int .i64 i_1) rfl rfl (by kernel_rfl) (by kernel_rfl) (want_by rfl rfl c_2) rfl (fun _ ⟨hL_x, hL_q_Want, c411, c412, c413, c414, c415⟩ => q_move rfl) ?_
      obtain ⟨ho_2, hM⟩ := hM
      refine HA.val (k := 4) (v := elemPtr 5 vr_5 (i_1).toNat) rfl rfl (by kernel_rfl) (by kernel_rfl) (want_by rfl rfl c_2) rfl (fun _ ⟨hL_x, hL_q_Want, c411, c412, c413, c414, c415⟩ => q_idx ts_97 c415.slice rfl rfl ho_2) ?_
      refine HA.val (k := 5) (v := fieldPtr 5 vr_5 (i_1).toNat 0) rfl rfl (by kernel_rfl) (by kernel_rfl) (want_by rfl rfl c_2) rfl (fun _ ⟨hL_x, hL_q_Want, c411, c412, c413, c414, c415⟩ => q_fldElem fa_112_0 c415.slice rfl ho_2) ?_
      refine HA.val (k := 6) (v := .int .i64 ((gi r_8 i_1).1)) rfl rfl (by kernel_rfl) (by kernel_rfl) (want_by rfl rfl c_2) rfl (fun _ ⟨hL_x, hL_q_Want, c411, c412, c413, c414, c415⟩ => q_ldField to_3 c415.slice rfl ho_2 (by decide) rfl) ?_
      refine HA.val (k := 7) (v := .pointer (some ⟨b_1, 0, none⟩)) rfl rfl (by kernel_rfl) (by kernel_rfl) (want_by rfl rfl c_2) rfl (fun _ ⟨hL_x, hL_q_Want, c411, c412, c413, c414, c415⟩ => q_fieldAddr fa_102_0 rfl rfl) ?_
      refine HA.val (k := 8) (v := .int .i64 q_Id) rfl rfl (by kernel_rfl) (by kernel_rfl) (want_by rfl rfl c_2) rfl (fun _ ⟨hL_x, hL_q_Want, c411, c412, c413, c414, c415⟩ => q_load to_3 rfl (Blk.cell c411 rfl)) ?_
      refine HA.val (k := 9) (v := .bool (decide (((gi r_8 i_1).1) = q_Id))) rfl rfl (by kernel_rfl) (by kernel_rfl) (want_by rfl rfl c_2) rfl (fun _ ⟨hL_x, hL_q_Want, c411, c412, c413, c414, c415⟩ => q_eql rfl rfl) ?_
      refine HA.val (k := 10) (v := .bool (decide (((gi r_8 i_1).1) = q_Id))) rfl rfl (by kernel_rfl) (by kernel_rfl) (want_by rfl rfl c_2) rfl (fun _ ⟨hL_x, hL_q_Want, c411, c412, c413, c414, c415⟩ => q_move rfl) ?_
      rcases Bool.eq_false_or_eq_true (decide (((gi r_8 i_1).1) = q_Id)) with c_3 | c_3
      · replace hM := hM.1 (of_decide_eq_true c_3)
        refine HA.val (k := 11) (v := vr_5) rfl rfl (by kernel_rfl) (by kernel_rfl) (want_by rfl rfl c_3) rfl (fun _ ⟨hL_x, hL_q_Want, c411, c412, c413, c414, c415⟩ => q_move rfl) ?_
        refine HA.val (k := 12) (v := .int .i64 i_1) rfl rfl (by kernel_rfl) (by kernel_rfl) (want_by rfl rfl c_3) rfl (fun _ ⟨hL_x, hL_q_Want, c411, c412, c413, c414, c415⟩ => q_move rfl) ?_
        refine HA.val (k := 13) (v := elemPtr 5 vr_5 (i_1).toNat) rfl rfl (by kernel_rfl) (by kernel_rfl) (want_by rfl rfl c_3) rfl (fun _ ⟨hL_x, hL_q_Want, c411, c412, c413, c414, c415⟩ => q_idx ts_97 c415.slice rfl rfl ho_2) ?_
        refine HA.val (k := 14) (v := fieldPtr 5 vr_5 (i_1).toNat 2) rfl rfl (by kernel_rfl) (by kernel_rfl) (want_by rfl rfl c_3) rfl (fun _ ⟨hL_x, hL_q_Want, c411, c412, c413, c414, c415⟩ => q_fldElem fa_112_2 c415.slice rfl ho_2) ?_
        refine HA.val (k := 15) (v := .int .i64 ((gi r_8 i_1).2.2.1)) rfl rfl (by kernel_rfl) (by kernel_rfl) (want_by rfl rfl c_3) rfl (fun _ ⟨hL_x, hL_q_Want, c411, c412, c413, c414, c415⟩ => q_ldField to_3 c415.slice rfl ho_2 (by decide) rfl) ?_
        refine HA.val (k := 16) (v := .pointer (some ⟨b_1, 1, none⟩)) rfl rfl (by kernel_rfl) (by kernel_rfl) (want_by rfl rfl c_3) rfl (fun _ ⟨hL_x, hL_q_Want, c411, c412, c413, c414, c415⟩ => q_fieldAddr fa_102_1 rfl rfl) ?_
        refine HA.val (k := 17) (v := .int .i64 q_Vlan) rfl rfl (by kernel_rfl) (by kernel_rfl) (want_by rfl rfl c_3) rfl (fun _ ⟨hL_x, hL_q_Want, c411, c412, c413, c414, c415⟩ => q_load to_3 rfl (Blk.cell c411 rfl)) ?_
        refine HA.val (k := 18) (v := .bool (decide (((gi r_8 i_1).2.2.1) = q_Vlan))) rfl rfl (by kernel_rfl) (by kernel_rfl) (want_by rfl rfl c_3) rfl (fun _ ⟨hL_x, hL_q_Want, c411, c412, c413, c414, c415⟩ => q_eql rfl rfl) ?_
        refine HA.val (k := 19) (v := .bool (decide (((gi r_8 i_1).2.2.1) = q_Vlan))) rfl rfl (by kernel_rfl) (by kernel_rfl) (want_by rfl rfl c_2) rfl (fun _ ⟨hL_x, hL_q_Want, c411, c412, c413, c414, c415⟩ => q_pickK true rfl c_3 rfl) ?_
        refine HA.val (k := 20) (v := .bool (decide (((gi r_8 i_1).2.2.1) = q_Vlan))) rfl rfl (by kernel_rfl) (by kernel_rfl) (want_none) rfl (fun _ ⟨hL_x, hL_q_Want, c411, c412, c413, c414, c415⟩ => q_pickK false rfl c_2 rfl) ?_
        refine HA.val (k := 21) (v := .bool (decide (((gi r_8 i_1).2.2.1) = q_Vlan))) rfl rfl (by kernel_rfl) (by kernel_rfl) (want_none) rfl (fun _ ⟨hL_x, hL_q_Want, c411, c412, c413, c414, c415⟩ => q_assign rfl) ?_
        refine HA.nil ⟨⟨hL_x.is, hL_q_Want.is, (hS.box 0 rfl), (hS.own 1 rfl), (hS.own 2 rfl), (hS.own 3 rfl), (hS.own 4 rfl)⟩, (Go.Wk.at_nil _ _)⟩ (by kernel_rfl) (blockQ_normal (thenQ_normal (?_)))
        refine HW.region ?_
        refine HO.val (v := .int .i64 i_1) (want_none) rfl (q_move rfl) ?_
        obtain ⟨ho_3, hM⟩ := hM
        refine HO.val (v := .int .i64 (i_1 + 1)) (want_none) rfl (q_addN _ rfl rfl rfl ho_3.1 ho_3.2) ?_
        refine HO.val (v := .int .i64 (i_1 + 1)) (want_none) rfl (q_assign rfl) ?_
        refine HO.nil (thenQ_normal (?_))
        rw [hKe_1] at hM
        exact ⟨(decide (((gi r_8 i_1).2.2.1) = q_Vlan), i_1 + 1), ⟨F_12, rfl, rfl, rfl, rfl, rfl, rfl, rfl, rfl, hK, hS, hL_x, hL_q_Want, hM.1⟩, hM.2⟩
      · replace hM := hM.2 (of_decide_eq_false c_3)
        refine HA.past (k := 11) rfl rfl (by kernel_rfl) (by kernel_rfl) (past_by rfl rfl c_3) rfl ?_
        refine HA.past (k := 12) rfl rfl (by kernel_rfl) (by kernel_rfl) (past_by rfl rfl c_3) rfl ?_
        refine HA.past (k := 13) rfl rfl (by kernel_rfl) (by kernel_rfl) (past_by rfl rfl c_3) rfl ?_
        refine HA.past (k := 14) rfl rfl (by kernel_rfl) (by kernel_rfl) (past_by rfl rfl c_3) rfl ?_
        refine HA.past (k := 15) rfl rfl (by kernel_rfl) (by kernel_rfl) (past_by rfl rfl c_3) rfl ?_
        refine HA.past (k := 16) rfl rfl (by kernel_rfl) (by kernel_rfl) (past_by rfl rfl c_3) rfl ?_
        refine HA.past (k := 17) rfl rfl (by kernel_rfl) (by kernel_rfl) (past_by rfl rfl c_3) rfl ?_
        refine HA.past (k := 18) rfl rfl (by kernel_rfl) (by kernel_rfl) (past_by rfl rfl c_3) rfl ?_
        refine HA.val (k := 19) (v := .bool false) rfl rfl (by kernel_rfl) (by kernel_rfl) (want_by rfl rfl c_2) rfl (fun _ ⟨hL_x, hL_q_Want, c411, c412, c413, c414, c415⟩ => q_pickK false rfl c_3 rfl) ?_
        refine HA.val (k := 20) (v := .bool false) rfl rfl (by kernel_rfl) (by kernel_rfl) (want_none) rfl (fun _ ⟨hL_x, hL_q_Want, c411, c412, c413, c414, c415⟩ => q_pickK false rfl c_2 rfl) ?_
        refine HA.val (k := 21) (v := .bool false) rfl rfl (by kernel_rfl) (by kernel_rfl) (want_none) rfl (fun _ ⟨hL_x, hL_q_Want, c411, c412, c413, c414, c415⟩ => q_assign rfl) ?_
        refine HA.nil ⟨⟨hL_x.is, hL_q_Want.is, (hS.box 0 rfl), (hS.own 1 rfl), (hS.own 2 rfl), (hS.own 3 rfl), (hS.own 4 rfl)⟩, (Go.Wk.at_nil _ _)⟩ (by kernel_rfl) (blockQ_normal (thenQ_normal (?_)))
        refine HW.region ?_
        refine HO.val (v := .int .i64 i_1) (want_none) rfl (q_move rfl) ?_
        obtain ⟨ho_4, hM⟩ := hM
        refine HO.val (v := .int .i64 (i_1 + 1)) (want_none) rfl (q_addN _ rfl rfl rfl ho_4.1 ho_4.2) ?_
        refine HO.val (v := .int .i64 (i_1 + 1)) (want_none) rfl (q_assign rfl) ?_
        refine HO.nil (thenQ_normal (?_))
        rw [hKe_1] at hM
        exact ⟨(false, i_1 + 1), ⟨F_12, rfl, rfl, rfl, rfl, rfl, rfl, rfl, rfl, hK, hS, hL_x, hL_q_Want, hM.1⟩, hM.2⟩
  · replace hM := hM.2 (of_decide_eq_false c_1)
    refine HW.exit (thenQ_exit (thenQ_exit (blockQ_exit (thenQ_normal (?_)))))
    refine HW.seq ?_
    refine HW.region ?_
    refine HO.val (v := .bool true) (want_none) rfl (q_assign rfl) ?_
    refine HO.nil (thenQ_normal (?_))
    refine HW.seq ?_
    refine HW.seq ?_
    refine HW.region ?_
    refine HO.val (v := .int .i64 0) (want_none) rfl (q_assign rfl) ?_
    refine HO.nil (thenQ_normal (?_))
    refine HW.block ?_
    obtain ⟨I_2, m_2, hI_2, hR_2⟩ := hM
    replace hS : St F_12 (Ow.box b_1 102 #[.int .i64 q_Id, .int .i64 q_Vlan, vq_Want, .int .i64 q_But.1, .int .i64 q_But.2] :: Ow.own 112 5 e_api_Given vr_2 r_4 :: Ow.own 100 2 e_api_Spot vr0_1 r0_1 :: Ow.own 100 2 e_api_Spot vr1_1 r1_1 :: fr) h_10 := St.perm (front := [Ow.box b_1 102 #[.int .i64 q_Id, .int .i64 q_Vlan, vq_Want, .int .i64 q_But.1, .int .i64 q_But.2], Ow.own 112 5 e_api_Given vr_2 r_4, Ow.own 100 2 e_api_Spot vr0_1 r0_1, Ow.own 100 2 e_api_Spot vr1_1 r1_1, Ow.own 112 5 e_api_Given vr_5 r_8]) (fr := fr) hS [0, 1, 2, 3] 5 rfl (by decide) [Ow.box b_1 102 #[.int .i64 q_Id, .int .i64 q_Vlan, vq_Want, .int .i64 q_But.1, .int .i64 q_But.2], Ow.own 112 5 e_api_Given vr_2 r_4, Ow.own 100 2 e_api_Spot vr0_1 r0_1, Ow.own 100 2 e_api_Spot vr1_1 r1_1] rfl
    refine HW.loop (S := Bool × Int) (fun s f h => match s with | (all_1, i_2) => ∃ (F' : Fz), f 3 = .pointer (some ⟨b_1, 0, none⟩) ∧ f 4 = .bool false ∧ f 6 = vr_2 ∧ f 7 = vr0_1 ∧ f 8 = vr1_1 ∧ f 9 = .bool again_1 ∧ f 12 = .bool all_1 ∧ f 13 = .int .i64 i_2 ∧ Kp F h0 F' h ∧ St F' (Ow.box b_1 102 #[.int .i64 q_Id, .int .i64 q_Vlan, vq_Want, .int .i64 q_But.1, .int .i64 q_But.2] :: Ow.own 112 5 e_api_Given vr_2 r_4 :: Ow.own 100 2 e_api_Spot vr0_1 r0_1 :: Ow.own 100 2 e_api_Spot vr1_1 r1_1 :: fr) h ∧ (SliceF F' h 5 e_api_Given vx x) ∧ (SliceF F' h 2 e_api_Spot vq_Want q_Want) ∧ I_2 (all_1, i_2)) m_2 (true, 0) ⟨F_12, rfl, rfl, rfl, rfl, rfl, rfl, rfl, rfl, hK, hS, hL_x, hL_q_Want, hI_2⟩ ?_
    rintro ⟨all_1, i_2⟩ f_2 h_11 ⟨F_13, e3, e4, e6, e7, e8, e9, e12, e13, hK, hS, hL_x, hL_q_Want, hI0⟩
    obtain ⟨K_2, hKe_2⟩ : ∃ K : Bool → Int → Prop, K = fun all_1' i_2' => I_2 (all_1', i_2') ∧ m_2 (all_1', i_2') < m_2 (all_1, i_2) := ⟨_, rfl⟩
    have hM : law44_AuditHolds_l2 q_Id q_Vlan q_Want q_But Q r_4 r0_1 r1_1 again_1 K_2 all_1 i_2 := by rw [hKe_2]; exact hR_2 (all_1, i_2) hI0
    unfold law44_AuditHolds_l2 at hM
    refine HW.fr [(3, .pointer (some ⟨b_1, 0, none⟩)), (4, .bool false), (6, vr_2), (7, vr0_1), (8, vr1_1), (9, .bool again_1), (12, .bool all_1), (13, .int .i64 i_2)] ⟨e3, e4, e6, e7, e8, e9, e12, e13, trivial⟩ ?_
    refine HW.seq ?_
    refine HW.seq ?_
    refine HW.region ?_
    refine HO.val (v := .int .i64 i_2) (want_none) rfl (q_move rfl) ?_
    refine HO.val (v := .pointer (some ⟨b_1, 2, none⟩)) (want_none) rfl (q_fieldAddr fa_102_2 rfl rfl) ?_
    refine HO.val (v := vq_Want) (want_none) rfl (q_load to_98 rfl (Blk.cell (hS.box 0 rfl) rfl)) ?_
    refine HO.call (want_none) rfl (ec en_76 rfl rfl) (law44_own_walk (fr := (Ow.box b_1 102 #[.int .i64 q_Id, .int .i64 q_Vlan, vq_Want, .int .i64 q_But.1, .int .i64 q_But.2] :: Ow.own 112 5 e_api_Given vr_2 r_4 :: Ow.own 100 2 e_api_Spot vr0_1 r0_1 :: Ow.own 100 2 e_api_Spot vr1_1 r1_1 :: fr)) q_Want vq_Want hS hL_q_Want hM) ?_
    rintro vr_6 h_12 ⟨F_14, r_9, _, rfl, hk, hS, _, hM⟩
    replace hK := hK.trans hk
    replace hL_x := hL_x.kp hk
    replace hL_q_Want := hL_q_Want.kp hk
    refine HO.val (v := .int .i64 (r_9.length : Int)) (want_none) rfl (q_len ts_98 (shp (hS.own 0 rfl).slice) rfl rfl) ?_
    refine HO.val (v := .bool (decide (i_2 < (r_9.length : Int)))) (want_none) rfl (q_lss rfl rfl) ?_
    refine HO.nil (thenQ_normal (?_))
    refine HW.cond (decide (i_2 < (r_9.length : Int))) rfl (fun c_4 => ?_) (fun c_4 => ?_)
    · replace hM := hM.1 (of_decide_eq_true c_4)
      refine HW.skip (thenQ_normal (?_))
      refine HW.seq ?_
      refine HW.block ?_
      refine HW.seq ?_
      refine HW.region ?_
      refine HO.val (v := .pointer (some ⟨b_1, 2, none⟩)) (want_none) rfl (q_fieldAddr fa_102_2 rfl rfl) ?_
      refine HO.val (v := vq_Want) (want_none) rfl (q_load to_98 rfl (Blk.cell (hS.box 1 rfl) rfl)) ?_
      refine HO.call (want_none) rfl (ec en_76 rfl rfl) (law44_own_walk (fr := (Ow.own 100 2 e_api_Spot vr_6 r_9 :: Ow.box b_1 102 #[.int .i64 q_Id, .int .i64 q_Vlan, vq_Want, .int .i64 q_But.1, .int .i64 q_But.2] :: Ow.own 112 5 e_api_Given vr_2 r_4 :: Ow.own 100 2 e_api_Spot vr0_1 r0_1 :: Ow.own 100 2 e_api_Spot vr1_1 r1_1 :: fr)) q_Want vq_Want hS hL_q_Want hM) ?_
      rintro vr_7 h_13 ⟨F_15, r_10, _, rfl, hk, hS, _, hM⟩
      replace hK := hK.trans hk
      replace hL_x := hL_x.kp hk
      replace hL_q_Want := hL_q_Want.kp hk
      refine HO.val (v := .int .i64 i_2) (want_none) rfl (q_move rfl) ?_
      obtain ⟨ho_5, hM⟩ := hM
      refine HO.val (v := elemPtr 2 vr_7 (i_2).toNat) (want_none) rfl (q_idx ts_98 (hS.own 0 rfl).slice rfl rfl ho_5) ?_
      refine HO.val (v := .agg #[.int .i64 ((gi r_10 i_2).1), .int .i64 ((gi r_10 i_2).2)]) (want_none) rfl (q_ldElemAgg (cs := [.int .i64 ((gi r_10 i_2).1), .int .i64 ((gi r_10 i_2).2)]) ta_100 (hS.own 0 rfl).slice rfl ho_5 rfl) ?_
      refine HO.eff (want_none) rfl (st_alloc (c := #[.int .i64 0, .int .i64 0]) hS tz_100 rfl) ?_
      rintro _ h_14 ⟨b_3, rfl, hS, hk⟩
      replace hK := hK.trans hk
      replace hL_x := hL_x.kp hk
      replace hL_q_Want := hL_q_Want.kp hk
      refine HO.sto (want_none) rfl (st_storeAgg (c' := #[.int .i64 ((gi r_10 i_2).1), .int .i64 ((gi r_10 i_2).2)]) hS (i := 0) rfl ta_100 rfl rfl rfl (by simp [Value.oneCell']) (Nat.le_of_ble_eq_true rfl) rfl) ?_
      rintro h_15 ⟨hS, hk⟩
      replace hS : St F_15 (Ow.box b_3 100 #[.int .i64 ((gi r_10 i_2).1), .int .i64 ((gi r_10 i_2).2)] :: Ow.own 100 2 e_api_Spot vr_7 r_10 :: Ow.own 100 2 e_api_Spot vr_6 r_9 :: Ow.box b_1 102 #[.int .i64 q_Id, .int .i64 q_Vlan, vq_Want, .int .i64 q_But.1, .int .i64 q_But.2] :: Ow.own 112 5 e_api_Given vr_2 r_4 :: Ow.own 100 2 e_api_Spot vr0_1 r0_1 :: Ow.own 100 2 e_api_Spot vr1_1 r1_1 :: fr) h_15 := hS
      replace hK := hK.trans hk
      replace hL_x := hL_x.kp hk
      replace hL_q_Want := hL_q_Want.kp hk
      refine HO.nil (thenQ_normal (?_))
      refine HW.seq ?_
      refine HW.region ?_
      refine HO.val (v := vr_2) (want_none) rfl (q_move rfl) ?_
      refine HO.val (v := .pointer (some ⟨b_1, 0, none⟩)) (want_none) rfl (q_fieldAddr fa_102_0 rfl rfl) ?_
      refine HO.val (v := .int .i64 q_Id) (want_none) rfl (q_load to_3 rfl (Blk.cell (hS.box 3 rfl) rfl)) ?_
      refine HO.val (v := .pointer (some ⟨b_1, 1, none⟩)) (want_none) rfl (q_fieldAddr fa_102_1 rfl rfl) ?_
      refine HO.val (v := .int .i64 q_Vlan) (want_none) rfl (q_load to_3 rfl (Blk.cell (hS.box 3 rfl) rfl)) ?_
      refine HO.val (v := .agg #[.int .i64 ((gi r_10 i_2).1), .int .i64 ((gi r_10 i_2).2)]) (want_none) rfl (q_loadAgg (cs := [.int .i64 ((gi r_10 i_2).1), .int .i64 ((gi r_10 i_2).2)]) ta_100 rfl rfl (Blk.cells (k := 2) (hS.box 0 rfl) rfl)) ?_
      replace hS : St F_15 (Ow.own 112 5 e_api_Given vr_2 r_4 :: Ow.box b_3 100 #[.int .i64 ((gi r_10 i_2).1), .int .i64 ((gi r_10 i_2).2)] :: Ow.own 100 2 e_api_Spot vr_7 r_10 :: Ow.own 100 2 e_api_Spot vr_6 r_9 :: Ow.box b_1 102 #[.int .i64 q_Id, .int .i64 q_Vlan, vq_Want, .int .i64 q_But.1, .int .i64 q_But.2] :: Ow.own 100 2 e_api_Spot vr0_1 r0_1 :: Ow.own 100 2 e_api_Spot vr1_1 r1_1 :: fr) h_15 := St.perm (front := [Ow.box b_3 100 #[.int .i64 ((gi r_10 i_2).1), .int .i64 ((gi r_10 i_2).2)], Ow.own 100 2 e_api_Spot vr_7 r_10, Ow.own 100 2 e_api_Spot vr_6 r_9, Ow.box b_1 102 #[.int .i64 q_Id, .int .i64 q_Vlan, vq_Want, .int .i64 q_But.1, .int .i64 q_But.2], Ow.own 112 5 e_api_Given vr_2 r_4, Ow.own 100 2 e_api_Spot vr0_1 r0_1, Ow.own 100 2 e_api_Spot vr1_1 r1_1]) (fr := fr) hS [4, 0, 1, 2, 3, 5, 6] 7 rfl (by decide) [Ow.own 112 5 e_api_Given vr_2 r_4, Ow.box b_3 100 #[.int .i64 ((gi r_10 i_2).1), .int .i64 ((gi r_10 i_2).2)], Ow.own 100 2 e_api_Spot vr_7 r_10, Ow.own 100 2 e_api_Spot vr_6 r_9, Ow.box b_1 102 #[.int .i64 q_Id, .int .i64 q_Vlan, vq_Want, .int .i64 q_But.1, .int .i64 q_But.2], Ow.own 100 2 e_api_Spot vr0_1 r0_1, Ow.own 100 2 e_api_Spot vr1_1 r1_1] rfl
      have hZ_4 := hS
      have hkz_4 := (hS.freeze).2
      replace hS := hS.freeze.1
      have hL_4 : SliceF (fun b => F_15 b ∨ (Ow.own 112 5 e_api_Given vr_2 r_4).foot b) h_15 5 e_api_Given vr_2 r_4 := ⟨(hZ_4.own 0 rfl).slice, fun _ b hb => .inr hb⟩
      refine HO.call (want_none) rfl (ec en_78 rfl rfl) (ref44_Count_walk (fr := (Ow.box b_3 100 #[.int .i64 ((gi r_10 i_2).1), .int .i64 ((gi r_10 i_2).2)] :: Ow.own 100 2 e_api_Spot vr_7 r_10 :: Ow.own 100 2 e_api_Spot vr_6 r_9 :: Ow.box b_1 102 #[.int .i64 q_Id, .int .i64 q_Vlan, vq_Want, .int .i64 q_But.1, .int .i64 q_But.2] :: Ow.own 100 2 e_api_Spot vr0_1 r0_1 :: Ow.own 100 2 e_api_Spot vr1_1 r1_1 :: fr)) r_4 q_Id q_Vlan (gi r_10 i_2) vr_2 hS hL_4 hM) ?_
      rintro _ h_16 ⟨F_16, r_11, rfl, hk, hS, _, hM⟩
      obtain ⟨hS, hk⟩ := hZ_4.back hk hS
      generalize (fun b => F_16 b ∧ ¬ (Ow.own 112 5 e_api_Given vr_2 r_4).foot b) = F_17 at hS hk
      replace hK := hK.trans hk
      replace hL_x := hL_x.kp hk
      replace hL_q_Want := hL_q_Want.kp hk
      refine HO.val (v := .int .i64 r_11) (want_none) rfl (q_assign rfl) ?_
      refine HO.nil (thenQ_normal (?_))
      refine HW.region ?_
      refine HO.val (v := .bool all_1) (want_none) rfl (q_move rfl) ?_
      refine HO.val (v := .bool all_1) (want_none) rfl (q_move rfl) ?_
      rcases Bool.eq_false_or_eq_true all_1 with c_5 | c_5
      · replace hM := hM.1 c_5
        refine HO.val (v := .agg #[.int .i64 ((gi r_10 i_2).1), .int .i64 ((gi r_10 i_2).2)]) (want_by rfl rfl c_5) rfl (q_loadAgg (cs := [.int .i64 ((gi r_10 i_2).1), .int .i64 ((gi r_10 i_2).2)]) ta_100 rfl rfl (Blk.cells (k := 2) (hS.box 1 rfl) rfl)) ?_
        refine HO.val (v := .pointer (some ⟨b_1, 3, none⟩)) (want_by rfl rfl c_5) rfl (q_fieldAddr fa_102_3 rfl rfl) ?_
        refine HO.val (v := .agg #[.int .i64 q_But.1, .int .i64 q_But.2]) (want_by rfl rfl c_5) rfl (q_loadAgg (cs := [.int .i64 q_But.1, .int .i64 q_But.2]) ta_100 rfl rfl (Blk.cells (k := 2) (hS.box 4 rfl) rfl)) ?_
        refine HO.val (v := .bool (decide (((gi r_10 i_2) : Int × Int) = q_But))) (want_by rfl rfl c_5) rfl (q_eqlAgg (a := (gi r_10 i_2)) (b := q_But) (fun a b w => teq_100 9998 a b w) (by kernel_rfl) rfl rfl rfl rfl) ?_
        refine HO.val (v := .bool (decide (((gi r_10 i_2) : Int × Int) = q_But))) (want_by rfl rfl c_5) rfl (q_move rfl) ?_
        rcases Bool.eq_false_or_eq_true (decide (((gi r_10 i_2) : Int × Int) = q_But)) with c_6 | c_6
        · replace hM := hM.1 (of_decide_eq_true c_6)
          refine HO.val (v := .int .i64 r_11) (want_by rfl rfl c_6) rfl (q_move rfl) ?_
          refine HO.val (v := .bool (decide (r_11 = 0))) (want_by rfl rfl c_6) rfl (q_eql rfl rfl) ?_
          refine HO.val (v := .bool (decide (r_11 = 0))) (want_by rfl rfl c_5) rfl (q_pickK true rfl c_6 rfl) ?_
          refine HO.val (v := .bool (decide (r_11 = 0))) (want_by rfl rfl c_5) rfl (q_move rfl) ?_
          rcases Bool.eq_false_or_eq_true (decide (r_11 = 0)) with c_7 | c_7
          · replace hM := hM.1 (of_decide_eq_true c_7)
            refine HO.past (past_by rfl rfl c_7) rfl ?_
            refine HO.past (past_by rfl rfl c_7) rfl ?_
            refine HO.past (past_by rfl rfl c_7) rfl ?_
            refine HO.past (past_by rfl rfl c_7) rfl ?_
            refine HO.past (past_by rfl rfl c_7) rfl ?_
            refine HO.past (past_undef rfl rfl) rfl ?_
            refine HO.past (past_undef rfl rfl) rfl ?_
            refine HO.past (past_by rfl rfl c_7) rfl ?_
            refine HO.val (v := .bool true) (want_by rfl rfl c_5) rfl (q_pickK true rfl c_7 rfl) ?_
            refine HO.val (v := .bool true) (want_none) rfl (q_pickK true rfl c_5 rfl) ?_
            refine HO.val (v := .bool true) (want_none) rfl (q_assign rfl) ?_
            refine HO.nil (blockQ_normal (thenQ_normal (?_)))
            refine HW.region ?_
            refine HO.val (v := .int .i64 i_2) (want_none) rfl (q_move rfl) ?_
            obtain ⟨ho_6, hM⟩ := hM
            refine HO.val (v := .int .i64 (i_2 + 1)) (want_none) rfl (q_addN _ rfl rfl rfl ho_6.1 ho_6.2) ?_
            refine HO.val (v := .int .i64 (i_2 + 1)) (want_none) rfl (q_assign rfl) ?_
            refine HO.nil (thenQ_normal (?_))
            replace hS : St F_17 (Ow.box b_1 102 #[.int .i64 q_Id, .int .i64 q_Vlan, vq_Want, .int .i64 q_But.1, .int .i64 q_But.2] :: Ow.own 112 5 e_api_Given vr_2 r_4 :: Ow.own 100 2 e_api_Spot vr0_1 r0_1 :: Ow.own 100 2 e_api_Spot vr1_1 r1_1 :: fr) h_16 := St.perm (front := [Ow.own 112 5 e_api_Given vr_2 r_4, Ow.box b_3 100 #[.int .i64 ((gi r_10 i_2).1), .int .i64 ((gi r_10 i_2).2)], Ow.own 100 2 e_api_Spot vr_7 r_10, Ow.own 100 2 e_api_Spot vr_6 r_9, Ow.box b_1 102 #[.int .i64 q_Id, .int .i64 q_Vlan, vq_Want, .int .i64 q_But.1, .int .i64 q_But.2], Ow.own 100 2 e_api_Spot vr0_1 r0_1, Ow.own 100 2 e_api_Spot vr1_1 r1_1]) (fr := fr) hS [4, 0, 5, 6] 7 rfl (by decide) [Ow.box b_1 102 #[.int .i64 q_Id, .int .i64 q_Vlan, vq_Want, .int .i64 q_But.1, .int .i64 q_But.2], Ow.own 112 5 e_api_Given vr_2 r_4, Ow.own 100 2 e_api_Spot vr0_1 r0_1, Ow.own 100 2 e_api_Spot vr1_1 r1_1] rfl
            rw [hKe_2] at hM
            exact ⟨(true, i_2 + 1), ⟨F_17, rfl, rfl, rfl, rfl, rfl, rfl, rfl, rfl, hK, hS, hL_x, hL_q_Want, hM.1⟩, hM.2⟩
          · replace hM := hM.2 (of_decide_eq_false c_7)
            refine HO.val (v := .agg #[.int .i64 ((gi r_10 i_2).1), .int .i64 ((gi r_10 i_2).2)]) (want_by rfl rfl c_7) rfl (q_loadAgg (cs := [.int .i64 ((gi r_10 i_2).1), .int .i64 ((gi r_10 i_2).2)]) ta_100 rfl rfl (Blk.cells (k := 2) (hS.box 1 rfl) rfl)) ?_
            refine HO.val (v := .pointer (some ⟨b_1, 3, none⟩)) (want_by rfl rfl c_7) rfl (q_fieldAddr fa_102_3 rfl rfl) ?_
            refine HO.val (v := .agg #[.int .i64 q_But.1, .int .i64 q_But.2]) (want_by rfl rfl c_7) rfl (q_loadAgg (cs := [.int .i64 q_But.1, .int .i64 q_But.2]) ta_100 rfl rfl (Blk.cells (k := 2) (hS.box 4 rfl) rfl)) ?_
            refine HO.val (v := .bool (!decide (((gi r_10 i_2) : Int × Int) = q_But))) (want_by rfl rfl c_7) rfl (q_neqAgg (a := (gi r_10 i_2)) (b := q_But) (fun a b w => teq_100 9998 a b w) (by kernel_rfl) rfl rfl rfl rfl) ?_
            refine HO.val (v := .bool (!decide (((gi r_10 i_2) : Int × Int) = q_But))) (want_by rfl rfl c_7) rfl (q_move rfl) ?_
            refine HO.past (past_by rfl rfl (nd_f2 c_6)) rfl ?_
            refine HO.past (past_by rfl rfl (nd_f2 c_6)) rfl ?_
            refine HO.val (v := .bool false) (want_by rfl rfl c_7) rfl (q_pickK false rfl (nd_f2 c_6) rfl) ?_
            refine HO.val (v := .bool false) (want_by rfl rfl c_5) rfl (q_pickK false rfl c_7 rfl) ?_
            refine HO.val (v := .bool false) (want_none) rfl (q_pickK true rfl c_5 rfl) ?_
            refine HO.val (v := .bool false) (want_none) rfl (q_assign rfl) ?_
            refine HO.nil (blockQ_normal (thenQ_normal (?_)))
            refine HW.region ?_
            refine HO.val (v := .int .i64 i_2) (want_none) rfl (q_move rfl) ?_
            obtain ⟨ho_7, hM⟩ := hM
            refine HO.val (v := .int .i64 (i_2 + 1)) (want_none) rfl (q_addN _ rfl rfl rfl ho_7.1 ho_7.2) ?_
            refine HO.val (v := .int .i64 (i_2 + 1)) (want_none) rfl (q_assign rfl) ?_
            refine HO.nil (thenQ_normal (?_))
            replace hS : St F_17 (Ow.box b_1 102 #[.int .i64 q_Id, .int .i64 q_Vlan, vq_Want, .int .i64 q_But.1, .int .i64 q_But.2] :: Ow.own 112 5 e_api_Given vr_2 r_4 :: Ow.own 100 2 e_api_Spot vr0_1 r0_1 :: Ow.own 100 2 e_api_Spot vr1_1 r1_1 :: fr) h_16 := St.perm (front := [Ow.own 112 5 e_api_Given vr_2 r_4, Ow.box b_3 100 #[.int .i64 ((gi r_10 i_2).1), .int .i64 ((gi r_10 i_2).2)], Ow.own 100 2 e_api_Spot vr_7 r_10, Ow.own 100 2 e_api_Spot vr_6 r_9, Ow.box b_1 102 #[.int .i64 q_Id, .int .i64 q_Vlan, vq_Want, .int .i64 q_But.1, .int .i64 q_But.2], Ow.own 100 2 e_api_Spot vr0_1 r0_1, Ow.own 100 2 e_api_Spot vr1_1 r1_1]) (fr := fr) hS [4, 0, 5, 6] 7 rfl (by decide) [Ow.box b_1 102 #[.int .i64 q_Id, .int .i64 q_Vlan, vq_Want, .int .i64 q_But.1, .int .i64 q_But.2], Ow.own 112 5 e_api_Given vr_2 r_4, Ow.own 100 2 e_api_Spot vr0_1 r0_1, Ow.own 100 2 e_api_Spot vr1_1 r1_1] rfl
            rw [hKe_2] at hM
            exact ⟨(false, i_2 + 1), ⟨F_17, rfl, rfl, rfl, rfl, rfl, rfl, rfl, rfl, hK, hS, hL_x, hL_q_Want, hM.1⟩, hM.2⟩
        · replace hM := hM.2 (of_decide_eq_false c_6)
          refine HO.past (past_by rfl rfl c_6) rfl ?_
          refine HO.past (past_by rfl rfl c_6) rfl ?_
          refine HO.val (v := .bool false) (want_by rfl rfl c_5) rfl (q_pickK false rfl c_6 rfl) ?_
          refine HO.val (v := .bool false) (want_by rfl rfl c_5) rfl (q_move rfl) ?_
          refine HO.val (v := .agg #[.int .i64 ((gi r_10 i_2).1), .int .i64 ((gi r_10 i_2).2)]) (want_some rfl rfl) rfl (q_loadAgg (cs := [.int .i64 ((gi r_10 i_2).1), .int .i64 ((gi r_10 i_2).2)]) ta_100 rfl rfl (Blk.cells (k := 2) (hS.box 1 rfl) rfl)) ?_
          refine HO.val (v := .pointer (some ⟨b_1, 3, none⟩)) (want_some rfl rfl) rfl (q_fieldAddr fa_102_3 rfl rfl) ?_
          refine HO.val (v := .agg #[.int .i64 q_But.1, .int .i64 q_But.2]) (want_some rfl rfl) rfl (q_loadAgg (cs := [.int .i64 q_But.1, .int .i64 q_But.2]) ta_100 rfl rfl (Blk.cells (k := 2) (hS.box 4 rfl) rfl)) ?_
          refine HO.val (v := .bool (!decide (((gi r_10 i_2) : Int × Int) = q_But))) (want_some rfl rfl) rfl (q_neqAgg (a := (gi r_10 i_2)) (b := q_But) (fun a b w => teq_100 9998 a b w) (by kernel_rfl) rfl rfl rfl rfl) ?_
          refine HO.val (v := .bool (!decide (((gi r_10 i_2) : Int × Int) = q_But))) (want_some rfl rfl) rfl (q_move rfl) ?_
          refine HO.val (v := .int .i64 r_11) (want_by rfl rfl (nd_t2 c_6)) rfl (q_move rfl) ?_
          refine HO.val (v := .bool (decide (r_11 = 1))) (want_by rfl rfl (nd_t2 c_6)) rfl (q_eql rfl rfl) ?_
          refine HO.val (v := .bool (decide (r_11 = 1))) (want_some rfl rfl) rfl (q_pickK true rfl (nd_t2 c_6) rfl) ?_
          refine HO.val (v := .bool (decide (r_11 = 1))) (want_by rfl rfl c_5) rfl (q_pick rfl rfl) ?_
          refine HO.val (v := .bool (decide (r_11 = 1))) (want_none) rfl (q_pickK true rfl c_5 rfl) ?_
          refine HO.val (v := .bool (decide (r_11 = 1))) (want_none) rfl (q_assign rfl) ?_
          refine HO.nil (blockQ_normal (thenQ_normal (?_)))
          refine HW.region ?_
          refine HO.val (v := .int .i64 i_2) (want_none) rfl (q_move rfl) ?_
          obtain ⟨ho_8, hM⟩ := hM
          refine HO.val (v := .int .i64 (i_2 + 1)) (want_none) rfl (q_addN _ rfl rfl rfl ho_8.1 ho_8.2) ?_
          refine HO.val (v := .int .i64 (i_2 + 1)) (want_none) rfl (q_assign rfl) ?_
          refine HO.nil (thenQ_normal (?_))
          replace hS : St F_17 (Ow.box b_1 102 #[.int .i64 q_Id, .int .i64 q_Vlan, vq_Want, .int .i64 q_But.1, .int .i64 q_But.2] :: Ow.own 112 5 e_api_Given vr_2 r_4 :: Ow.own 100 2 e_api_Spot vr0_1 r0_1 :: Ow.own 100 2 e_api_Spot vr1_1 r1_1 :: fr) h_16 := St.perm (front := [Ow.own 112 5 e_api_Given vr_2 r_4, Ow.box b_3 100 #[.int .i64 ((gi r_10 i_2).1), .int .i64 ((gi r_10 i_2).2)], Ow.own 100 2 e_api_Spot vr_7 r_10, Ow.own 100 2 e_api_Spot vr_6 r_9, Ow.box b_1 102 #[.int .i64 q_Id, .int .i64 q_Vlan, vq_Want, .int .i64 q_But.1, .int .i64 q_But.2], Ow.own 100 2 e_api_Spot vr0_1 r0_1, Ow.own 100 2 e_api_Spot vr1_1 r1_1]) (fr := fr) hS [4, 0, 5, 6] 7 rfl (by decide) [Ow.box b_1 102 #[.int .i64 q_Id, .int .i64 q_Vlan, vq_Want, .int .i64 q_But.1, .int .i64 q_But.2], Ow.own 112 5 e_api_Given vr_2 r_4, Ow.own 100 2 e_api_Spot vr0_1 r0_1, Ow.own 100 2 e_api_Spot vr1_1 r1_1] rfl
          rw [hKe_2] at hM
          exact ⟨(decide (r_11 = 1), i_2 + 1), ⟨F_17, rfl, rfl, rfl, rfl, rfl, rfl, rfl, rfl, hK, hS, hL_x, hL_q_Want, hM.1⟩, hM.2⟩
      · replace hM := hM.2 c_5
        refine HO.past (past_by rfl rfl c_5) rfl ?_
        refine HO.past (past_by rfl rfl c_5) rfl ?_
        refine HO.past (past_by rfl rfl c_5) rfl ?_
        refine HO.past (past_by rfl rfl c_5) rfl ?_
        refine HO.past (past_by rfl rfl c_5) rfl ?_
        refine HO.past (past_undef rfl rfl) rfl ?_
        refine HO.past (past_undef rfl rfl) rfl ?_
        refine HO.past (past_by rfl rfl c_5) rfl ?_
        refine HO.past (past_by rfl rfl c_5) rfl ?_
        refine HO.past (past_undef rfl rfl) rfl ?_
        refine HO.past (past_undef rfl rfl) rfl ?_
        refine HO.past (past_undef rfl rfl) rfl ?_
        refine HO.past (past_undef rfl rfl) rfl ?_
        refine HO.past (past_undef rfl rfl) rfl ?_
        refine HO.past (past_undef rfl rfl) rfl ?_
        refine HO.past (past_undef rfl rfl) rfl ?_
        refine HO.past (past_undef rfl rfl) rfl ?_
        refine HO.past (past_by rfl rfl c_5) rfl ?_
        refine HO.val (v := .bool false) (want_none) rfl (q_pickK false rfl c_5 rfl) ?_
        refine HO.val (v := .bool false) (want_none) rfl (q_assign rfl) ?_
        refine HO.nil (blockQ_normal (thenQ_normal (?_)))
        refine HW.region ?_
        refine HO.val (v := .int .i64 i_2) (want_none) rfl (q_move rfl) ?_
        obtain ⟨ho_9, hM⟩ := hM
        refine HO.val (v := .int .i64 (i_2 + 1)) (want_none) rfl (q_addN _ rfl rfl rfl ho_9.1 ho_9.2) ?_
        refine HO.val (v := .int .i64 (i_2 + 1)) (want_none) rfl (q_assign rfl) ?_
        refine HO.nil (thenQ_normal (?_))
        replace hS : St F_17 (Ow.box b_1 102 #[.int .i64 q_Id, .int .i64 q_Vlan, vq_Want, .int .i64 q_But.1, .int .i64 q_But.2] :: Ow.own 112 5 e_api_Given vr_2 r_4 :: Ow.own 100 2 e_api_Spot vr0_1 r0_1 :: Ow.own 100 2 e_api_Spot vr1_1 r1_1 :: fr) h_16 := St.perm (front := [Ow.own 112 5 e_api_Given vr_2 r_4, Ow.box b_3 100 #[.int .i64 ((gi r_10 i_2).1), .int .i64 ((gi r_10 i_2).2)], Ow.own 100 2 e_api_Spot vr_7 r_10, Ow.own 100 2 e_api_Spot vr_6 r_9, Ow.box b_1 102 #[.int .i64 q_Id, .int .i64 q_Vlan, vq_Want, .int .i64 q_But.1, .int .i64 q_But.2], Ow.own 100 2 e_api_Spot vr0_1 r0_1, Ow.own 100 2 e_api_Spot vr1_1 r1_1]) (fr := fr) hS [4, 0, 5, 6] 7 rfl (by decide) [Ow.box b_1 102 #[.int .i64 q_Id, .int .i64 q_Vlan, vq_Want, .int .i64 q_But.1, .int .i64 q_But.2], Ow.own 112 5 e_api_Given vr_2 r_4, Ow.own 100 2 e_api_Spot vr0_1 r0_1, Ow.own 100 2 e_api_Spot vr1_1 r1_1] rfl
        rw [hKe_2] at hM
        exact ⟨(false, i_2 + 1), ⟨F_17, rfl, rfl, rfl, rfl, rfl, rfl, rfl, rfl, hK, hS, hL_x, hL_q_Want, hM.1⟩, hM.2⟩
    · replace hM := hM.2 (of_decide_eq_false c_4)
      refine HW.exit (thenQ_exit (thenQ_exit (blockQ_exit (thenQ_normal (?_)))))
      refine HW.seq ?_
      refine HW.seq ?_
      refine HW.region ?_
      refine HO.val (v := .int .i64 0) (want_none) rfl (q_assign rfl) ?_
      refine HO.nil (thenQ_normal (?_))
      refine HW.block ?_
      obtain ⟨I_3, m_3, hI_3, hR_3⟩ := hM
      replace hS : St F_14 (Ow.box b_1 102 #[.int .i64 q_Id, .int .i64 q_Vlan, vq_Want, .int .i64 q_But.1, .int .i64 q_But.2] :: Ow.own 112 5 e_api_Given vr_2 r_4 :: Ow.own 100 2 e_api_Spot vr0_1 r0_1 :: Ow.own 100 2 e_api_Spot vr1_1 r1_1 :: fr) h_12 := St.perm (front := [Ow.own 100 2 e_api_Spot vr_6 r_9, Ow.box b_1 102 #[.int .i64 q_Id, .int .i64 q_Vlan, vq_Want, .int .i64 q_But.1, .int .i64 q_But.2], Ow.own 112 5 e_api_Given vr_2 r_4, Ow.own 100 2 e_api_Spot vr0_1 r0_1, Ow.own 100 2 e_api_Spot vr1_1 r1_1]) (fr := fr) hS [1, 2, 3, 4] 5 rfl (by decide) [Ow.box b_1 102 #[.int .i64 q_Id, .int .i64 q_Vlan, vq_Want, .int .i64 q_But.1, .int .i64 q_But.2], Ow.own 112 5 e_api_Given vr_2 r_4, Ow.own 100 2 e_api_Spot vr0_1 r0_1, Ow.own 100 2 e_api_Spot vr1_1 r1_1] rfl
      refine HW.loop (S := Bool × Int) (fun s f h => match s with | (all_2, i_3) => ∃ (F' : Fz), f 3 = .pointer (some ⟨b_1, 0, none⟩) ∧ f 4 = .bool false ∧ f 6 = vr_2 ∧ f 7 = vr0_1 ∧ f 8 = vr1_1 ∧ f 9 = .bool again_1 ∧ f 12 = .bool all_2 ∧ f 16 = .int .i64 i_3 ∧ Kp F h0 F' h ∧ St F' (Ow.box b_1 102 #[.int .i64 q_Id, .int .i64 q_Vlan, vq_Want, .int .i64 q_But.1, .int .i64 q_But.2] :: Ow.own 112 5 e_api_Given vr_2 r_4 :: Ow.own 100 2 e_api_Spot vr0_1 r0_1 :: Ow.own 100 2 e_api_Spot vr1_1 r1_1 :: fr) h ∧ (SliceF F' h 5 e_api_Given vx x) ∧ (SliceF F' h 2 e_api_Spot vq_Want q_Want) ∧ I_3 (all_2, i_3)) m_3 (all_1, 0) ⟨F_14, rfl, rfl, rfl, rfl, rfl, rfl, rfl, rfl, hK, hS, hL_x, hL_q_Want, hI_3⟩ ?_
      rintro ⟨all_2, i_3⟩ f_3 h_17 ⟨F_18, e3, e4, e6, e7, e8, e9, e12, e16, hK, hS, hL_x, hL_q_Want, hI0⟩
      obtain ⟨K_3, hKe_3⟩ : ∃ K : Bool → Int → Prop, K = fun all_2' i_3' => I_3 (all_2', i_3') ∧ m_3 (all_2', i_3') < m_3 (all_2, i_3) := ⟨_, rfl⟩
      have hM : law44_AuditHolds_l3 q_Id q_Vlan q_Want q_But Q r_4 r0_1 r1_1 again_1 K_3 all_2 i_3 := by rw [hKe_3]; exact hR_3 (all_2, i_3) hI0
      unfold law44_AuditHolds_l3 at hM
      refine HW.fr [(3, .pointer (some ⟨b_1, 0, none⟩)), (4, .bool false), (6, vr_2), (7, vr0_1), (8, vr1_1), (9, .bool again_1), (12, .bool all_2), (16, .int .i64 i_3)] ⟨e3, e4, e6, e7, e8, e9, e12, e16, trivial⟩ ?_
      refine HW.seq ?_
      refine HW.seq ?_
      refine HW.region ?_
      refine HO.val (v := .int .i64 i_3) (want_none) rfl (q_move rfl) ?_
      refine HO.val (v := vr_2) (want_none) rfl (q_move rfl) ?_
      refine HO.val (v := .int .i64 (r_4.length : Int)) (want_none) rfl (q_len ts_97 (shp (hS.own 1 rfl).slice) rfl rfl) ?_
      refine HO.val (v := .bool (decide (i_3 < (r_4.length : Int)))) (want_none) rfl (q_lss rfl rfl) ?_
      refine HO.nil (thenQ_normal (?_))
      refine HW.cond (decide (i_3 < (r_4.length : Int))) rfl (fun c_8 => ?_) (fun c_8 => ?_)
      · replace hM := hM.1 (of_decide_eq_true c_8)
        refine HW.skip (thenQ_normal (?_))
        refine HW.seq ?_
        refine HW.block ?_
        refine HW.seq ?_
        refine HW.regionA 13 mixed (fun h => (SliceIs h 5 e_api_Given vx x) ∧ (SliceIs h 2 e_api_Spot vq_Want q_Want) ∧ (Blk h b_1 (.cells #[.int .i64 q_Id, .int .i64 q_Vlan, vq_Want, .int .i64 q_But.1, .int .i64 q_But.2] 102 (0, 0))) ∧ (OwnIs h 0 112 5 e_api_Given vr_2 r_4) ∧ (OwnIs h 0 100 2 e_api_Spot vr0_1 r0_1) ∧ (OwnIs h 0 100 2 e_api_Spot vr1_1 r1_1)) [] (by kernel_rfl) ?_
        refine HA.val (k := 0) (v := vr_2) rfl rfl (by kernel_rfl) (by kernel_rfl) (want_none) rfl (fun _ ⟨hL_x, hL_q_Want, c621, c622, c623, c624⟩ => q_move rfl) ?_
        refine HA.val (k := 1) (v := .int .i64 i_3) rfl rfl (by kernel_rfl) (by kernel_rfl) (want_none) rfl (fun _ ⟨hL_x, hL_q_Want, c621, c622, c623, c624⟩ => q_move rfl) ?_
        obtain ⟨ho_10, hM⟩ := hM
        refine HA.val (k := 2) (v := elemPtr 5 vr_2 (i_3).toNat) rfl rfl (by kernel_rfl) (by kernel_rfl) (want_none) rfl (fun _ ⟨hL_x, hL_q_Want, c621, c622, c623, c624⟩ => q_idx ts_97 c622.slice rfl rfl ho_10) ?_
        refine HA.val (k := 3) (v := fieldPtr 5 vr_2 (i_3).toNat 1) rfl rfl (by kernel_rfl) (by kernel_rfl) (want_none) rfl (fun _ ⟨hL_x, hL_q_Want, c621, c622, c623, c624⟩ => q_fldElem fa_112_1 c622.slice rfl ho_10) ?_
        refine HA.val (k := 4) (v := .int .i64 ((gi r_4 i_3).2.1)) rfl rfl (by kernel_rfl) (by kernel_rfl) (want_none) rfl (fun _ ⟨hL_x, hL_q_Want, c621, c622, c623, c624⟩ => q_ldField to_3 c622.slice rfl ho_10 (by decide) rfl) ?_
        refine HA.val (k := 5) (v := vr_2) rfl rfl (by kernel_rfl) (by kernel_rfl) (want_none) rfl (fun _ ⟨hL_x, hL_q_Want, c621, c622, c623, c624⟩ => q_move rfl) ?_
        refine HA.val (k := 6) (v := .int .i64 i_3) rfl rfl (by kernel_rfl) (by kernel_rfl) (want_none) rfl (fun _ ⟨hL_x, hL_q_Want, c621, c622, c623, c624⟩ => q_move rfl) ?_
        refine HA.val (k := 7) (v := elemPtr 5 vr_2 (i_3).toNat) rfl rfl (by kernel_rfl) (by kernel_rfl) (want_none) rfl (fun _ ⟨hL_x, hL_q_Want, c621, c622, c623, c624⟩ => q_idx ts_97 c622.slice rfl rfl ho_10) ?_
        refine HA.val (k := 8) (v := fieldPtr 5 vr_2 (i_3).toNat 3) rfl rfl (by kernel_rfl) (by kernel_rfl) (want_none) rfl (fun _ ⟨hL_x, hL_q_Want, c621, c622, c623, c624⟩ => q_fldElem fa_112_3 c622.slice rfl ho_10) ?_
        refine HA.val (k := 9) (v := .int .i64 ((gi r_4 i_3).2.2.2.1)) rfl rfl (by kernel_rfl) (by kernel_rfl) (want_none) rfl (fun _ ⟨hL_x, hL_q_Want, c621, c622, c623, c624⟩ => q_ldField to_3 c622.slice rfl ho_10 (by decide) rfl) ?_
        refine HA.val (k := 10) (v := .agg #[.int .i64 ((gi r_4 i_3).2.1), .int .i64 ((gi r_4 i_3).2.2.2.1)]) rfl rfl (by kernel_rfl) (by kernel_rfl) (want_none) rfl (fun _ ⟨hL_x, hL_q_Want, c621, c622, c623, c624⟩ => q_build tp_100 rfl) ?_
        refine HA.one (k := 11) ⟨⟨hL_x.is, hL_q_Want.is, (hS.box 0 rfl), (hS.own 1 rfl), (hS.own 2 rfl), (hS.own 3 rfl)⟩, (Go.Wk.at_nil _ _)⟩ (by kernel_rfl) ?_
        refine HS.eff rfl (want_none) rfl (st_alloc (c := #[.int .i64 0, .int .i64 0]) hS tz_100 rfl) ?_
        rintro _ h_18 ⟨b_4, rfl, hS, hk⟩
        replace hK := hK.trans hk
        replace hL_x := hL_x.kp hk
        replace hL_q_Want := hL_q_Want.kp hk
        refine HA.one (k := 12) ⟨⟨hL_x.is, hL_q_Want.is, (hS.box 1 rfl), (hS.own 2 rfl), (hS.own 3 rfl), (hS.own 4 rfl)⟩, (Go.Wk.at_nil _ _)⟩ (by kernel_rfl) ?_
        refine HS.sto rfl (want_none) rfl (st_storeAgg (c' := #[.int .i64 ((gi r_4 i_3).2.1), .int .i64 ((gi r_4 i_3).2.2.2.1)]) hS (i := 0) rfl ta_100 rfl rfl rfl (by simp [Value.oneCell']) (Nat.le_of_ble_eq_true rfl) rfl) ?_
        rintro h_19 ⟨hS, hk⟩
        replace hS : St F_18 (Ow.box b_4 100 #[.int .i64 ((gi r_4 i_3).2.1), .int .i64 ((gi r_4 i_3).2.2.2.1)] :: Ow.box b_1 102 #[.int .i64 q_Id, .int .i64 q_Vlan, vq_Want, .int .i64 q_But.1, .int .i64 q_But.2] :: Ow.own 112 5 e_api_Given vr_2 r_4 :: Ow.own 100 2 e_api_Spot vr0_1 r0_1 :: Ow.own 100 2 e_api_Spot vr1_1 r1_1 :: fr) h_19 := hS
        replace hK := hK.trans hk
        replace hL_x := hL_x.kp hk
        replace hL_q_Want := hL_q_Want.kp hk
        refine HA.nil ⟨⟨hL_x.is, hL_q_Want.is, (hS.box 1 rfl), (hS.own 2 rfl), (hS.own 3 rfl), (hS.own 4 rfl)⟩, (Go.Wk.at_nil _ _)⟩ (by kernel_rfl) (thenQ_normal (?_))
        refine HW.seq_mid (fun f h => ∃ (F' : Fz) (b_5 : Bool), f 3 = .pointer (some ⟨b_1, 0, none⟩) ∧ f 4 = .bool false ∧ f 6 = vr_2 ∧ f 7 = vr0_1 ∧ f 8 = vr1_1 ∧ f 9 = .bool again_1 ∧ f 12 = .bool all_2 ∧ f 16 = .int .i64 i_3 ∧ f 17 = .pointer (some ⟨b_4, 0, none⟩) ∧ f 145 = .bool b_5 ∧ Kp F h0 F' h ∧ St F' (Ow.box b_1 102 #[.int .i64 q_Id, .int .i64 q_Vlan, vq_Want, .int .i64 q_But.1, .int .i64 q_But.2] :: Ow.own 112 5 e_api_Given vr_2 r_4 :: Ow.own 100 2 e_api_Spot vr0_1 r0_1 :: Ow.own 100 2 e_api_Spot vr1_1 r1_1 :: Ow.box b_4 100 #[.int .i64 ((gi r_4 i_3).2.1), .int .i64 ((gi r_4 i_3).2.2.2.1)] :: fr) h ∧ (SliceF F' h 5 e_api_Given vx x) ∧ (SliceF F' h 2 e_api_Spot vq_Want q_Want) ∧ law44_AuditHolds_j1 q_Want q_But r_4 all_2 i_3 K_3 b_5) ?_ ?_
        · refine HW.regionA 18 mixed (fun h => (SliceIs h 5 e_api_Given vx x) ∧ (SliceIs h 2 e_api_Spot vq_Want q_Want) ∧ (Blk h b_4 (.cells #[.int .i64 ((gi r_4 i_3).2.1), .int .i64 ((gi r_4 i_3).2.2.2.1)] 100 (0, 0))) ∧ (Blk h b_1 (.cells #[.int .i64 q_Id, .int .i64 q_Vlan, vq_Want, .int .i64 q_But.1, .int .i64 q_But.2] 102 (0, 0))) ∧ (OwnIs h 0 112 5 e_api_Given vr_2 r_4) ∧ (OwnIs h 0 100 2 e_api_Spot vr0_1 r0_1) ∧ (OwnIs h 0 100 2 e_api_Spot vr1_1 r1_1)) [] (by kernel_rfl) ?_
          refine HA.val (k := 0) (v := vr_2) rfl rfl (by kernel_rfl) (by kernel_rfl) (want_none) rfl (fun _ ⟨hL_x, hL_q_Want, c691, c621, c622, c623, c624⟩ => q_move rfl) ?_
          refine HA.val (k := 1) (v := .int .i64 i_3) rfl rfl (by kernel_rfl) (by kernel_rfl) (want_none) rfl (fun _ ⟨hL_x, hL_q_Want, c691, c621, c622, c623, c624⟩ => q_move rfl) ?_
          refine HA.val (k := 2) (v := elemPtr 5 vr_2 (i_3).toNat) rfl rfl (by kernel_rfl) (by kernel_rfl) (want_none) rfl (fun _ ⟨hL_x, hL_q_Want, c691, c621, c622, c623, c624⟩ => q_idx ts_97 c622.slice rfl rfl ho_10) ?_
          refine HA.val (k := 3) (v := fieldPtr 5 vr_2 (i_3).toNat 0) rfl rfl (by kernel_rfl) (by kernel_rfl) (want_none) rfl (fun _ ⟨hL_x, hL_q_Want, c691, c621, c622, c623, c624⟩ => q_fldElem fa_112_0 c622.slice rfl ho_10) ?_
          refine HA.val (k := 4) (v := .int .i64 ((gi r_4 i_3).1)) rfl rfl (by kernel_rfl) (by kernel_rfl) (want_none) rfl (fun _ ⟨hL_x, hL_q_Want, c691, c621, c622, c623, c624⟩ => q_ldField to_3 c622.slice rfl ho_10 (by decide) rfl) ?_
          refine HA.val (k := 5) (v := .pointer (some ⟨b_1, 0, none⟩)) rfl rfl (by kernel_rfl) (by kernel_rfl) (want_none) rfl (fun _ ⟨hL_x, hL_q_Want, c691, c621, c622, c623, c624⟩ => q_fieldAddr fa_102_0 rfl rfl) ?_
          refine HA.val (k := 6) (v := .int .i64 q_Id) rfl rfl (by kernel_rfl) (by kernel_rfl) (want_none) rfl (fun _ ⟨hL_x, hL_q_Want, c691, c621, c622, c623, c624⟩ => q_load to_3 rfl (Blk.cell c621 rfl)) ?_
          refine HA.val (k := 7) (v := .bool (decide (((gi r_4 i_3).1) = q_Id))) rfl rfl (by kernel_rfl) (by kernel_rfl) (want_none) rfl (fun _ ⟨hL_x, hL_q_Want, c691, c621, c622, c623, c624⟩ => q_eql rfl rfl) ?_
          refine HA.val (k := 8) (v := .bool (decide (((gi r_4 i_3).1) = q_Id))) rfl rfl (by kernel_rfl) (by kernel_rfl) (want_none) rfl (fun _ ⟨hL_x, hL_q_Want, c691, c621, c622, c623, c624⟩ => q_move rfl) ?_
          rcases Bool.eq_false_or_eq_true (decide (((gi r_4 i_3).1) = q_Id)) with c_9 | c_9
          · replace hM := hM.1 (of_decide_eq_true c_9)
            refine HA.val (k := 9) (v := vr_2) rfl rfl (by kernel_rfl) (by kernel_rfl) (want_by rfl rfl c_9) rfl (fun _ ⟨hL_x, hL_q_Want, c691, c621, c622, c623, c624⟩ => q_move rfl) ?_
            refine HA.val (k := 10) (v := .int .i64 i_3) rfl rfl (by kernel_rfl) (by kernel_rfl) (want_by rfl rfl c_9) rfl (fun _ ⟨hL_x, hL_q_Want, c691, c621, c622, c623, c624⟩ => q_move rfl) ?_
            refine HA.val (k := 11) (v := elemPtr 5 vr_2 (i_3).toNat) rfl rfl (by kernel_rfl) (by kernel_rfl) (want_by rfl rfl c_9) rfl (fun _ ⟨hL_x, hL_q_Want, c691, c621, c622, c623, c624⟩ => q_idx ts_97 c622.slice rfl rfl ho_10) ?_
            refine HA.val (k := 12) (v := fieldPtr 5 vr_2 (i_3).toNat 2) rfl rfl (by kernel_rfl) (by kernel_rfl) (want_by rfl rfl c_9) rfl (fun _ ⟨hL_x, hL_q_Want, c691, c621, c622, c623, c624⟩ => q_fldElem fa_112_2 c622.slice rfl ho_10) ?_
            refine HA.val (k := 13) (v := .int .i64 ((gi r_4 i_3).2.2.1)) rfl rfl (by kernel_rfl) (by kernel_rfl) (want_by rfl rfl c_9) rfl (fun _ ⟨hL_x, hL_q_Want, c691, c621, c622, c623, c624⟩ => q_ldField to_3 c622.slice rfl ho_10 (by decide) rfl) ?_
            refine HA.val (k := 14) (v := .pointer (some ⟨b_1, 1, none⟩)) rfl rfl (by kernel_rfl) (by kernel_rfl) (want_by rfl rfl c_9) rfl (fun _ ⟨hL_x, hL_q_Want, c691, c621, c622, c623, c624⟩ => q_fieldAddr fa_102_1 rfl rfl) ?_
            refine HA.val (k := 15) (v := .int .i64 q_Vlan) rfl rfl (by kernel_rfl) (by kernel_rfl) (want_by rfl rfl c_9) rfl (fun _ ⟨hL_x, hL_q_Want, c691, c621, c622, c623, c624⟩ => q_load to_3 rfl (Blk.cell c621 rfl)) ?_
            refine HA.val (k := 16) (v := .bool (decide (((gi r_4 i_3).2.2.1) = q_Vlan))) rfl rfl (by kernel_rfl) (by kernel_rfl) (want_by rfl rfl c_9) rfl (fun _ ⟨hL_x, hL_q_Want, c691, c621, c622, c623, c624⟩ => q_eql rfl rfl) ?_
            refine HA.val (k := 17) (v := .bool (decide (((gi r_4 i_3).2.2.1) = q_Vlan))) rfl rfl (by kernel_rfl) (by kernel_rfl) (want_none) rfl (fun _ ⟨hL_x, hL_q_Want, c691, c621, c622, c623, c624⟩ => q_pickK true rfl c_9 rfl) ?_
            refine HA.nil ⟨⟨hL_x.is, hL_q_Want.is, (hS.box 0 rfl), (hS.box 1 rfl), (hS.own 2 rfl), (hS.own 3 rfl), (hS.own 4 rfl)⟩, (Go.Wk.at_nil _ _)⟩ (by kernel_rfl) (thenQ_normal (?_))
            replace hS : St F_18 (Ow.box b_1 102 #[.int .i64 q_Id, .int .i64 q_Vlan, vq_Want, .int .i64 q_But.1, .int .i64 q_But.2] :: Ow.own 112 5 e_api_Given vr_2 r_4 :: Ow.own 100 2 e_api_Spot vr0_1 r0_1 :: Ow.own 100 2 e_api_Spot vr1_1 r1_1 :: Ow.box b_4 100 #[.int .i64 ((gi r_4 i_3).2.1), .int .i64 ((gi r_4 i_3).2.2.2.1)] :: fr) h_19 := St.perm (front := [Ow.box b_4 100 #[.int .i64 ((gi r_4 i_3).2.1), .int .i64 ((gi r_4 i_3).2.2.2.1)], Ow.box b_1 102 #[.int .i64 q_Id, .int .i64 q_Vlan, vq_Want, .int .i64 q_But.1, .int .i64 q_But.2], Ow.own 112 5 e_api_Given vr_2 r_4, Ow.own 100 2 e_api_Spot vr0_1 r0_1, Ow.own 100 2 e_api_Spot vr1_1 r1_1]) (fr := fr) hS [1, 2, 3, 4, 0] 5 rfl (by decide) [Ow.box b_1 102 #[.int .i64 q_Id, .int .i64 q_Vlan, vq_Want, .int .i64 q_But.1, .int .i64 q_But.2], Ow.own 112 5 e_api_Given vr_2 r_4, Ow.own 100 2 e_api_Spot vr0_1 r0_1, Ow.own 100 2 e_api_Spot vr1_1 r1_1, Ow.box b_4 100 #[.int .i64 ((gi r_4 i_3).2.1), .int .i64 ((gi r_4 i_3).2.2.2.1)]] rfl
            exact ⟨F_18, decide (((gi r_4 i_3).2.2.1) = q_Vlan), rfl, rfl, rfl, rfl, rfl, rfl, rfl, rfl, rfl, rfl, hK, hS, hL_x, hL_q_Want, hM⟩
          · replace hM := hM.2 (of_decide_eq_false c_9)
            refine HA.past (k := 9) rfl rfl (by kernel_rfl) (by kernel_rfl) (past_by rfl rfl c_9) rfl ?_
            refine HA.past (k := 10) rfl rfl (by kernel_rfl) (by kernel_rfl) (past_by rfl rfl c_9) rfl ?_
            refine HA.past (k := 11) rfl rfl (by kernel_rfl) (by kernel_rfl) (past_by rfl rfl c_9) rfl ?_
            refine HA.past (k := 12) rfl rfl (by kernel_rfl) (by kernel_rfl) (past_by rfl rfl c_9) rfl ?_
            refine HA.past (k := 13) rfl rfl (by kernel_rfl) (by kernel_rfl) (past_by rfl rfl c_9) rfl ?_
            refine HA.past (k := 14) rfl rfl (by kernel_rfl) (by kernel_rfl) (past_by rfl rfl c_9) rfl ?_
            refine HA.past (k := 15) rfl rfl (by kernel_rfl) (by kernel_rfl) (past_by rfl rfl c_9) rfl ?_
            refine HA.past (k := 16) rfl rfl (by kernel_rfl) (by kernel_rfl) (past_by rfl rfl c_9) rfl ?_
            refine HA.val (k := 17) (v := .bool false) rfl rfl (by kernel_rfl) (by kernel_rfl) (want_none) rfl (fun _ ⟨hL_x, hL_q_Want, c691, c621, c622, c623, c624⟩ => q_pickK false rfl c_9 rfl) ?_
            refine HA.nil ⟨⟨hL_x.is, hL_q_Want.is, (hS.box 0 rfl), (hS.box 1 rfl), (hS.own 2 rfl), (hS.own 3 rfl), (hS.own 4 rfl)⟩, (Go.Wk.at_nil _ _)⟩ (by kernel_rfl) (thenQ_normal (?_))
            replace hS : St F_18 (Ow.box b_1 102 #[.int .i64 q_Id, .int .i64 q_Vlan, vq_Want, .int .i64 q_But.1, .int .i64 q_But.2] :: Ow.own 112 5 e_api_Given vr_2 r_4 :: Ow.own 100 2 e_api_Spot vr0_1 r0_1 :: Ow.own 100 2 e_api_Spot vr1_1 r1_1 :: Ow.box b_4 100 #[.int .i64 ((gi r_4 i_3).2.1), .int .i64 ((gi r_4 i_3).2.2.2.1)] :: fr) h_19 := St.perm (front := [Ow.box b_4 100 #[.int .i64 ((gi r_4 i_3).2.1), .int .i64 ((gi r_4 i_3).2.2.2.1)], Ow.box b_1 102 #[.int .i64 q_Id, .int .i64 q_Vlan, vq_Want, .int .i64 q_But.1, .int .i64 q_But.2], Ow.own 112 5 e_api_Given vr_2 r_4, Ow.own 100 2 e_api_Spot vr0_1 r0_1, Ow.own 100 2 e_api_Spot vr1_1 r1_1]) (fr := fr) hS [1, 2, 3, 4, 0] 5 rfl (by decide) [Ow.box b_1 102 #[.int .i64 q_Id, .int .i64 q_Vlan, vq_Want, .int .i64 q_But.1, .int .i64 q_But.2], Ow.own 112 5 e_api_Given vr_2 r_4, Ow.own 100 2 e_api_Spot vr0_1 r0_1, Ow.own 100 2 e_api_Spot vr1_1 r1_1, Ow.box b_4 100 #[.int .i64 ((gi r_4 i_3).2.1), .int .i64 ((gi r_4 i_3).2.2.2.1)]] rfl
            exact ⟨F_18, false, rfl, rfl, rfl, rfl, rfl, rfl, rfl, rfl, rfl, rfl, hK, hS, hL_x, hL_q_Want, hM⟩
        · rintro f_4 h_20 ⟨F_19, b_5, e3, e4, e6, e7, e8, e9, e12, e16, e17, e145, hK, hS, hL_x, hL_q_Want, hM⟩
          unfold law44_AuditHolds_j1 at hM
          refine HW.fr [(3, .pointer (some ⟨b_1, 0, none⟩)), (4, .bool false), (6, vr_2), (7, vr0_1), (8, vr1_1), (9, .bool again_1), (12, .bool all_2), (16, .int .i64 i_3), (17, .pointer (some ⟨b_4, 0, none⟩)), (145, .bool b_5)] ⟨e3, e4, e6, e7, e8, e9, e12, e16, e17, e145, trivial⟩ ?_
          refine HW.cond b_5 rfl (fun c_10 => ?_) (fun c_10 => ?_)
          · replace hM := hM.1 c_10
            refine HW.regionA 15 mixed (fun h => (SliceIs h 5 e_api_Given vx x) ∧ (SliceIs h 2 e_api_Spot vq_Want q_Want) ∧ (Blk h b_1 (.cells #[.int .i64 q_Id, .int .i64 q_Vlan, vq_Want, .int .i64 q_But.1, .int .i64 q_But.2] 102 (0, 0))) ∧ (OwnIs h 0 112 5 e_api_Given vr_2 r_4) ∧ (OwnIs h 0 100 2 e_api_Spot vr0_1 r0_1) ∧ (OwnIs h 0 100 2 e_api_Spot vr1_1 r1_1) ∧ (Blk h b_4 (.cells #[.int .i64 ((gi r_4 i_3).2.1), .int .i64 ((gi r_4 i_3).2.2.2.1)] 100 (0, 0)))) [] (by kernel_rfl) ?_
            refine HA.val (k := 0) (v := .bool all_2) rfl rfl (by kernel_rfl) (by kernel_rfl) (want_none) rfl (fun _ ⟨hL_x, hL_q_Want, c709, c710, c711, c712, c713⟩ => q_move rfl) ?_
            refine HA.val (k := 1) (v := .bool all_2) rfl rfl (by kernel_rfl) (by kernel_rfl) (want_none) rfl (fun _ ⟨hL_x, hL_q_Want, c709, c710, c711, c712, c713⟩ => q_move rfl) ?_
            rcases Bool.eq_false_or_eq_true all_2 with c_11 | c_11
            · replace hM := hM.1 c_11
              refine HA.val (k := 2) (v := .agg #[.int .i64 ((gi r_4 i_3).2.1), .int .i64 ((gi r_4 i_3).2.2.2.1)]) rfl rfl (by kernel_rfl) (by kernel_rfl) (want_by rfl rfl c_11) rfl (fun _ ⟨hL_x, hL_q_Want, c709, c710, c711, c712, c713⟩ => q_loadAgg (cs := [.int .i64 ((gi r_4 i_3).2.1), .int .i64 ((gi r_4 i_3).2.2.2.1)]) ta_100 rfl rfl (Blk.cells (k := 2) c713 rfl)) ?_
              refine HA.val (k := 3) (v := .pointer (some ⟨b_1, 3, none⟩)) rfl rfl (by kernel_rfl) (by kernel_rfl) (want_by rfl rfl c_11) rfl (fun _ ⟨hL_x, hL_q_Want, c709, c710, c711, c712, c713⟩ => q_fieldAddr fa_102_3 rfl rfl) ?_
              refine HA.val (k := 4) (v := .agg #[.int .i64 q_But.1, .int .i64 q_But.2]) rfl rfl (by kernel_rfl) (by kernel_rfl) (want_by rfl rfl c_11) rfl (fun _ ⟨hL_x, hL_q_Want, c709, c710, c711, c712, c713⟩ => q_loadAgg (cs := [.int .i64 q_But.1, .int .i64 q_But.2]) ta_100 rfl rfl (Blk.cells (k := 2) c709 rfl)) ?_
              refine HA.val (k := 5) (v := .bool (!decide ((((gi r_4 i_3).2.1, (gi r_4 i_3).2.2.2.1) : Int × Int) = q_But))) rfl rfl (by kernel_rfl) (by kernel_rfl) (want_by rfl rfl c_11) rfl (fun _ ⟨hL_x, hL_q_Want, c709, c710, c711, c712, c713⟩ => q_neqAgg (a := ((gi r_4 i_3).2.1, (gi r_4 i_3).2.2.2.1)) (b := q_But) (fun a b w => teq_100 9998 a b w) (by kernel_rfl) rfl rfl rfl rfl) ?_
              refine HA.val (k := 6) (v := .bool (!decide ((((gi r_4 i_3).2.1, (gi r_4 i_3).2.2.2.1) : Int × Int) = q_But))) rfl rfl (by kernel_rfl) (by kernel_rfl) (want_none) rfl (fun _ ⟨hL_x, hL_q_Want, c709, c710, c711, c712, c713⟩ => q_pickK true rfl c_11 rfl) ?_
              refine HA.val (k := 7) (v := .bool (!decide ((((gi r_4 i_3).2.1, (gi r_4 i_3).2.2.2.1) : Int × Int) = q_But))) rfl rfl (by kernel_rfl) (by kernel_rfl) (want_none) rfl (fun _ ⟨hL_x, hL_q_Want, c709, c710, c711, c712, c713⟩ => q_move rfl) ?_
              rcases Bool.eq_false_or_eq_true (!decide ((((gi r_4 i_3).2.1, (gi r_4 i_3).2.2.2.1) : Int × Int) = q_But)) with c_12 | c_12
              · replace hM := hM.1 (nd_true c_12)
                refine HA.val (k := 8) (v := .pointer (some ⟨b_1, 2, none⟩)) rfl rfl (by kernel_rfl) (by kernel_rfl) (want_by rfl rfl c_12) rfl (fun _ ⟨hL_x, hL_q_Want, c709, c710, c711, c712, c713⟩ => q_fieldAddr fa_102_2 rfl rfl) ?_
                refine HA.val (k := 9) (v := vq_Want) rfl rfl (by kernel_rfl) (by kernel_rfl) (want_by rfl rfl c_12) rfl (fun _ ⟨hL_x, hL_q_Want, c709, c710, c711, c712, c713⟩ => q_load to_98 rfl (Blk.cell c709 rfl)) ?_
                refine HA.val (k := 11) (v := .agg #[.int .i64 ((gi r_4 i_3).2.1), .int .i64 ((gi r_4 i_3).2.2.2.1)]) rfl rfl (by kernel_rfl) (by kernel_rfl) (want_by rfl rfl c_12) rfl (fun _ ⟨hL_x, hL_q_Want, c709, c710, c711, c712, c713⟩ => q_loadAgg (cs := [.int .i64 ((gi r_4 i_3).2.1), .int .i64 ((gi r_4 i_3).2.2.2.1)]) ta_100 rfl rfl (Blk.cells (k := 2) c713 rfl)) ?_
                refine HA.one (k := 10) ⟨⟨hL_x.is, hL_q_Want.is, (hS.box 0 rfl), (hS.own 1 rfl), (hS.own 2 rfl), (hS.own 3 rfl), (hS.box 4 rfl)⟩, (Go.Wk.at_nil _ _)⟩ (by kernel_rfl) ?_
                refine HS.call rfl (want_by rfl rfl c_12) rfl (ec en_76 rfl rfl) (law44_own_walk (fr := (Ow.box b_1 102 #[.int .i64 q_Id, .int .i64 q_Vlan, vq_Want, .int .i64 q_But.1, .int .i64 q_But.2] :: Ow.own 112 5 e_api_Given vr_2 r_4 :: Ow.own 100 2 e_api_Spot vr0_1 r0_1 :: Ow.own 100 2 e_api_Spot vr1_1 r1_1 :: Ow.box b_4 100 #[.int .i64 ((gi r_4 i_3).2.1), .int .i64 ((gi r_4 i_3).2.2.2.1)] :: fr)) q_Want vq_Want hS hL_q_Want hM) ?_
                rintro vr_8 h_21 ⟨F_20, r_12, _, rfl, hk, hS, _, hM⟩
                replace hK := hK.trans hk
                replace hL_x := hL_x.kp hk
                replace hL_q_Want := hL_q_Want.kp hk
                refine Go.Wk.HA.re (fun h => (SliceIs h 5 e_api_Given vx x) ∧ (SliceIs h 2 e_api_Spot vq_Want q_Want) ∧ (OwnIs h 0 100 2 e_api_Spot vr_8 r_12) ∧ (Blk h b_1 (.cells #[.int .i64 q_Id, .int .i64 q_Vlan, vq_Want, .int .i64 q_But.1, .int .i64 q_But.2] 102 (0, 0))) ∧ (OwnIs h 0 112 5 e_api_Given vr_2 r_4) ∧ (OwnIs h 0 100 2 e_api_Spot vr0_1 r0_1) ∧ (OwnIs h 0 100 2 e_api_Spot vr1_1 r1_1) ∧ (Blk h b_4 (.cells #[.int .i64 ((gi r_4 i_3).2.1), .int .i64 ((gi r_4 i_3).2.2.2.1)] 100 (0, 0)))) [] (fun L_ h_ hL_ ⟨hL_x, hL_q_Want, c774, c709, c710, c711, c712, c713⟩ hs_ => ⟨⟨hL_x, hL_q_Want, c709, c710, c711, c712, c713⟩, (Go.Wk.at_nil _ _)⟩) ?_
                refine HA.one (k := 12) ⟨⟨hL_x.is, hL_q_Want.is, (hS.own 0 rfl), (hS.box 1 rfl), (hS.own 2 rfl), (hS.own 3 rfl), (hS.own 4 rfl), (hS.box 5 rfl)⟩, (Go.Wk.at_nil _ _)⟩ (by kernel_rfl) ?_
                have hZ_5 := hS
                have hkz_5 := (hS.freeze).2
                replace hS := hS.freeze.1
                have hL_5 : SliceF (fun b => F_20 b ∨ (Ow.own 100 2 e_api_Spot vr_8 r_12).foot b) h_21 2 e_api_Spot vr_8 r_12 := ⟨(hZ_5.own 0 rfl).slice, fun _ b hb => .inr hb⟩
                refine HS.call rfl (want_by rfl rfl c_12) rfl (ec en_79 rfl rfl) (ref44_Has_walk (fr := (Ow.box b_1 102 #[.int .i64 q_Id, .int .i64 q_Vlan, vq_Want, .int .i64 q_But.1, .int .i64 q_But.2] :: Ow.own 112 5 e_api_Given vr_2 r_4 :: Ow.own 100 2 e_api_Spot vr0_1 r0_1 :: Ow.own 100 2 e_api_Spot vr1_1 r1_1 :: Ow.box b_4 100 #[.int .i64 ((gi r_4 i_3).2.1), .int .i64 ((gi r_4 i_3).2.2.2.1)] :: fr)) r_12 ((gi r_4 i_3).2.1, (gi r_4 i_3).2.2.2.1) vr_8 hS hL_5 hM) ?_
                rintro _ h_22 ⟨F_21, r_13, rfl, hk, hS, _, hM⟩
                obtain ⟨hS, hk⟩ := hZ_5.back hk hS
                generalize (fun b => F_21 b ∧ ¬ (Ow.own 100 2 e_api_Spot vr_8 r_12).foot b) = F_22 at hS hk
                replace hK := hK.trans hk
                replace hL_x := hL_x.kp hk
                replace hL_q_Want := hL_q_Want.kp hk
                refine HA.val (k := 13) (v := .bool r_13) rfl rfl (by kernel_rfl) (by kernel_rfl) (want_none) rfl (fun _ ⟨hL_x, hL_q_Want, c774, c709, c710, c711, c712, c713⟩ => q_pickK true rfl c_12 rfl) ?_
                refine HA.val (k := 14) (v := .bool r_13) rfl rfl (by kernel_rfl) (by kernel_rfl) (want_none) rfl (fun _ ⟨hL_x, hL_q_Want, c774, c709, c710, c711, c712, c713⟩ => q_assign rfl) ?_
                refine HA.nil ⟨⟨hL_x.is, hL_q_Want.is, (hS.own 0 rfl), (hS.box 1 rfl), (hS.own 2 rfl), (hS.own 3 rfl), (hS.own 4 rfl), (hS.box 5 rfl)⟩, (Go.Wk.at_nil _ _)⟩ (by kernel_rfl) (blockQ_normal (thenQ_normal (?_)))
                refine HW.region ?_
                refine HO.val (v := .int .i64 i_3) (want_none) rfl (q_move rfl) ?_
                obtain ⟨ho_11, hM⟩ := hM
                refine HO.val (v := .int .i64 (i_3 + 1)) (want_none) rfl (q_addN _ rfl rfl rfl ho_11.1 ho_11.2) ?_
                refine HO.val (v := .int .i64 (i_3 + 1)) (want_none) rfl (q_assign rfl) ?_
                refine HO.nil (thenQ_normal (?_))
                replace hS : St F_22 (Ow.box b_1 102 #[.int .i64 q_Id, .int .i64 q_Vlan, vq_Want, .int .i64 q_But.1, .int .i64 q_But.2] :: Ow.own 112 5 e_api_Given vr_2 r_4 :: Ow.own 100 2 e_api_Spot vr0_1 r0_1 :: Ow.own 100 2 e_api_Spot vr1_1 r1_1 :: fr) h_22 := St.perm (front := [Ow.own 100 2 e_api_Spot vr_8 r_12, Ow.box b_1 102 #[.int .i64 q_Id, .int .i64 q_Vlan, vq_Want, .int .i64 q_But.1, .int .i64 q_But.2], Ow.own 112 5 e_api_Given vr_2 r_4, Ow.own 100 2 e_api_Spot vr0_1 r0_1, Ow.own 100 2 e_api_Spot vr1_1 r1_1, Ow.box b_4 100 #[.int .i64 ((gi r_4 i_3).2.1), .int .i64 ((gi r_4 i_3).2.2.2.1)]]) (fr := fr) hS [1, 2, 3, 4] 6 rfl (by decide) [Ow.box b_1 102 #[.int .i64 q_Id, .int .i64 q_Vlan, vq_Want, .int .i64 q_But.1, .int .i64 q_But.2], Ow.own 112 5 e_api_Given vr_2 r_4, Ow.own 100 2 e_api_Spot vr0_1 r0_1, Ow.own 100 2 e_api_Spot vr1_1 r1_1] rfl
                rw [hKe_3] at hM
                exact ⟨(r_13, i_3 + 1), ⟨F_22, rfl, rfl, rfl, rfl, rfl, rfl, rfl, rfl, hK, hS, hL_x, hL_q_Want, hM.1⟩, hM.2⟩
              · replace hM := hM.2 (nd_false c_12)
                refine HA.past (k := 8) rfl rfl (by kernel_rfl) (by kernel_rfl) (past_by rfl rfl c_12) rfl ?_
                refine HA.past (k := 9) rfl rfl (by kernel_rfl) (by kernel_rfl) (past_by rfl rfl c_12) rfl ?_
                refine HA.past (k := 11) rfl rfl (by kernel_rfl) (by kernel_rfl) (past_by rfl rfl c_12) rfl ?_
                refine HA.one (k := 10) ⟨⟨hL_x.is, hL_q_Want.is, (hS.box 0 rfl), (hS.own 1 rfl), (hS.own 2 rfl), (hS.own 3 rfl), (hS.box 4 rfl)⟩, (Go.Wk.at_nil _ _)⟩ (by kernel_rfl) ?_
                refine HS.past rfl (past_by rfl rfl c_12) rfl ?_
                refine HA.one (k := 12) ⟨⟨hL_x.is, hL_q_Want.is, (hS.box 0 rfl), (hS.own 1 rfl), (hS.own 2 rfl), (hS.own 3 rfl), (hS.box 4 rfl)⟩, (Go.Wk.at_nil _ _)⟩ (by kernel_rfl) ?_
                refine HS.past rfl (past_by rfl rfl c_12) rfl ?_
                refine HA.val (k := 13) (v := .bool false) rfl rfl (by kernel_rfl) (by kernel_rfl) (want_none) rfl (fun _ ⟨hL_x, hL_q_Want, c709, c710, c711, c712, c713⟩ => q_pickK false rfl c_12 rfl) ?_
                refine HA.val (k := 14) (v := .bool false) rfl rfl (by kernel_rfl) (by kernel_rfl) (want_none) rfl (fun _ ⟨hL_x, hL_q_Want, c709, c710, c711, c712, c713⟩ => q_assign rfl) ?_
                refine HA.nil ⟨⟨hL_x.is, hL_q_Want.is, (hS.box 0 rfl), (hS.own 1 rfl), (hS.own 2 rfl), (hS.own 3 rfl), (hS.box 4 rfl)⟩, (Go.Wk.at_nil _ _)⟩ (by kernel_rfl) (blockQ_normal (thenQ_normal (?_)))
                refine HW.region ?_
                refine HO.val (v := .int .i64 i_3) (want_none) rfl (q_move rfl) ?_
                obtain ⟨ho_12, hM⟩ := hM
                refine HO.val (v := .int .i64 (i_3 + 1)) (want_none) rfl (q_addN _ rfl rfl rfl ho_12.1 ho_12.2) ?_
                refine HO.val (v := .int .i64 (i_3 + 1)) (want_none) rfl (q_assign rfl) ?_
                refine HO.nil (thenQ_normal (?_))
                replace hS : St F_19 (Ow.box b_1 102 #[.int .i64 q_Id, .int .i64 q_Vlan, vq_Want, .int .i64 q_But.1, .int .i64 q_But.2] :: Ow.own 112 5 e_api_Given vr_2 r_4 :: Ow.own 100 2 e_api_Spot vr0_1 r0_1 :: Ow.own 100 2 e_api_Spot vr1_1 r1_1 :: fr) h_20 := St.perm (front := [Ow.box b_1 102 #[.int .i64 q_Id, .int .i64 q_Vlan, vq_Want, .int .i64 q_But.1, .int .i64 q_But.2], Ow.own 112 5 e_api_Given vr_2 r_4, Ow.own 100 2 e_api_Spot vr0_1 r0_1, Ow.own 100 2 e_api_Spot vr1_1 r1_1, Ow.box b_4 100 #[.int .i64 ((gi r_4 i_3).2.1), .int .i64 ((gi r_4 i_3).2.2.2.1)]]) (fr := fr) hS [0, 1, 2, 3] 5 rfl (by decide) [Ow.box b_1 102 #[.int .i64 q_Id, .int .i64 q_Vlan, vq_Want, .int .i64 q_But.1, .int .i64 q_But.2], Ow.own 112 5 e_api_Given vr_2 r_4, Ow.own 100 2 e_api_Spot vr0_1 r0_1, Ow.own 100 2 e_api_Spot vr1_1 r1_1] rfl
                rw [hKe_3] at hM
                exact ⟨(false, i_3 + 1), ⟨F_19, rfl, rfl, rfl, rfl, rfl, rfl, rfl, rfl, hK, hS, hL_x, hL_q_Want, hM.1⟩, hM.2⟩
            · replace hM := hM.2 c_11
              refine HA.past (k := 2) rfl rfl (by kernel_rfl) (by kernel_rfl) (past_by rfl rfl c_11) rfl ?_
              refine HA.past (k := 3) rfl rfl (by kernel_rfl) (by kernel_rfl) (past_by rfl rfl c_11) rfl ?_
              refine HA.past (k := 4) rfl rfl (by kernel_rfl) (by kernel_rfl) (past_by rfl rfl c_11) rfl ?_
              refine HA.past (k := 5) rfl rfl (by kernel_rfl) (by kernel_rfl) (past_by rfl rfl c_11) rfl ?_
              refine HA.val (k := 6) (v := .bool false) rfl rfl (by kernel_rfl) (by kernel_rfl) (want_none) rfl (fun _ ⟨hL_x, hL_q_Want, c709, c710, c711, c712, c713⟩ => q_pickK false rfl c_11 rfl) ?_
              refine HA.val (k := 7) (v := .bool false) rfl rfl (by kernel_rfl) (by kernel_rfl) (want_none) rfl (fun _ ⟨hL_x, hL_q_Want, c709, c710, c711, c712, c713⟩ => q_move rfl) ?_
              refine HA.past (k := 8) rfl rfl (by kernel_rfl) (by kernel_rfl) (past_some rfl rfl) rfl ?_
              refine HA.past (k := 9) rfl rfl (by kernel_rfl) (by kernel_rfl) (past_some rfl rfl) rfl ?_
              refine HA.past (k := 11) rfl rfl (by kernel_rfl) (by kernel_rfl) (past_some rfl rfl) rfl ?_
              refine HA.one (k := 10) ⟨⟨hL_x.is, hL_q_Want.is, (hS.box 0 rfl), (hS.own 1 rfl), (hS.own 2 rfl), (hS.own 3 rfl), (hS.box 4 rfl)⟩, (Go.Wk.at_nil _ _)⟩ (by kernel_rfl) ?_
              refine HS.past rfl (past_some rfl rfl) rfl ?_
              refine HA.one (k := 12) ⟨⟨hL_x.is, hL_q_Want.is, (hS.box 0 rfl), (hS.own 1 rfl), (hS.own 2 rfl), (hS.own 3 rfl), (hS.box 4 rfl)⟩, (Go.Wk.at_nil _ _)⟩ (by kernel_rfl) ?_
              refine HS.past rfl (past_some rfl rfl) rfl ?_
              refine HA.val (k := 13) (v := .bool false) rfl rfl (by kernel_rfl) (by kernel_rfl) (want_none) rfl (fun _ ⟨hL_x, hL_q_Want, c709, c710, c711, c712, c713⟩ => q_pick rfl rfl) ?_
              refine HA.val (k := 14) (v := .bool false) rfl rfl (by kernel_rfl) (by kernel_rfl) (want_none) rfl (fun _ ⟨hL_x, hL_q_Want, c709, c710, c711, c712, c713⟩ => q_assign rfl) ?_
              refine HA.nil ⟨⟨hL_x.is, hL_q_Want.is, (hS.box 0 rfl), (hS.own 1 rfl), (hS.own 2 rfl), (hS.own 3 rfl), (hS.box 4 rfl)⟩, (Go.Wk.at_nil _ _)⟩ (by kernel_rfl) (blockQ_normal (thenQ_normal (?_)))
              refine HW.region ?_
              refine HO.val (v := .int .i64 i_3) (want_none) rfl (q_move rfl) ?_
              obtain ⟨ho_13, hM⟩ := hM
              refine HO.val (v := .int .i64 (i_3 + 1)) (want_none) rfl (q_addN _ rfl rfl rfl ho_13.1 ho_13.2) ?_
              refine HO.val (v := .int .i64 (i_3 + 1)) (want_none) rfl (q_assign rfl) ?_
              refine HO.nil (thenQ_normal (?_))
              replace hS : St F_19 (Ow.box b_1 102 #[.int .i64 q_Id, .int .i64 q_Vlan, vq_Want, .int .i64 q_But.1, .int .i64 q_But.2] :: Ow.own 112 5 e_api_Given vr_2 r_4 :: Ow.own 100 2 e_api_Spot vr0_1 r0_1 :: Ow.own 100 2 e_api_Spot vr1_1 r1_1 :: fr) h_20 := St.perm (front := [Ow.box b_1 102 #[.int .i64 q_Id, .int .i64 q_Vlan, vq_Want, .int .i64 q_But.1, .int .i64 q_But.2], Ow.own 112 5 e_api_Given vr_2 r_4, Ow.own 100 2 e_api_Spot vr0_1 r0_1, Ow.own 100 2 e_api_Spot vr1_1 r1_1, Ow.box b_4 100 #[.int .i64 ((gi r_4 i_3).2.1), .int .i64 ((gi r_4 i_3).2.2.2.1)]]) (fr := fr) hS [0, 1, 2, 3] 5 rfl (by decide) [Ow.box b_1 102 #[.int .i64 q_Id, .int .i64 q_Vlan, vq_Want, .int .i64 q_But.1, .int .i64 q_But.2], Ow.own 112 5 e_api_Given vr_2 r_4, Ow.own 100 2 e_api_Spot vr0_1 r0_1, Ow.own 100 2 e_api_Spot vr1_1 r1_1] rfl
              rw [hKe_3] at hM
              exact ⟨(false, i_3 + 1), ⟨F_19, rfl, rfl, rfl, rfl, rfl, rfl, rfl, rfl, hK, hS, hL_x, hL_q_Want, hM.1⟩, hM.2⟩
          · replace hM := hM.2 c_10
            refine HW.skip (blockQ_normal (thenQ_normal (?_)))
            refine HW.region ?_
            refine HO.val (v := .int .i64 i_3) (want_none) rfl (q_move rfl) ?_
            obtain ⟨ho_14, hM⟩ := hM
            refine HO.val (v := .int .i64 (i_3 + 1)) (want_none) rfl (q_addN _ rfl rfl rfl ho_14.1 ho_14.2) ?_
            refine HO.val (v := .int .i64 (i_3 + 1)) (want_none) rfl (q_assign rfl) ?_
            refine HO.nil (thenQ_normal (?_))
            replace hS : St F_19 (Ow.box b_1 102 #[.int .i64 q_Id, .int .i64 q_Vlan, vq_Want, .int .i64 q_But.1, .int .i64 q_But.2] :: Ow.own 112 5 e_api_Given vr_2 r_4 :: Ow.own 100 2 e_api_Spot vr0_1 r0_1 :: Ow.own 100 2 e_api_Spot vr1_1 r1_1 :: fr) h_20 := St.perm (front := [Ow.box b_1 102 #[.int .i64 q_Id, .int .i64 q_Vlan, vq_Want, .int .i64 q_But.1, .int .i64 q_But.2], Ow.own 112 5 e_api_Given vr_2 r_4, Ow.own 100 2 e_api_Spot vr0_1 r0_1, Ow.own 100 2 e_api_Spot vr1_1 r1_1, Ow.box b_4 100 #[.int .i64 ((gi r_4 i_3).2.1), .int .i64 ((gi r_4 i_3).2.2.2.1)]]) (fr := fr) hS [0, 1, 2, 3] 5 rfl (by decide) [Ow.box b_1 102 #[.int .i64 q_Id, .int .i64 q_Vlan, vq_Want, .int .i64 q_But.1, .int .i64 q_But.2], Ow.own 112 5 e_api_Given vr_2 r_4, Ow.own 100 2 e_api_Spot vr0_1 r0_1, Ow.own 100 2 e_api_Spot vr1_1 r1_1] rfl
            rw [hKe_3] at hM
            exact ⟨(all_2, i_3 + 1), ⟨F_19, rfl, rfl, rfl, rfl, rfl, rfl, rfl, rfl, hK, hS, hL_x, hL_q_Want, hM.1⟩, hM.2⟩
      · replace hM := hM.2 (of_decide_eq_false c_8)
        refine HW.exit (thenQ_exit (thenQ_exit (blockQ_exit (thenQ_normal (?_)))))
        refine HW.seq ?_
        refine HW.region ?_
        refine HO.val (v := vr0_1) (want_none) rfl (q_move rfl) ?_
        refine HO.val (v := .int .i64 (r0_1.length : Int)) (want_none) rfl (q_len ts_98 (shp (hS.own 2 rfl).slice) rfl rfl) ?_
        refine HO.val (v := .bool (decide ((r0_1.length : Int) = 0))) (want_none) rfl (q_eql rfl rfl) ?_
        refine HO.val (v := .bool (decide ((r0_1.length : Int) = 0))) (want_none) rfl (q_move rfl) ?_
        rcases Bool.eq_false_or_eq_true (decide ((r0_1.length : Int) = 0)) with c_13 | c_13
        · replace hM := hM.1 (of_decide_eq_true c_13)
          refine HO.val (v := vr1_1) (want_by rfl rfl c_13) rfl (q_move rfl) ?_
          refine HO.val (v := .int .i64 (r1_1.length : Int)) (want_by rfl rfl c_13) rfl (q_len ts_98 (shp (hS.own 3 rfl).slice) rfl rfl) ?_
          refine HO.val (v := .bool (decide ((r1_1.length : Int) = 0))) (want_by rfl rfl c_13) rfl (q_eql rfl rfl) ?_
          refine HO.val (v := .bool (decide ((r1_1.length : Int) = 0))) (want_none) rfl (q_pickK true rfl c_13 rfl) ?_
          refine HO.val (v := .bool (decide ((r1_1.length : Int) = 0))) (want_none) rfl (q_move rfl) ?_
          rcases Bool.eq_false_or_eq_true (decide ((r1_1.length : Int) = 0)) with c_14 | c_14
          · replace hM := hM.1 (of_decide_eq_true c_14)
            refine HO.val (v := .bool again_1) (want_by rfl rfl c_14) rfl (q_move rfl) ?_
            refine HO.val (v := .bool (!again_1)) (want_by rfl rfl c_14) rfl (q_not rfl) ?_
            refine HO.val (v := .bool (!again_1)) (want_none) rfl (q_pickK true rfl c_14 rfl) ?_
            refine HO.val (v := .bool all_2) (want_none) rfl (q_move rfl) ?_
            refine HO.val (v := .bool ((!again_1) == all_2)) (want_none) rfl (q_eqlB Try.underlying4 rfl rfl) ?_
            refine HO.val (v := .bool ((!again_1) == all_2)) (want_none) rfl (q_move rfl) ?_
            rcases Bool.eq_false_or_eq_true ((!again_1) == all_2) with c_15 | c_15
            · replace hM := hM.1 c_15
              refine HO.call (want_by rfl rfl c_15) rfl (ec en_80 rfl rfl) (law44_lives_walk (fr := (Ow.box b_1 102 #[.int .i64 q_Id, .int .i64 q_Vlan, vq_Want, .int .i64 q_But.1, .int .i64 q_But.2] :: Ow.own 112 5 e_api_Given vr_2 r_4 :: Ow.own 100 2 e_api_Spot vr0_1 r0_1 :: Ow.own 100 2 e_api_Spot vr1_1 r1_1 :: fr))  hS hM) ?_
              rintro _ h_23 ⟨F_23, r_14, rfl, hk, hS, hM⟩
              replace hK := hK.trans hk
              replace hL_x := hL_x.kp hk
              replace hL_q_Want := hL_q_Want.kp hk
              refine HO.val (v := .bool r_14) (want_none) rfl (q_pickK true rfl c_15 rfl) ?_
              refine HO.val (v := .bool r_14) (want_none) rfl (q_assign rfl) ?_
              refine HO.nil (thenQ_normal (?_))
              refine HW.ret (?_)
              refine ⟨.inr rfl, .bool r_14, res1 rfl (rt rfl), ?_⟩
              replace hS : St F_23 (fr) h_23 := St.perm (front := [Ow.box b_1 102 #[.int .i64 q_Id, .int .i64 q_Vlan, vq_Want, .int .i64 q_But.1, .int .i64 q_But.2], Ow.own 112 5 e_api_Given vr_2 r_4, Ow.own 100 2 e_api_Spot vr0_1 r0_1, Ow.own 100 2 e_api_Spot vr1_1 r1_1]) (fr := fr) hS [] 4 rfl (by decide) [] rfl
              exact ⟨F_23, r_14, rfl, hK, hS, hL_x, hL_q_Want, hM⟩
            · replace hM := hM.2 c_15
              refine HO.past (past_by rfl rfl c_15) rfl ?_
              refine HO.val (v := .bool false) (want_none) rfl (q_pickK false rfl c_15 rfl) ?_
              refine HO.val (v := .bool false) (want_none) rfl (q_assign rfl) ?_
              refine HO.nil (thenQ_normal (?_))
              refine HW.ret (?_)
              refine ⟨.inr rfl, .bool false, res1 rfl (rt rfl), ?_⟩
              replace hS : St F_18 (fr) h_17 := St.perm (front := [Ow.box b_1 102 #[.int .i64 q_Id, .int .i64 q_Vlan, vq_Want, .int .i64 q_But.1, .int .i64 q_But.2], Ow.own 112 5 e_api_Given vr_2 r_4, Ow.own 100 2 e_api_Spot vr0_1 r0_1, Ow.own 100 2 e_api_Spot vr1_1 r1_1]) (fr := fr) hS [] 4 rfl (by decide) [] rfl
              exact ⟨F_18, false, rfl, hK, hS, hL_x, hL_q_Want, hM⟩
          · replace hM := hM.2 (of_decide_eq_false c_14)
            refine HO.past (past_by rfl rfl c_14) rfl ?_
            refine HO.past (past_by rfl rfl c_14) rfl ?_
            refine HO.val (v := .bool false) (want_none) rfl (q_pickK false rfl c_14 rfl) ?_
            refine HO.val (v := .bool all_2) (want_none) rfl (q_move rfl) ?_
            refine HO.val (v := .bool (false == all_2)) (want_none) rfl (q_eqlB Try.underlying4 rfl rfl) ?_
            refine HO.val (v := .bool (false == all_2)) (want_none) rfl (q_move rfl) ?_
            rcases Bool.eq_false_or_eq_true (false == all_2) with c_16 | c_16
            · replace hM := hM.1 c_16
              refine HO.call (want_by rfl rfl c_16) rfl (ec en_80 rfl rfl) (law44_lives_walk (fr := (Ow.box b_1 102 #[.int .i64 q_Id, .int .i64 q_Vlan, vq_Want, .int .i64 q_But.1, .int .i64 q_But.2] :: Ow.own 112 5 e_api_Given vr_2 r_4 :: Ow.own 100 2 e_api_Spot vr0_1 r0_1 :: Ow.own 100 2 e_api_Spot vr1_1 r1_1 :: fr))  hS hM) ?_
              rintro _ h_24 ⟨F_24, r_15, rfl, hk, hS, hM⟩
              replace hK := hK.trans hk
              replace hL_x := hL_x.kp hk
              replace hL_q_Want := hL_q_Want.kp hk
              refine HO.val (v := .bool r_15) (want_none) rfl (q_pickK true rfl c_16 rfl) ?_
              refine HO.val (v := .bool r_15) (want_none) rfl (q_assign rfl) ?_
              refine HO.nil (thenQ_normal (?_))
              refine HW.ret (?_)
              refine ⟨.inr rfl, .bool r_15, res1 rfl (rt rfl), ?_⟩
              replace hS : St F_24 (fr) h_24 := St.perm (front := [Ow.box b_1 102 #[.int .i64 q_Id, .int .i64 q_Vlan, vq_Want, .int .i64 q_But.1, .int .i64 q_But.2], Ow.own 112 5 e_api_Given vr_2 r_4, Ow.own 100 2 e_api_Spot vr0_1 r0_1, Ow.own 100 2 e_api_Spot vr1_1 r1_1]) (fr := fr) hS [] 4 rfl (by decide) [] rfl
              exact ⟨F_24, r_15, rfl, hK, hS, hL_x, hL_q_Want, hM⟩
            · replace hM := hM.2 c_16
              refine HO.past (past_by rfl rfl c_16) rfl ?_
              refine HO.val (v := .bool false) (want_none) rfl (q_pickK false rfl c_16 rfl) ?_
              refine HO.val (v := .bool false) (want_none) rfl (q_assign rfl) ?_
              refine HO.nil (thenQ_normal (?_))
              refine HW.ret (?_)
              refine ⟨.inr rfl, .bool false, res1 rfl (rt rfl), ?_⟩
              replace hS : St F_18 (fr) h_17 := St.perm (front := [Ow.box b_1 102 #[.int .i64 q_Id, .int .i64 q_Vlan, vq_Want, .int .i64 q_But.1, .int .i64 q_But.2], Ow.own 112 5 e_api_Given vr_2 r_4, Ow.own 100 2 e_api_Spot vr0_1 r0_1, Ow.own 100 2 e_api_Spot vr1_1 r1_1]) (fr := fr) hS [] 4 rfl (by decide) [] rfl
              exact ⟨F_18, false, rfl, hK, hS, hL_x, hL_q_Want, hM⟩
        · replace hM := hM.2 (of_decide_eq_false c_13)
          refine HO.past (past_by rfl rfl c_13) rfl ?_
          refine HO.past (past_by rfl rfl c_13) rfl ?_
          refine HO.past (past_by rfl rfl c_13) rfl ?_
          refine HO.val (v := .bool false) (want_none) rfl (q_pickK false rfl c_13 rfl) ?_
          refine HO.val (v := .bool false) (want_none) rfl (q_move rfl) ?_
          refine HO.past (past_some rfl rfl) rfl ?_
          refine HO.past (past_some rfl rfl) rfl ?_
          refine HO.val (v := .bool false) (want_none) rfl (q_pick rfl rfl) ?_
          refine HO.val (v := .bool all_2) (want_none) rfl (q_move rfl) ?_
          refine HO.val (v := .bool (false == all_2)) (want_none) rfl (q_eqlB Try.underlying4 rfl rfl) ?_
          refine HO.val (v := .bool (false == all_2)) (want_none) rfl (q_move rfl) ?_
          rcases Bool.eq_false_or_eq_true (false == all_2) with c_17 | c_17
          · replace hM := hM.1 c_17
            refine HO.call (want_by rfl rfl c_17) rfl (ec en_80 rfl rfl) (law44_lives_walk (fr := (Ow.box b_1 102 #[.int .i64 q_Id, .int .i64 q_Vlan, vq_Want, .int .i64 q_But.1, .int .i64 q_But.2] :: Ow.own 112 5 e_api_Given vr_2 r_4 :: Ow.own 100 2 e_api_Spot vr0_1 r0_1 :: Ow.own 100 2 e_api_Spot vr1_1 r1_1 :: fr))  hS hM) ?_
            rintro _ h_25 ⟨F_25, r_16, rfl, hk, hS, hM⟩
            replace hK := hK.trans hk
            replace hL_x := hL_x.kp hk
            replace hL_q_Want := hL_q_Want.kp hk
            refine HO.val (v := .bool r_16) (want_none) rfl (q_pickK true rfl c_17 rfl) ?_
            refine HO.val (v := .bool r_16) (want_none) rfl (q_assign rfl) ?_
            refine HO.nil (thenQ_normal (?_))
            refine HW.ret (?_)
            refine ⟨.inr rfl, .bool r_16, res1 rfl (rt rfl), ?_⟩
            replace hS : St F_25 (fr) h_25 := St.perm (front := [Ow.box b_1 102 #[.int .i64 q_Id, .int .i64 q_Vlan, vq_Want, .int .i64 q_But.1, .int .i64 q_But.2], Ow.own 112 5 e_api_Given vr_2 r_4, Ow.own 100 2 e_api_Spot vr0_1 r0_1, Ow.own 100 2 e_api_Spot vr1_1 r1_1]) (fr := fr) hS [] 4 rfl (by decide) [] rfl
            exact ⟨F_25, r_16, rfl, hK, hS, hL_x, hL_q_Want, hM⟩
          · replace hM := hM.2 c_17
            refine HO.past (past_by rfl rfl c_17) rfl ?_
            refine HO.val (v := .bool false) (want_none) rfl (q_pickK false rfl c_17 rfl) ?_
            refine HO.val (v := .bool false) (want_none) rfl (q_assign rfl) ?_
            refine HO.nil (thenQ_normal (?_))
            refine HW.ret (?_)
            refine ⟨.inr rfl, .bool false, res1 rfl (rt rfl), ?_⟩
            replace hS : St F_18 (fr) h_17 := St.perm (front := [Ow.box b_1 102 #[.int .i64 q_Id, .int .i64 q_Vlan, vq_Want, .int .i64 q_But.1, .int .i64 q_But.2], Ow.own 112 5 e_api_Given vr_2 r_4, Ow.own 100 2 e_api_Spot vr0_1 r0_1, Ow.own 100 2 e_api_Spot vr1_1 r1_1]) (fr := fr) hS [] 4 rfl (by decide) [] rfl
            exact ⟨F_18, false, rfl, hK, hS, hL_x, hL_q_Want, hM⟩

def ref32_Has_l1 (l : List Int) (n : Int) (Q : Bool → Prop) (K_1 : Int → Prop) (i_1 : Int) : Prop :=
  (i_1 < (l.length : Int) → ((0 : Int) ≤ i_1 ∧ i_1 < (l.length : Int)) ∧ (((gi l i_1) = n → Q true) ∧ (¬ ((gi l i_1) = n) → (I64 (i_1 + 1)) ∧ (K_1 (i_1 + 1))))) ∧ (¬ (i_1 < (l.length : Int)) → Q false)
def ref32_Has_W (l : List Int) (n : Int) (Q : Bool → Prop) : Prop :=
  loopW (fun (K_1 : Int → Prop) (s : Int) => ref32_Has_l1 l n Q K_1 s) 0
set_option maxHeartbeats 40000000 in
set_option maxRecDepth 100000 in
theorem ref32_Has_walk {F : Fz} {fr : List Ow} {h0 : Heap} (l : List Int) (n : Int) (vl : Value) (hS : St F (fr) h0) (hL_l : SliceF F h0 1 encI vl l) {Q : Bool → Prop} (hM : ref32_Has_W l n Q) :
    HC Try.prog 116 #[vl, .int .i64 n] h0 fun u h' => ∃ (F' : Fz) (r_1 : Bool), u = .bool r_1 ∧ Kp F h0 F' h' ∧ St F' (fr) h' ∧ (SliceF F' h' 1 encI vl l) ∧ Q r_1 := by
  unfold ref32_Has_W at hM
  have hK := Kp.refl F h0
  refine HC.of_HW (n := 18) Try.func116 rfl rfl (Nat.le_of_ble_eq_true rfl) ?_
  refine HW.seq ?_
  refine HW.region ?_
  refine HO.val (v := .bool false) (want_none) rfl (q_assign rfl) ?_
  refine HO.nil (thenQ_normal (?_))
  refine HW.seq ?_
  refine HW.seq ?_
  refine HW.region ?_
  refine HO.val (v := .int .i64 0) (want_none) rfl (q_assign rfl) ?_
  refine HO.nil (thenQ_normal (?_))
  refine HW.block ?_
  obtain ⟨I_1, m_1, hI_1, hR_1⟩ := hM
  refine HW.loop (S := Int) (fun i_1 f h => ∃ (F' : Fz), f 0 = vl ∧ f 1 = .int .i64 n ∧ f 4 = .bool false ∧ f 5 = .int .i64 i_1 ∧ Kp F h0 F' h ∧ St F' (fr) h ∧ (SliceF F' h 1 encI vl l) ∧ I_1 i_1) m_1 0 ⟨F, rfl, rfl, rfl, rfl, hK, hS, hL_l, hI_1⟩ ?_
  rintro i_1 f_1 h_1 ⟨F_1, e0, e1, e4, e5, hK, hS, hL_l, hI0⟩
  obtain ⟨K_1, hKe_1⟩ : ∃ K : Int → Prop, K = fun i_1' => I_1 i_1' ∧ m_1 i_1' < m_1 i_1 := ⟨_, rfl⟩
  have hM : ref32_Has_l1 l n Q K_1 i_1 := by rw [hKe_1]; exact hR_1 i_1 hI0
  unfold ref32_Has_l1 at hM
  refine HW.fr [(0, vl), (1, .int .i64 n), (4, .bool false), (5, .int .i64 i_1)] ⟨e0, e1, e4, e5, trivial⟩ ?_
  refine HW.seq ?_
  refine HW.seq ?_
  refine HW.region ?_
  refine HO.val (v := .int .i64 i_1) (want_none) rfl (q_move rfl) ?_
  refine HO.val (v := vl) (want_none) rfl (q_move rfl) ?_
  refine HO.val (v := .int .i64 (l.length : Int)) (want_none) rfl (q_len ts_22 (shp hL_l.is) rfl rfl) ?_
  refine HO.val (v := .bool (decide (i_1 < (l.length : Int)))) (want_none) rfl (q_lss rfl rfl) ?_
  refine HO.nil (thenQ_normal (?_))
  refine HW.cond (decide (i_1 < (l.length : Int))) rfl (fun c_1 => ?_) (fun c_1 => ?_)
  · replace hM := hM.1 (of_decide_eq_true c_1)
    refine HW.skip (thenQ_normal (?_))
    refine HW.seq ?_
    refine HW.block ?_
    refine HW.seq ?_
    refine HW.region ?_
    refine HO.val (v := vl) (want_none) rfl (q_move rfl) ?_
    refine HO.val (v := .int .i64 i_1) (want_none) rfl (q_move rfl) ?_
    obtain ⟨ho_1, hM⟩ := hM
    refine HO.val (v := elemPtr 1 vl (i_1).toNat) (want_none) rfl (q_idx ts_22 hL_l.is rfl rfl ho_1) ?_
    refine HO.val (v := .int .i64 (gi l i_1)) (want_none) rfl (q_ldElem to_3 hL_l.is rfl ho_1 rfl) ?_
    refine HO.val (v := .int .i64 n) (want_none) rfl (q_move rfl) ?_
    refine HO.val (v := .bool (decide ((gi l i_1) = n))) (want_none) rfl (q_eql rfl rfl) ?_
    refine HO.nil (thenQ_normal (?_))
    refine HW.cond (decide ((gi l i_1) = n)) rfl (fun c_2 => ?_) (fun c_2 => ?_)
    · replace hM := hM.1 (of_decide_eq_true c_2)
      refine HW.seq ?_
      refine HW.region ?_
      refine HO.val (v := .bool true) (want_none) rfl (q_assign rfl) ?_
      refine HO.nil (thenQ_normal (?_))
      refine HW.ret (blockQ_ret (thenQ_ret (thenQ_ret (blockQ_ret (thenQ_ret (?_))))))
      refine ⟨.inr rfl, .bool true, res1 rfl (rt rfl), ?_⟩
      exact ⟨F_1, true, rfl, hK, hS, hL_l, hM⟩
    · replace hM := hM.2 (of_decide_eq_false c_2)
      refine HW.skip (blockQ_normal (thenQ_normal (?_)))
      refine HW.region ?_
      refine HO.val (v := .int .i64 i_1) (want_none) rfl (q_move rfl) ?_
      obtain ⟨ho_2, hM⟩ := hM
      refine HO.val (v := .int .i64 (i_1 + 1)) (want_none) rfl (q_addN _ rfl rfl rfl ho_2.1 ho_2.2) ?_
      refine HO.val (v := .int .i64 (i_1 + 1)) (want_none) rfl (q_assign rfl) ?_
      refine HO.nil (thenQ_normal (?_))
      rw [hKe_1] at hM
      exact ⟨i_1 + 1, ⟨F_1, rfl, rfl, rfl, rfl, hK, hS, hL_l, hM.1⟩, hM.2⟩
  · replace hM := hM.2 (of_decide_eq_false c_1)
    refine HW.exit (thenQ_exit (thenQ_exit (blockQ_exit (thenQ_normal (?_)))))
    refine HW.seq ?_
    refine HW.region ?_
    refine HO.val (v := .bool false) (want_none) rfl (q_assign rfl) ?_
    refine HO.nil (thenQ_normal (?_))
    refine HW.ret (?_)
    refine ⟨.inr rfl, .bool false, res1 rfl (rt rfl), ?_⟩
    exact ⟨F_1, false, rfl, hK, hS, hL_l, hM⟩

def ref32_Add_j1 (l : List Int) (n : Int) (Q : (List Int) → Prop) (n_1 : Int) : Prop :=
  ((0 : Int) ≤ n_1 ∧ n_1 ≤ (l.length : Int)) ∧ (((([] : List Int).length + (cut l 0 n_1).length) * 8 ≤ 140737488355328) ∧ ((((([] : List Int) ++ (cut l 0 n_1)).length + ([n] : List Int).length) * 8 ≤ 140737488355328) ∧ (((((([] : List Int) ++ (cut l 0 n_1)) ++ ([n] : List Int)).length + (cut l n_1 (l.length : Int)).length) * 8 ≤ 140737488355328) ∧ (Q (((([] : List Int) ++ (cut l 0 n_1)) ++ ([n] : List Int)) ++ (cut l n_1 (l.length : Int)))))))
def ref32_Add_l1 (l : List Int) (n : Int) (Q : (List Int) → Prop) (K_1 : Int → Prop) (n_2 : Int) : Prop :=
  (n_2 < (l.length : Int) → ((0 : Int) ≤ n_2 ∧ n_2 < (l.length : Int)) ∧ (((gi l n_2) < n → (I64 (n_2 + 1)) ∧ (K_1 (n_2 + 1))) ∧ (¬ ((gi l n_2) < n) → ref32_Add_j1 l n Q n_2))) ∧ (¬ (n_2 < (l.length : Int)) → ref32_Add_j1 l n Q n_2)
def ref32_Add_W (l : List Int) (n : Int) (Q : (List Int) → Prop) : Prop :=
  ref32_Has_W l n (fun r_2 => (r_2 = true → Q l) ∧ (r_2 = false → loopW (fun (K_1 : Int → Prop) (s : Int) => ref32_Add_l1 l n Q K_1 s) 0))
set_option maxHeartbeats 40000000 in
set_option maxRecDepth 100000 in
theorem ref32_Add_walk {F : Fz} {fr : List Ow} {h0 : Heap} (l : List Int) (n : Int) (vl : Value) (hS : St F (fr) h0) (hL_l : SliceF F h0 1 encI vl l) {Q : (List Int) → Prop} (hM : ref32_Add_W l n Q) :
    HC Try.prog 81 #[vl, .int .i64 n] h0 fun u h' => ∃ (F' : Fz) (r_1 : List Int) (vr_1 : Value), u = vr_1 ∧ Kp F h0 F' h' ∧ St F' (fr) h' ∧ (SliceF F' h' 1 encI vl l) ∧ (SliceF F' h' 1 encI vr_1 r_1) ∧ Q r_1 := by
  unfold ref32_Add_W at hM
  have hK := Kp.refl F h0
  refine HC.of_HW (n := 36) Try.func81 rfl rfl (Nat.le_of_ble_eq_true rfl) ?_
  refine HW.seq ?_
  refine HW.region ?_
  refine HO.val (v := .slice none 0 0) (want_none) rfl (q_assign rfl) ?_
  refine HO.nil (thenQ_normal (?_))
  refine HW.seq ?_
  refine HW.seq ?_
  refine HW.region ?_
  refine HO.val (v := vl) (want_none) rfl (q_move rfl) ?_
  refine HO.val (v := .int .i64 n) (want_none) rfl (q_move rfl) ?_
  refine HO.call (want_none) rfl (ec en_116 rfl rfl) (ref32_Has_walk (fr := (fr)) l n vl hS hL_l hM) ?_
  rintro _ h_1 ⟨F_1, r_2, rfl, hk, hS, _, hM⟩
  replace hK := hK.trans hk
  replace hL_l := hL_l.kp hk
  refine HO.nil (thenQ_normal (?_))
  refine HW.cond r_2 rfl (fun c_1 => ?_) (fun c_1 => ?_)
  · replace hM := hM.1 c_1
    refine HW.seq ?_
    refine HW.region ?_
    refine HO.val (v := vl) (want_none) rfl (q_move rfl) ?_
    refine HO.val (v := vl) (want_none) rfl (q_assign rfl) ?_
    refine HO.nil (thenQ_normal (?_))
    refine HW.ret (thenQ_ret (?_))
    refine ⟨.inr rfl, vl, res1 rfl (rt rfl), ?_⟩
    exact ⟨F_1, l, vl, rfl, hK, hS, hL_l, hL_l, hM⟩
  · replace hM := hM.2 c_1
    refine HW.skip (thenQ_normal (?_))
    refine HW.seq ?_
    refine HW.region ?_
    refine HO.val (v := .int .i64 0) (want_none) rfl (q_assign rfl) ?_
    refine HO.nil (thenQ_normal (?_))
    refine HW.seq_mid (fun f h => ∃ (F' : Fz) (n_1 : Int), f 0 = vl ∧ f 1 = .int .i64 n ∧ f 4 = .slice none 0 0 ∧ f 5 = .int .i64 n_1 ∧ Kp F h0 F' h ∧ St F' (fr) h ∧ (SliceF F' h 1 encI vl l) ∧ ref32_Add_j1 l n Q n_1) ?_ ?_
    · refine HW.block ?_
      obtain ⟨I_1, m_1, hI_1, hR_1⟩ := hM
      refine HW.loop (S := Int) (fun n_2 f h => ∃ (F' : Fz), f 0 = vl ∧ f 1 = .int .i64 n ∧ f 4 = .slice none 0 0 ∧ f 5 = .int .i64 n_2 ∧ Kp F h0 F' h ∧ St F' (fr) h ∧ (SliceF F' h 1 encI vl l) ∧ I_1 n_2) m_1 0 ⟨F_1, rfl, rfl, rfl, rfl, hK, hS, hL_l, hI_1⟩ ?_
      rintro n_2 f_1 h_2 ⟨F_2, e0, e1, e4, e5, hK, hS, hL_l, hI0⟩
      obtain ⟨K_1, hKe_1⟩ : ∃ K : Int → Prop, K = fun n_2' => I_1 n_2' ∧ m_1 n_2' < m_1 n_2 := ⟨_, rfl⟩
      have hM : ref32_Add_l1 l n Q K_1 n_2 := by rw [hKe_1]; exact hR_1 n_2 hI0
      unfold ref32_Add_l1 at hM
      refine HW.fr [(0, vl), (1, .int .i64 n), (4, .slice none 0 0), (5, .int .i64 n_2)] ⟨e0, e1, e4, e5, trivial⟩ ?_
      refine HW.seq ?_
      refine HW.seq ?_
      refine HW.region ?_
      refine HO.val (v := .int .i64 n_2) (want_none) rfl (q_move rfl) ?_
      refine HO.val (v := vl) (want_none) rfl (q_move rfl) ?_
      refine HO.val (v := .int .i64 (l.length : Int)) (want_none) rfl (q_len ts_22 (shp hL_l.is) rfl rfl) ?_
      refine HO.val (v := .bool (decide (n_2 < (l.length : Int)))) (want_none) rfl (q_lss rfl rfl) ?_
      refine HO.val (v := .bool (decide (n_2 < (l.length : Int)))) (want_none) rfl (q_move rfl) ?_
      rcases Bool.eq_false_or_eq_true (decide (n_2 < (l.length : Int))) with c_2 | c_2
      · replace hM := hM.1 (of_decide_eq_true c_2)
        refine HO.val (v := vl) (want_by rfl rfl c_2) rfl (q_move rfl) ?_
        refine HO.val (v := .int .i64 n_2) (want_by rfl rfl c_2) rfl (q_move rfl) ?_
        obtain ⟨ho_1, hM⟩ := hM
        refine HO.val (v := elemPtr 1 vl (n_2).toNat) (want_by rfl rfl c_2) rfl (q_idx ts_22 hL_l.is rfl rfl ho_1) ?_
        refine HO.val (v := .int .i64 (gi l n_2)) (want_by rfl rfl c_2) rfl (q_ldElem to_3 hL_l.is rfl ho_1 rfl) ?_
        refine HO.val (v := .int .i64 n) (want_by rfl rfl c_2) rfl (q_move rfl) ?_
        refine HO.val (v := .bool (decide ((gi l n_2) < n))) (want_by rfl rfl c_2) rfl (q_lss rfl rfl) ?_
        refine HO.val (v := .bool (decide ((gi l n_2) < n))) (want_none) rfl (q_pickK true rfl c_2 rfl) ?_
        refine HO.nil (thenQ_normal (?_))
        refine HW.cond (decide ((gi l n_2) < n)) rfl (fun c_3 => ?_) (fun c_3 => ?_)
        · replace hM := hM.1 (of_decide_eq_true c_3)
          refine HW.skip (thenQ_normal (?_))
          refine HW.block ?_
          refine HW.region ?_
          refine HO.val (v := .int .i64 n_2) (want_none) rfl (q_move rfl) ?_
          obtain ⟨ho_2, hM⟩ := hM
          refine HO.val (v := .int .i64 (n_2 + 1)) (want_none) rfl (q_addN _ rfl rfl rfl ho_2.1 ho_2.2) ?_
          refine HO.val (v := .int .i64 (n_2 + 1)) (want_none) rfl (q_assign rfl) ?_
          refine HO.nil (blockQ_normal (thenQ_normal (?_)))
          rw [hKe_1] at hM
          exact ⟨n_2 + 1, ⟨F_2, rfl, rfl, rfl, rfl, hK, hS, hL_l, hM.1⟩, hM.2⟩
        · replace hM := hM.2 (of_decide_eq_false c_3)
          refine HW.exit (thenQ_exit (thenQ_exit (blockQ_exit (thenQ_normal (?_)))))
          exact ⟨F_2, n_2, rfl, rfl, rfl, rfl, hK, hS, hL_l, hM⟩
      · replace hM := hM.2 (of_decide_eq_false c_2)
        refine HO.past (past_by rfl rfl c_2) rfl ?_
        refine HO.past (past_by rfl rfl c_2) rfl ?_
        refine HO.past (past_by rfl rfl c_2) rfl ?_
        refine HO.past (past_by rfl rfl c_2) rfl ?_
        refine HO.past (past_by rfl rfl c_2) rfl ?_
        refine HO.past (past_by rfl rfl c_2) rfl ?_
        refine HO.val (v := .bool false) (want_none) rfl (q_pickK false rfl c_2 rfl) ?_
        refine HO.nil (thenQ_normal (?_))
        refine HW.condF rfl ?_
        refine HW.exit (thenQ_exit (thenQ_exit (blockQ_exit (thenQ_normal (?_)))))
        exact ⟨F_2, n_2, rfl, rfl, rfl, rfl, hK, hS, hL_l, hM⟩
    · rintro f_2 h_3 ⟨F_3, n_1, e0, e1, e4, e5, hK, hS, hL_l, hM⟩
      unfold ref32_Add_j1 at hM
      refine HW.fr [(0, vl), (1, .int .i64 n), (4, .slice none 0 0), (5, .int .i64 n_1)] ⟨e0, e1, e4, e5, trivial⟩ ?_
      refine HW.seq ?_
      obtain ⟨ho_3, hM⟩ := hM
      obtain ⟨ho_4, hM⟩ := hM
      obtain ⟨ho_5, hM⟩ := hM
      obtain ⟨ho_6, hM⟩ := hM
      refine HW.regionA 13 mixed (fun h => (SliceIs h 1 encI vl l)) [] (by kernel_rfl) ?_
      refine HA.val (k := 1) (v := vl) rfl rfl (by kernel_rfl) (by kernel_rfl) (want_none) rfl (fun _ hL_l => q_move rfl) ?_
      refine HA.val (k := 2) (v := .int .i64 n_1) rfl rfl (by kernel_rfl) (by kernel_rfl) (want_none) rfl (fun _ hL_l => q_move rfl) ?_
      refine HA.val (k := 3) (v := cutV 1 vl (0 : Int).toNat (n_1).toNat) rfl rfl (by kernel_rfl) (by kernel_rfl) (want_none) rfl (fun _ hL_l => q_slH ts_22 hL_l rfl rfl ho_3) ?_
      refine HA.val (k := 5) (v := .int .i64 n) rfl rfl (by kernel_rfl) (by kernel_rfl) (want_none) rfl (fun _ hL_l => q_move rfl) ?_
      refine HA.val (k := 8) (v := vl) rfl rfl (by kernel_rfl) (by kernel_rfl) (want_none) rfl (fun _ hL_l => q_move rfl) ?_
      refine HA.val (k := 9) (v := .int .i64 n_1) rfl rfl (by kernel_rfl) (by kernel_rfl) (want_none) rfl (fun _ hL_l => q_move rfl) ?_
      refine HA.val (k := 10) (v := cutV 1 vl (n_1).toNat ((l.length : Int)).toNat) rfl rfl (by kernel_rfl) (by kernel_rfl) (want_none) rfl (fun _ hL_l => q_slL ts_22 hL_l rfl rfl ho_3) ?_
      refine HA.two (k := 0) (k' := 6) ⟨hL_l.is, (Go.Wk.at_nil _ _)⟩ (by kernel_rfl) ?_ ?_
      · refine HS.eff rfl (want_none) rfl (st_litEmpty (α := Int) encI hS tl_22) ?_
        rintro _ h_4 ⟨b_1, rfl, hS, hk⟩
        replace hK := hK.trans hk
        replace hL_l := hL_l.kp hk
        refine Go.Wk.HA.re (fun h => (SliceIs h 1 encI vl l)) [(4, fun h => (OwnIs h 0 3 1 encI (.slice (some ⟨b_1, 0, none⟩) 0 0) ([] : List Int)))] (fun L_ h_ hL_ hL_l hs_ => ⟨hL_l, (Go.Wk.at_nil _ _)⟩) ?_
        refine HA.two (k := 4) (k' := 6) ⟨hL_l.is, (at_now (hS.own 0 rfl) (Go.Wk.at_nil _ _))⟩ (by kernel_rfl) ?_ ?_
        · refine HS.eff rfl (want_none) rfl (st_append te_22 hS (i := 0) rfl (cutIs hL_l.is 0 n_1 (Int.le_refl _) ho_3.1 ho_3.2) rfl rfl rfl (by intro a _ u hu; simp [encI, encI, encN, encB, encT] at hu; subst hu; rfl) ho_4 (by omega)) ?_
          rintro v_1 h_5 ⟨hS, hk⟩
          replace hS : St F_3 (Ow.own 3 1 encI v_1 (([] : List Int) ++ (cut l 0 n_1)) :: fr) h_5 := hS
          replace hK := hK.trans hk
          replace hL_l := hL_l.kp hk
          refine Go.Wk.HA.re (fun h => (SliceIs h 1 encI vl l)) [(7, fun h => (OwnIs h 0 3 1 encI v_1 (([] : List Int) ++ (cut l 0 n_1))))] (fun L_ h_ hL_ hL_l hs_ => ⟨hL_l, (at_gone hL_ (by kernel_rfl) (Go.Wk.at_nil _ _))⟩) ?_
          refine HA.one (k := 6) ⟨hL_l.is, (at_now (hS.own 0 rfl) (Go.Wk.at_nil _ _))⟩ (by kernel_rfl) ?_
          refine HS.eff rfl (want_none) rfl (st_lit (enc := encI) (cells := #[.int .i64 n]) #[.int .i64 0] ([n] : List Int) hS tl_22 (by decide) (by decide) (by kernel_rfl) (by kernel_rfl) rfl (by intro x hx; rfl) rfl) ?_
          rintro _ h_6 ⟨b_2, rfl, hS, hk⟩
          replace hK := hK.trans hk
          replace hL_l := hL_l.kp hk
          refine Go.Wk.HA.re (fun h => (SliceIs h 1 encI vl l) ∧ (OwnIs h 0 3 1 encI (.slice (some ⟨b_2, 0, none⟩) 1 1) ([n] : List Int))) [(7, fun h => (OwnIs h 0 3 1 encI v_1 (([] : List Int) ++ (cut l 0 n_1))))] (fun L_ h_ hL_ ⟨hL_l, c237⟩ hs_ => ⟨hL_l, (at_keep 0 rfl hs_ (fun c201 => c201) (Go.Wk.at_nil _ _))⟩) ?_
          refine HA.one (k := 7) ⟨⟨hL_l.is, (hS.own 0 rfl)⟩, (at_now (hS.own 1 rfl) (Go.Wk.at_nil _ _))⟩ (by kernel_rfl) ?_
          refine HS.eff rfl (want_none) rfl (st_append te_22 hS (i := 1) rfl (hS.own 0 rfl).slice rfl rfl rfl (by intro a _ u hu; simp [encI, encI, encN, encB, encT] at hu; subst hu; rfl) ho_5 (by omega)) ?_
          rintro v_2 h_7 ⟨hS, hk⟩
          replace hS : St F_3 (Ow.own 3 1 encI (.slice (some ⟨b_2, 0, none⟩) 1 1) ([n] : List Int) :: Ow.own 3 1 encI v_2 ((([] : List Int) ++ (cut l 0 n_1)) ++ ([n] : List Int)) :: fr) h_7 := hS
          replace hK := hK.trans hk
          replace hL_l := hL_l.kp hk
          refine Go.Wk.HA.re (fun h => (SliceIs h 1 encI vl l) ∧ (OwnIs h 0 3 1 encI (.slice (some ⟨b_2, 0, none⟩) 1 1) ([n] : List Int))) [(11, fun h => (OwnIs h 0 3 1 encI v_2 ((([] : List Int) ++ (cut l 0 n_1)) ++ ([n] : List Int))))] (fun L_ h_ hL_ ⟨hL_l, c237⟩ hs_ => ⟨⟨hL_l, c237⟩, (at_gone hL_ (by kernel_rfl) (Go.Wk.at_nil _ _))⟩) ?_
          refine HA.one (k := 11) ⟨⟨hL_l.is, (hS.own 0 rfl)⟩, (at_now (hS.own 1 rfl) (Go.Wk.at_nil _ _))⟩ (by kernel_rfl) ?_
          refine HS.eff rfl (want_none) rfl (st_append te_22 hS (i := 1) rfl (cutIs hL_l.is n_1 (l.length : Int) ho_3.1 ho_3.2 (Int.le_refl _)) rfl rfl rfl (by intro a _ u hu; simp [encI, encI, encN, encB, encT] at hu; subst hu; rfl) ho_6 (by omega)) ?_
          rintro v_3 h_8 ⟨hS, hk⟩
          replace hS : St F_3 (Ow.own 3 1 encI (.slice (some ⟨b_2, 0, none⟩) 1 1) ([n] : List Int) :: Ow.own 3 1 encI v_3 (((([] : List Int) ++ (cut l 0 n_1)) ++ ([n] : List Int)) ++ (cut l n_1 (l.length : Int))) :: fr) h_8 := hS
          replace hK := hK.trans hk
          replace hL_l := hL_l.kp hk
          refine HA.val (k := 12) (v := v_3) rfl rfl (by kernel_rfl) (by kernel_rfl) (want_none) rfl (fun _ ⟨hL_l, c237⟩ => q_assign rfl) ?_
          refine HA.nil ⟨⟨hL_l.is, (hS.own 0 rfl)⟩, (at_done (by kernel_rfl) (Go.Wk.at_nil _ _))⟩ (by kernel_rfl) (thenQ_normal (?_))
          refine HW.ret (?_)
          refine ⟨.inr rfl, v_3, res1 rfl (rt rfl), ?_⟩
          replace hS : St F_3 (Ow.own 3 1 encI v_3 (((([] : List Int) ++ (cut l 0 n_1)) ++ ([n] : List Int)) ++ (cut l n_1 (l.length : Int))) :: Ow.own 3 1 encI (.slice (some ⟨b_2, 0, none⟩) 1 1) ([n] : List Int) :: fr) h_8 := St.perm (front := [Ow.own 3 1 encI (.slice (some ⟨b_2, 0, none⟩) 1 1) ([n] : List Int), Ow.own 3 1 encI v_3 (((([] : List Int) ++ (cut l 0 n_1)) ++ ([n] : List Int)) ++ (cut l n_1 (l.length : Int)))]) (fr := fr) hS [1, 0] 2 rfl (by decide) [Ow.own 3 1 encI v_3 (((([] : List Int) ++ (cut l 0 n_1)) ++ ([n] : List Int)) ++ (cut l n_1 (l.length : Int))), Ow.own 3 1 encI (.slice (some ⟨b_2, 0, none⟩) 1 1) ([n] : List Int)] rfl
          obtain ⟨F_4, hS, hk, hL_2⟩ := hS.freezeOwn
          replace hK := hK.trans hk
          replace hL_l := hL_l.kp hk
          replace hS : St F_4 (fr) h_8 := St.perm (front := [Ow.own 3 1 encI (.slice (some ⟨b_2, 0, none⟩) 1 1) ([n] : List Int)]) (fr := fr) hS [] 1 rfl (by decide) [] rfl
          exact ⟨F_4, ((([] : List Int) ++ (cut l 0 n_1)) ++ ([n] : List Int)) ++ (cut l n_1 (l.length : Int)), v_3, rfl, hK, hS, hL_l, hL_2, hM⟩
        · refine HS.eff rfl (want_none) rfl (st_lit (enc := encI) (cells := #[.int .i64 n]) #[.int .i64 0] ([n] : List Int) hS tl_22 (by decide) (by decide) (by kernel_rfl) (by kernel_rfl) rfl (by intro x hx; rfl) rfl) ?_
          rintro _ h_5 ⟨b_2, rfl, hS, hk⟩
          replace hK := hK.trans hk
          replace hL_l := hL_l.kp hk
          refine Go.Wk.HA.re (fun h => (SliceIs h 1 encI vl l) ∧ (OwnIs h 0 3 1 encI (.slice (some ⟨b_2, 0, none⟩) 1 1) ([n] : List Int))) [(4, fun h => (OwnIs h 0 3 1 encI (.slice (some ⟨b_1, 0, none⟩) 0 0) ([] : List Int)))] (fun L_ h_ hL_ ⟨hL_l, c237⟩ hs_ => ⟨hL_l, (at_keep 0 rfl hs_ (fun c201 => c201) (Go.Wk.at_nil _ _))⟩) ?_
          refine HA.one (k := 4) ⟨⟨hL_l.is, (hS.own 0 rfl)⟩, (at_now (hS.own 1 rfl) (Go.Wk.at_nil _ _))⟩ (by kernel_rfl) ?_
          refine HS.eff rfl (want_none) rfl (st_append te_22 hS (i := 1) rfl (cutIs hL_l.is 0 n_1 (Int.le_refl _) ho_3.1 ho_3.2) rfl rfl rfl (by intro a _ u hu; simp [encI, encI, encN, encB, encT] at hu; subst hu; rfl) ho_4 (by omega)) ?_
          rintro v_1 h_6 ⟨hS, hk⟩
          replace hS : St F_3 (Ow.own 3 1 encI (.slice (some ⟨b_2, 0, none⟩) 1 1) ([n] : List Int) :: Ow.own 3 1 encI v_1 (([] : List Int) ++ (cut l 0 n_1)) :: fr) h_6 := hS
          replace hK := hK.trans hk
          replace hL_l := hL_l.kp hk
          refine Go.Wk.HA.re (fun h => (SliceIs h 1 encI vl l) ∧ (OwnIs h 0 3 1 encI (.slice (some ⟨b_2, 0, none⟩) 1 1) ([n] : List Int))) [(7, fun h => (OwnIs h 0 3 1 encI v_1 (([] : List Int) ++ (cut l 0 n_1))))] (fun L_ h_ hL_ ⟨hL_l, c237⟩ hs_ => ⟨⟨hL_l, c237⟩, (at_gone hL_ (by kernel_rfl) (Go.Wk.at_nil _ _))⟩) ?_
          refine HA.one (k := 7) ⟨⟨hL_l.is, (hS.own 0 rfl)⟩, (at_now (hS.own 1 rfl) (Go.Wk.at_nil _ _))⟩ (by kernel_rfl) ?_
          refine HS.eff rfl (want_none) rfl (st_append te_22 hS (i := 1) rfl (hS.own 0 rfl).slice rfl rfl rfl (by intro a _ u hu; simp [encI, encI, encN, encB, encT] at hu; subst hu; rfl) ho_5 (by omega)) ?_
          rintro v_2 h_7 ⟨hS, hk⟩
          replace hS : St F_3 (Ow.own 3 1 encI (.slice (some ⟨b_2, 0, none⟩) 1 1) ([n] : List Int) :: Ow.own 3 1 encI v_2 ((([] : List Int) ++ (cut l 0 n_1)) ++ ([n] : List Int)) :: fr) h_7 := hS
          replace hK := hK.trans hk
          replace hL_l := hL_l.kp hk
          refine Go.Wk.HA.re (fun h => (SliceIs h 1 encI vl l) ∧ (OwnIs h 0 3 1 encI (.slice (some ⟨b_2, 0, none⟩) 1 1) ([n] : List Int))) [(11, fun h => (OwnIs h 0 3 1 encI v_2 ((([] : List Int) ++ (cut l 0 n_1)) ++ ([n] : List Int))))] (fun L_ h_ hL_ ⟨hL_l, c237⟩ hs_ => ⟨⟨hL_l, c237⟩, (at_gone hL_ (by kernel_rfl) (Go.Wk.at_nil _ _))⟩) ?_
          refine HA.one (k := 11) ⟨⟨hL_l.is, (hS.own 0 rfl)⟩, (at_now (hS.own 1 rfl) (Go.Wk.at_nil _ _))⟩ (by kernel_rfl) ?_
          refine HS.eff rfl (want_none) rfl (st_append te_22 hS (i := 1) rfl (cutIs hL_l.is n_1 (l.length : Int) ho_3.1 ho_3.2 (Int.le_refl _)) rfl rfl rfl (by intro a _ u hu; simp [encI, encI, encN, encB, encT] at hu; subst hu; rfl) ho_6 (by omega)) ?_
          rintro v_3 h_8 ⟨hS, hk⟩
          replace hS : St F_3 (Ow.own 3 1 encI (.slice (some ⟨b_2, 0, none⟩) 1 1) ([n] : List Int) :: Ow.own 3 1 encI v_3 (((([] : List Int) ++ (cut l 0 n_1)) ++ ([n] : List Int)) ++ (cut l n_1 (l.length : Int))) :: fr) h_8 := hS
          replace hK := hK.trans hk
          replace hL_l := hL_l.kp hk
          refine HA.val (k := 12) (v := v_3) rfl rfl (by kernel_rfl) (by kernel_rfl) (want_none) rfl (fun _ ⟨hL_l, c237⟩ => q_assign rfl) ?_
          refine HA.nil ⟨⟨hL_l.is, (hS.own 0 rfl)⟩, (at_done (by kernel_rfl) (Go.Wk.at_nil _ _))⟩ (by kernel_rfl) (thenQ_normal (?_))
          refine HW.ret (?_)
          refine ⟨.inr rfl, v_3, res1 rfl (rt rfl), ?_⟩
          replace hS : St F_3 (Ow.own 3 1 encI v_3 (((([] : List Int) ++ (cut l 0 n_1)) ++ ([n] : List Int)) ++ (cut l n_1 (l.length : Int))) :: Ow.own 3 1 encI (.slice (some ⟨b_2, 0, none⟩) 1 1) ([n] : List Int) :: fr) h_8 := St.perm (front := [Ow.own 3 1 encI (.slice (some ⟨b_2, 0, none⟩) 1 1) ([n] : List Int), Ow.own 3 1 encI v_3 (((([] : List Int) ++ (cut l 0 n_1)) ++ ([n] : List Int)) ++ (cut l n_1 (l.length : Int)))]) (fr := fr) hS [1, 0] 2 rfl (by decide) [Ow.own 3 1 encI v_3 (((([] : List Int) ++ (cut l 0 n_1)) ++ ([n] : List Int)) ++ (cut l n_1 (l.length : Int))), Ow.own 3 1 encI (.slice (some ⟨b_2, 0, none⟩) 1 1) ([n] : List Int)] rfl
          obtain ⟨F_4, hS, hk, hL_2⟩ := hS.freezeOwn
          replace hK := hK.trans hk
          replace hL_l := hL_l.kp hk
          replace hS : St F_4 (fr) h_8 := St.perm (front := [Ow.own 3 1 encI (.slice (some ⟨b_2, 0, none⟩) 1 1) ([n] : List Int)]) (fr := fr) hS [] 1 rfl (by decide) [] rfl
          exact ⟨F_4, ((([] : List Int) ++ (cut l 0 n_1)) ++ ([n] : List Int)) ++ (cut l n_1 (l.length : Int)), v_3, rfl, hK, hS, hL_l, hL_2, hM⟩
      · refine HS.eff rfl (want_none) rfl (st_lit (enc := encI) (cells := #[.int .i64 n]) #[.int .i64 0] ([n] : List Int) hS tl_22 (by decide) (by decide) (by kernel_rfl) (by kernel_rfl) rfl (by intro x hx; rfl) rfl) ?_
        rintro _ h_4 ⟨b_1, rfl, hS, hk⟩
        replace hK := hK.trans hk
        replace hL_l := hL_l.kp hk
        refine Go.Wk.HA.re (fun h => (SliceIs h 1 encI vl l) ∧ (OwnIs h 0 3 1 encI (.slice (some ⟨b_1, 0, none⟩) 1 1) ([n] : List Int))) [] (fun L_ h_ hL_ ⟨hL_l, c237⟩ hs_ => ⟨hL_l, (Go.Wk.at_nil _ _)⟩) ?_
        refine HA.one (k := 0) ⟨⟨hL_l.is, (hS.own 0 rfl)⟩, (Go.Wk.at_nil _ _)⟩ (by kernel_rfl) ?_
        refine HS.eff rfl (want_none) rfl (st_litEmpty (α := Int) encI hS tl_22) ?_
        rintro _ h_5 ⟨b_2, rfl, hS, hk⟩
        replace hK := hK.trans hk
        replace hL_l := hL_l.kp hk
        refine Go.Wk.HA.re (fun h => (SliceIs h 1 encI vl l) ∧ (OwnIs h 0 3 1 encI (.slice (some ⟨b_1, 0, none⟩) 1 1) ([n] : List Int))) [(4, fun h => (OwnIs h 0 3 1 encI (.slice (some ⟨b_2, 0, none⟩) 0 0) ([] : List Int)))] (fun L_ h_ hL_ ⟨hL_l, c237⟩ hs_ => ⟨⟨hL_l, c237⟩, (Go.Wk.at_nil _ _)⟩) ?_
        refine HA.one (k := 4) ⟨⟨hL_l.is, (hS.own 1 rfl)⟩, (at_now (hS.own 0 rfl) (Go.Wk.at_nil _ _))⟩ (by kernel_rfl) ?_
        refine HS.eff rfl (want_none) rfl (st_append te_22 hS (i := 0) rfl (cutIs hL_l.is 0 n_1 (Int.le_refl _) ho_3.1 ho_3.2) rfl rfl rfl (by intro a _ u hu; simp [encI, encI, encN, encB, encT] at hu; subst hu; rfl) ho_4 (by omega)) ?_
        rintro v_1 h_6 ⟨hS, hk⟩
        replace hS : St F_3 (Ow.own 3 1 encI v_1 (([] : List Int) ++ (cut l 0 n_1)) :: Ow.own 3 1 encI (.slice (some ⟨b_1, 0, none⟩) 1 1) ([n] : List Int) :: fr) h_6 := hS
        replace hK := hK.trans hk
        replace hL_l := hL_l.kp hk
        refine Go.Wk.HA.re (fun h => (SliceIs h 1 encI vl l) ∧ (OwnIs h 0 3 1 encI (.slice (some ⟨b_1, 0, none⟩) 1 1) ([n] : List Int))) [(7, fun h => (OwnIs h 0 3 1 encI v_1 (([] : List Int) ++ (cut l 0 n_1))))] (fun L_ h_ hL_ ⟨hL_l, c237⟩ hs_ => ⟨⟨hL_l, c237⟩, (at_gone hL_ (by kernel_rfl) (Go.Wk.at_nil _ _))⟩) ?_
        refine HA.one (k := 7) ⟨⟨hL_l.is, (hS.own 1 rfl)⟩, (at_now (hS.own 0 rfl) (Go.Wk.at_nil _ _))⟩ (by kernel_rfl) ?_
        refine HS.eff rfl (want_none) rfl (st_append te_22 hS (i := 0) rfl (hS.own 1 rfl).slice rfl rfl rfl (by intro a _ u hu; simp [encI, encI, encN, encB, encT] at hu; subst hu; rfl) ho_5 (by omega)) ?_
        rintro v_2 h_7 ⟨hS, hk⟩
        replace hS : St F_3 (Ow.own 3 1 encI v_2 ((([] : List Int) ++ (cut l 0 n_1)) ++ ([n] : List Int)) :: Ow.own 3 1 encI (.slice (some ⟨b_1, 0, none⟩) 1 1) ([n] : List Int) :: fr) h_7 := hS
        replace hK := hK.trans hk
        replace hL_l := hL_l.kp hk
        refine Go.Wk.HA.re (fun h => (SliceIs h 1 encI vl l) ∧ (OwnIs h 0 3 1 encI (.slice (some ⟨b_1, 0, none⟩) 1 1) ([n] : List Int))) [(11, fun h => (OwnIs h 0 3 1 encI v_2 ((([] : List Int) ++ (cut l 0 n_1)) ++ ([n] : List Int))))] (fun L_ h_ hL_ ⟨hL_l, c237⟩ hs_ => ⟨⟨hL_l, c237⟩, (at_gone hL_ (by kernel_rfl) (Go.Wk.at_nil _ _))⟩) ?_
        refine HA.one (k := 11) ⟨⟨hL_l.is, (hS.own 1 rfl)⟩, (at_now (hS.own 0 rfl) (Go.Wk.at_nil _ _))⟩ (by kernel_rfl) ?_
        refine HS.eff rfl (want_none) rfl (st_append te_22 hS (i := 0) rfl (cutIs hL_l.is n_1 (l.length : Int) ho_3.1 ho_3.2 (Int.le_refl _)) rfl rfl rfl (by intro a _ u hu; simp [encI, encI, encN, encB, encT] at hu; subst hu; rfl) ho_6 (by omega)) ?_
        rintro v_3 h_8 ⟨hS, hk⟩
        replace hS : St F_3 (Ow.own 3 1 encI v_3 (((([] : List Int) ++ (cut l 0 n_1)) ++ ([n] : List Int)) ++ (cut l n_1 (l.length : Int))) :: Ow.own 3 1 encI (.slice (some ⟨b_1, 0, none⟩) 1 1) ([n] : List Int) :: fr) h_8 := hS
        replace hK := hK.trans hk
        replace hL_l := hL_l.kp hk
        refine HA.val (k := 12) (v := v_3) rfl rfl (by kernel_rfl) (by kernel_rfl) (want_none) rfl (fun _ ⟨hL_l, c237⟩ => q_assign rfl) ?_
        refine HA.nil ⟨⟨hL_l.is, (hS.own 1 rfl)⟩, (at_done (by kernel_rfl) (Go.Wk.at_nil _ _))⟩ (by kernel_rfl) (thenQ_normal (?_))
        refine HW.ret (?_)
        refine ⟨.inr rfl, v_3, res1 rfl (rt rfl), ?_⟩
        obtain ⟨F_4, hS, hk, hL_2⟩ := hS.freezeOwn
        replace hK := hK.trans hk
        replace hL_l := hL_l.kp hk
        replace hS : St F_4 (fr) h_8 := St.perm (front := [Ow.own 3 1 encI (.slice (some ⟨b_1, 0, none⟩) 1 1) ([n] : List Int)]) (fr := fr) hS [] 1 rfl (by decide) [] rfl
        exact ⟨F_4, ((([] : List Int) ++ (cut l 0 n_1)) ++ ([n] : List Int)) ++ (cut l n_1 (l.length : Int)), v_3, rfl, hK, hS, hL_l, hL_2, hM⟩

def ref32_SameInts_l1 (a : List Int) (b : List Int) (Q : Bool → Prop) (K_1 : Int → Prop) (i_1 : Int) : Prop :=
  (i_1 < (a.length : Int) → ((0 : Int) ≤ i_1 ∧ i_1 < (a.length : Int)) ∧ (((0 : Int) ≤ i_1 ∧ i_1 < (b.length : Int)) ∧ ((¬ ((gi a i_1) = (gi b i_1)) → Q false) ∧ ((gi a i_1) = (gi b i_1) → (I64 (i_1 + 1)) ∧ (K_1 (i_1 + 1)))))) ∧ (¬ (i_1 < (a.length : Int)) → Q true)
def ref32_SameInts_W (a : List Int) (b : List Int) (Q : Bool → Prop) : Prop :=
  (¬ ((a.length : Int) = (b.length : Int)) → Q false) ∧ ((a.length : Int) = (b.length : Int) → loopW (fun (K_1 : Int → Prop) (s : Int) => ref32_SameInts_l1 a b Q K_1 s) 0)
set_option maxHeartbeats 40000000 in
set_option maxRecDepth 100000 in
theorem ref32_SameInts_walk {F : Fz} {fr : List Ow} {h0 : Heap} (a : List Int) (b : List Int) (va : Value) (vb : Value) (hS : St F (fr) h0) (hL_a : SliceF F h0 1 encI va a) (hL_b : SliceF F h0 1 encI vb b) {Q : Bool → Prop} (hM : ref32_SameInts_W a b Q) :
    HC Try.prog 82 #[va, vb] h0 fun u h' => ∃ (F' : Fz) (r_1 : Bool), u = .bool r_1 ∧ Kp F h0 F' h' ∧ St F' (fr) h' ∧ (SliceF F' h' 1 encI va a) ∧ (SliceF F' h' 1 encI vb b) ∧ Q r_1 := by
  unfold ref32_SameInts_W at hM
  have hK := Kp.refl F h0
  refine HC.of_HW (n := 26) Try.func82 rfl rfl (Nat.le_of_ble_eq_true rfl) ?_
  refine HW.seq ?_
  refine HW.region ?_
  refine HO.val (v := .bool false) (want_none) rfl (q_assign rfl) ?_
  refine HO.nil (thenQ_normal (?_))
  refine HW.seq ?_
  refine HW.seq ?_
  refine HW.region ?_
  refine HO.val (v := va) (want_none) rfl (q_move rfl) ?_
  refine HO.val (v := .int .i64 (a.length : Int)) (want_none) rfl (q_len ts_22 (shp hL_a.is) rfl rfl) ?_
  refine HO.val (v := vb) (want_none) rfl (q_move rfl) ?_
  refine HO.val (v := .int .i64 (b.length : Int)) (want_none) rfl (q_len ts_22 (shp hL_b.is) rfl rfl) ?_
  refine HO.val (v := .bool (!decide ((a.length : Int) = (b.length : Int)))) (want_none) rfl (q_neq rfl rfl) ?_
  refine HO.nil (thenQ_normal (?_))
  refine HW.cond (!decide ((a.length : Int) = (b.length : Int))) rfl (fun c_1 => ?_) (fun c_1 => ?_)
  · replace hM := hM.1 (nd_true c_1)
    refine HW.seq ?_
    refine HW.region ?_
    refine HO.val (v := .bool false) (want_none) rfl (q_assign rfl) ?_
    refine HO.nil (thenQ_normal (?_))
    refine HW.ret (thenQ_ret (?_))
    refine ⟨.inr rfl, .bool false, res1 rfl (rt rfl), ?_⟩
    exact ⟨F, false, rfl, hK, hS, hL_a, hL_b, hM⟩
  · replace hM := hM.2 (nd_false c_1)
    refine HW.skip (thenQ_normal (?_))
    refine HW.seq ?_
    refine HW.seq ?_
    refine HW.region ?_
    refine HO.val (v := .int .i64 0) (want_none) rfl (q_assign rfl) ?_
    refine HO.nil (thenQ_normal (?_))
    refine HW.block ?_
    obtain ⟨I_1, m_1, hI_1, hR_1⟩ := hM
    refine HW.loop (S := Int) (fun i_1 f h => ∃ (F' : Fz), f 0 = va ∧ f 1 = vb ∧ f 4 = .bool false ∧ f 5 = .int .i64 i_1 ∧ Kp F h0 F' h ∧ St F' (fr) h ∧ (SliceF F' h 1 encI va a) ∧ (SliceF F' h 1 encI vb b) ∧ I_1 i_1) m_1 0 ⟨F, rfl, rfl, rfl, rfl, hK, hS, hL_a, hL_b, hI_1⟩ ?_
    rintro i_1 f_1 h_1 ⟨F_1, e0, e1, e4, e5, hK, hS, hL_a, hL_b, hI0⟩
    obtain ⟨K_1, hKe_1⟩ : ∃ K : Int → Prop, K = fun i_1' => I_1 i_1' ∧ m_1 i_1' < m_1 i_1 := ⟨_, rfl⟩
    have hM : ref32_SameInts_l1 a b Q K_1 i_1 := by rw [hKe_1]; exact hR_1 i_1 hI0
    unfold ref32_SameInts_l1 at hM
    refine HW.fr [(0, va), (1, vb), (4, .bool false), (5, .int .i64 i_1)] ⟨e0, e1, e4, e5, trivial⟩ ?_
    refine HW.seq ?_
    refine HW.seq ?_
    refine HW.region ?_
    refine HO.val (v := .int .i64 i_1) (want_none) rfl (q_move rfl) ?_
    refine HO.val (v := va) (want_none) rfl (q_move rfl) ?_
    refine HO.val (v := .int .i64 (a.length : Int)) (want_none) rfl (q_len ts_22 (shp hL_a.is) rfl rfl) ?_
    refine HO.val (v := .bool (decide (i_1 < (a.length : Int)))) (want_none) rfl (q_lss rfl rfl) ?_
    refine HO.nil (thenQ_normal (?_))
    refine HW.cond (decide (i_1 < (a.length : Int))) rfl (fun c_2 => ?_) (fun c_2 => ?_)
    · replace hM := hM.1 (of_decide_eq_true c_2)
      refine HW.skip (thenQ_normal (?_))
      refine HW.seq ?_
      refine HW.block ?_
      refine HW.seq ?_
      refine HW.regionA 9 mixed (fun h => (SliceIs h 1 encI va a) ∧ (SliceIs h 1 encI vb b)) [] (by kernel_rfl) ?_
      refine HA.val (k := 0) (v := va) rfl rfl (by kernel_rfl) (by kernel_rfl) (want_none) rfl (fun _ ⟨hL_a, hL_b⟩ => q_move rfl) ?_
      refine HA.val (k := 1) (v := .int .i64 i_1) rfl rfl (by kernel_rfl) (by kernel_rfl) (want_none) rfl (fun _ ⟨hL_a, hL_b⟩ => q_move rfl) ?_
      obtain ⟨ho_1, hM⟩ := hM
      refine HA.val (k := 2) (v := elemPtr 1 va (i_1).toNat) rfl rfl (by kernel_rfl) (by kernel_rfl) (want_none) rfl (fun _ ⟨hL_a, hL_b⟩ => q_idx ts_22 hL_a rfl rfl ho_1) ?_
      refine HA.val (k := 3) (v := .int .i64 (gi a i_1)) rfl rfl (by kernel_rfl) (by kernel_rfl) (want_none) rfl (fun _ ⟨hL_a, hL_b⟩ => q_ldElem to_3 hL_a rfl ho_1 rfl) ?_
      refine HA.val (k := 4) (v := vb) rfl rfl (by kernel_rfl) (by kernel_rfl) (want_none) rfl (fun _ ⟨hL_a, hL_b⟩ => q_move rfl) ?_
      refine HA.val (k := 5) (v := .int .i64 i_1) rfl rfl (by kernel_rfl) (by kernel_rfl) (want_none) rfl (fun _ ⟨hL_a, hL_b⟩ => q_move rfl) ?_
      obtain ⟨ho_2, hM⟩ := hM
      refine HA.val (k := 6) (v := elemPtr 1 vb (i_1).toNat) rfl rfl (by kernel_rfl) (by kernel_rfl) (want_none) rfl (fun _ ⟨hL_a, hL_b⟩ => q_idx ts_22 hL_b rfl rfl ho_2) ?_
      refine HA.val (k := 7) (v := .int .i64 (gi b i_1)) rfl rfl (by kernel_rfl) (by kernel_rfl) (want_none) rfl (fun _ ⟨hL_a, hL_b⟩ => q_ldElem to_3 hL_b rfl ho_2 rfl) ?_
      refine HA.val (k := 8) (v := .bool (!decide ((gi a i_1) = (gi b i_1)))) rfl rfl (by kernel_rfl) (by kernel_rfl) (want_none) rfl (fun _ ⟨hL_a, hL_b⟩ => q_neq rfl rfl) ?_
      refine HA.nil ⟨⟨hL_a.is, hL_b.is⟩, (Go.Wk.at_nil _ _)⟩ (by kernel_rfl) (thenQ_normal (?_))
      refine HW.cond (!decide ((gi a i_1) = (gi b i_1))) rfl (fun c_3 => ?_) (fun c_3 => ?_)
      · replace hM := hM.1 (nd_true c_3)
        refine HW.seq ?_
        refine HW.region ?_
        refine HO.val (v := .bool false) (want_none) rfl (q_assign rfl) ?_
        refine HO.nil (thenQ_normal (?_))
        refine HW.ret (blockQ_ret (thenQ_ret (thenQ_ret (blockQ_ret (thenQ_ret (?_))))))
        refine ⟨.inr rfl, .bool false, res1 rfl (rt rfl), ?_⟩
        exact ⟨F_1, false, rfl, hK, hS, hL_a, hL_b, hM⟩
      · replace hM := hM.2 (nd_false c_3)
        refine HW.skip (blockQ_normal (thenQ_normal (?_)))
        refine HW.region ?_
        refine HO.val (v := .int .i64 i_1) (want_none) rfl (q_move rfl) ?_
        obtain ⟨ho_3, hM⟩ := hM
        refine HO.val (v := .int .i64 (i_1 + 1)) (want_none) rfl (q_addN _ rfl rfl rfl ho_3.1 ho_3.2) ?_
        refine HO.val (v := .int .i64 (i_1 + 1)) (want_none) rfl (q_assign rfl) ?_
        refine HO.nil (thenQ_normal (?_))
        rw [hKe_1] at hM
        exact ⟨i_1 + 1, ⟨F_1, rfl, rfl, rfl, rfl, hK, hS, hL_a, hL_b, hM.1⟩, hM.2⟩
    · replace hM := hM.2 (of_decide_eq_false c_2)
      refine HW.exit (thenQ_exit (thenQ_exit (blockQ_exit (thenQ_normal (?_)))))
      refine HW.seq ?_
      refine HW.region ?_
      refine HO.val (v := .bool true) (want_none) rfl (q_assign rfl) ?_
      refine HO.nil (thenQ_normal (?_))
      refine HW.ret (?_)
      refine ⟨.inr rfl, .bool true, res1 rfl (rt rfl), ?_⟩
      exact ⟨F_1, true, rfl, hK, hS, hL_a, hL_b, hM⟩

def ref44_Twice_l1 (l : List (Int × Int × Int × Int × Str)) (Q : (List (Int × Int × Int × Int × Str)) → Prop) (K_1 : (List (Int × Int × Int × Int × Str)) → Int → Prop) (out_1 : List (Int × Int × Int × Int × Str)) (i_1 : Int) : Prop :=
  (i_1 < (l.length : Int) → ((0 : Int) ≤ i_1 ∧ i_1 ≤ (l.length : Int)) ∧ (((0 : Int) ≤ i_1 ∧ i_1 < (l.length : Int)) ∧ (ref44_Count_W (cut l 0 i_1) ((gi l i_1).1) ((gi l i_1).2.2.1) ((gi l i_1).2.1, (gi l i_1).2.2.2.1) (fun r_2 => (0 < r_2 → ((out_1.length + ([(gi l i_1)] : List (Int × Int × Int × Int × Str)).length) * 48 ≤ 140737488355328) ∧ ((I64 (i_1 + 1)) ∧ (K_1 (out_1 ++ ([(gi l i_1)] : List (Int × Int × Int × Int × Str))) (i_1 + 1)))) ∧ (¬ (0 < r_2) → (I64 (i_1 + 1)) ∧ (K_1 out_1 (i_1 + 1))))))) ∧ (¬ (i_1 < (l.length : Int)) → Q out_1)
def ref44_Twice_W (l : List (Int × Int × Int × Int × Str)) (Q : (List (Int × Int × Int × Int × Str)) → Prop) : Prop :=
  loopW (fun (K_1 : ((List (Int × Int × Int × Int × Str)) × Int) → Prop) (s : (List (Int × Int × Int × Int × Str)) × Int) => ref44_Twice_l1 l Q (fun out_1 i_1 => K_1 (out_1, i_1)) s.1 s.2) ([], 0)
set_option maxHeartbeats 40000000 in
set_option maxRecDepth 100000 in
theorem ref44_Twice_walk {F : Fz} {fr : List Ow} {h0 : Heap} (l : List (Int × Int × Int × Int × Str)) (vl : Value) (hS : St F (fr) h0) (hL_l : SliceF F h0 5 e_api_Given vl l) {Q : (List (Int × Int × Int × Int × Str)) → Prop} (hM : ref44_Twice_W l Q) :
    HC Try.prog 85 #[vl] h0 fun u h' => ∃ (F' : Fz) (r_1 : List (Int × Int × Int × Int × Str)) (vr_1 : Value), u = vr_1 ∧ Kp F h0 F' h' ∧ St F' (Ow.own 112 5 e_api_Given vr_1 r_1 :: fr) h' ∧ (SliceF F' h' 5 e_api_Given vl l) ∧ Q r_1 := by
  unfold ref44_Twice_W at hM
  have hK := Kp.refl F h0
  refine HC.of_HW (n := 46) Try.func85 rfl rfl (Nat.le_of_ble_eq_true rfl) ?_
  refine HW.seq ?_
  refine HW.region ?_
  refine HO.val (v := .slice none 0 0) (want_none) rfl (q_assign rfl) ?_
  refine HO.nil (thenQ_normal (?_))
  refine HW.seq ?_
  refine HW.region ?_
  refine HO.eff (want_none) rfl (st_litEmpty (α := Int × Int × Int × Int × Str) e_api_Given hS tl_97) ?_
  rintro _ h_1 ⟨b_1, rfl, hS, hk⟩
  replace hK := hK.trans hk
  replace hL_l := hL_l.kp hk
  refine HO.val (v := .slice (some ⟨b_1, 0, none⟩) 0 0) (want_none) rfl (q_assign rfl) ?_
  refine HO.nil (thenQ_normal (?_))
  refine HW.seq ?_
  refine HW.seq ?_
  refine HW.region ?_
  refine HO.val (v := .int .i64 0) (want_none) rfl (q_assign rfl) ?_
  refine HO.nil (thenQ_normal (?_))
  refine HW.block ?_
  obtain ⟨I_1, m_1, hI_1, hR_1⟩ := hM
  refine HW.loop (S := (List (Int × Int × Int × Int × Str)) × Int) (fun s f h => match s with | (out_1, i_1) => ∃ (F' : Fz) (vout_1 : Value), f 0 = vl ∧ f 2 = .slice none 0 0 ∧ f 3 = vout_1 ∧ f 4 = .int .i64 i_1 ∧ Kp F h0 F' h ∧ St F' (Ow.own 112 5 e_api_Given vout_1 out_1 :: fr) h ∧ (SliceF F' h 5 e_api_Given vl l) ∧ I_1 (out_1, i_1)) m_1 ([], 0) ⟨F, .slice (some ⟨b_1, 0, none⟩) 0 0, rfl, rfl, rfl, rfl, hK, hS, hL_l, hI_1⟩ ?_
  rintro ⟨out_1, i_1⟩ f_1 h_2 ⟨F_1, vout_1, e0, e2, e3, e4, hK, hS, hL_l, hI0⟩
  obtain ⟨K_1, hKe_1⟩ : ∃ K : (List (Int × Int × Int × Int × Str)) → Int → Prop, K = fun out_1' i_1' => I_1 (out_1', i_1') ∧ m_1 (out_1', i_1') < m_1 (out_1, i_1) := ⟨_, rfl⟩
  have hM : ref44_Twice_l1 l Q K_1 out_1 i_1 := by rw [hKe_1]; exact hR_1 (out_1, i_1) hI0
  unfold ref44_Twice_l1 at hM
  refine HW.fr [(0, vl), (2, .slice none 0 0), (3, vout_1), (4, .int .i64 i_1)] ⟨e0, e2, e3, e4, trivial⟩ ?_
  refine HW.seq ?_
  refine HW.seq ?_
  refine HW.region ?_
  refine HO.val (v := .int .i64 i_1) (want_none) rfl (q_move rfl) ?_
  refine HO.val (v := vl) (want_none) rfl (q_move rfl) ?_
  refine HO.val (v := .int .i64 (l.length : Int)) (want_none) rfl (q_len ts_97 (shp hL_l.is) rfl rfl) ?_
  refine HO.val (v := .bool (decide (i_1 < (l.length : Int)))) (want_none) rfl (q_lss rfl rfl) ?_
  refine HO.nil (thenQ_normal (?_))
  refine HW.cond (decide (i_1 < (l.length : Int))) rfl (fun c_1 => ?_) (fun c_1 => ?_)
  · replace hM := hM.1 (of_decide_eq_true c_1)
    refine HW.skip (thenQ_normal (?_))
    refine HW.seq ?_
    refine HW.block ?_
    refine HW.seq ?_
    refine HW.regionA 26 mixed (fun h => (SliceIs h 5 e_api_Given vl l) ∧ (OwnIs h 0 112 5 e_api_Given vout_1 out_1)) [] (by kernel_rfl) ?_
    refine HA.val (k := 0) (v := vl) rfl rfl (by kernel_rfl) (by kernel_rfl) (want_none) rfl (fun _ ⟨hL_l, c303⟩ => q_move rfl) ?_
    refine HA.val (k := 1) (v := .int .i64 i_1) rfl rfl (by kernel_rfl) (by kernel_rfl) (want_none) rfl (fun _ ⟨hL_l, c303⟩ => q_move rfl) ?_
    obtain ⟨ho_1, hM⟩ := hM
    refine HA.val (k := 2) (v := cutV 5 vl (0 : Int).toNat (i_1).toNat) rfl rfl (by kernel_rfl) (by kernel_rfl) (want_none) rfl (fun _ ⟨hL_l, c303⟩ => q_slH ts_97 hL_l rfl rfl ho_1) ?_
    refine HA.val (k := 3) (v := vl) rfl rfl (by kernel_rfl) (by kernel_rfl) (want_none) rfl (fun _ ⟨hL_l, c303⟩ => q_move rfl) ?_
    refine HA.val (k := 4) (v := .int .i64 i_1) rfl rfl (by kernel_rfl) (by kernel_rfl) (want_none) rfl (fun _ ⟨hL_l, c303⟩ => q_move rfl) ?_
    obtain ⟨ho_2, hM⟩ := hM
    refine HA.val (k := 5) (v := elemPtr 5 vl (i_1).toNat) rfl rfl (by kernel_rfl) (by kernel_rfl) (want_none) rfl (fun _ ⟨hL_l, c303⟩ => q_idx ts_97 hL_l rfl rfl ho_2) ?_
    refine HA.val (k := 6) (v := fieldPtr 5 vl (i_1).toNat 0) rfl rfl (by kernel_rfl) (by kernel_rfl) (want_none) rfl (fun _ ⟨hL_l, c303⟩ => q_fldElem fa_112_0 hL_l rfl ho_2) ?_
    refine HA.val (k := 7) (v := .int .i64 ((gi l i_1).1)) rfl rfl (by kernel_rfl) (by kernel_rfl) (want_none) rfl (fun _ ⟨hL_l, c303⟩ => q_ldField to_3 hL_l rfl ho_2 (by decide) rfl) ?_
    refine HA.val (k := 8) (v := vl) rfl rfl (by kernel_rfl) (by kernel_rfl) (want_none) rfl (fun _ ⟨hL_l, c303⟩ => q_move rfl) ?_
    refine HA.val (k := 9) (v := .int .i64 i_1) rfl rfl (by kernel_rfl) (by kernel_rfl) (want_none) rfl (fun _ ⟨hL_l, c303⟩ => q_move rfl) ?_
    refine HA.val (k := 10) (v := elemPtr 5 vl (i_1).toNat) rfl rfl (by kernel_rfl) (by kernel_rfl) (want_none) rfl (fun _ ⟨hL_l, c303⟩ => q_idx ts_97 hL_l rfl rfl ho_2) ?_
    refine HA.val (k := 11) (v := fieldPtr 5 vl (i_1).toNat 2) rfl rfl (by kernel_rfl) (by kernel_rfl) (want_none) rfl (fun _ ⟨hL_l, c303⟩ => q_fldElem fa_112_2 hL_l rfl ho_2) ?_
    refine HA.val (k := 12) (v := .int .i64 ((gi l i_1).2.2.1)) rfl rfl (by kernel_rfl) (by kernel_rfl) (want_none) rfl (fun _ ⟨hL_l, c303⟩ => q_ldField to_3 hL_l rfl ho_2 (by decide) rfl) ?_
    refine HA.val (k := 13) (v := vl) rfl rfl (by kernel_rfl) (by kernel_rfl) (want_none) rfl (fun _ ⟨hL_l, c303⟩ => q_move rfl) ?_
    refine HA.val (k := 14) (v := .int .i64 i_1) rfl rfl (by kernel_rfl) (by kernel_rfl) (want_none) rfl (fun _ ⟨hL_l, c303⟩ => q_move rfl) ?_
    refine HA.val (k := 15) (v := elemPtr 5 vl (i_1).toNat) rfl rfl (by kernel_rfl) (by kernel_rfl) (want_none) rfl (fun _ ⟨hL_l, c303⟩ => q_idx ts_97 hL_l rfl rfl ho_2) ?_
    refine HA.val (k := 16) (v := fieldPtr 5 vl (i_1).toNat 1) rfl rfl (by kernel_rfl) (by kernel_rfl) (want_none) rfl (fun _ ⟨hL_l, c303⟩ => q_fldElem fa_112_1 hL_l rfl ho_2) ?_
    refine HA.val (k := 17) (v := .int .i64 ((gi l i_1).2.1)) rfl rfl (by kernel_rfl) (by kernel_rfl) (want_none) rfl (fun _ ⟨hL_l, c303⟩ => q_ldField to_3 hL_l rfl ho_2 (by decide) rfl) ?_
    refine HA.val (k := 18) (v := vl) rfl rfl (by kernel_rfl) (by kernel_rfl) (want_none) rfl (fun _ ⟨hL_l, c303⟩ => q_move rfl) ?_
    refine HA.val (k := 19) (v := .int .i64 i_1) rfl rfl (by kernel_rfl) (by kernel_rfl) (want_none) rfl (fun _ ⟨hL_l, c303⟩ => q_move rfl) ?_
    refine HA.val (k := 20) (v := elemPtr 5 vl (i_1).toNat) rfl rfl (by kernel_rfl) (by kernel_rfl) (want_none) rfl (fun _ ⟨hL_l, c303⟩ => q_idx ts_97 hL_l rfl rfl ho_2) ?_
    refine HA.val (k := 21) (v := fieldPtr 5 vl (i_1).toNat 3) rfl rfl (by kernel_rfl) (by kernel_rfl) (want_none) rfl (fun _ ⟨hL_l, c303⟩ => q_fldElem fa_112_3 hL_l rfl ho_2) ?_
    refine HA.val (k := 22) (v := .int .i64 ((gi l i_1).2.2.2.1)) rfl rfl (by kernel_rfl) (by kernel_rfl) (want_none) rfl (fun _ ⟨hL_l, c303⟩ => q_ldField to_3 hL_l rfl ho_2 (by decide) rfl) ?_
    refine HA.val (k := 23) (v := .agg #[.int .i64 ((gi l i_1).2.1), .int .i64 ((gi l i_1).2.2.2.1)]) rfl rfl (by kernel_rfl) (by kernel_rfl) (want_none) rfl (fun _ ⟨hL_l, c303⟩ => q_build tp_100 rfl) ?_
    refine HA.one (k := 24) ⟨⟨hL_l.is, (hS.own 0 rfl)⟩, (Go.Wk.at_nil _ _)⟩ (by kernel_rfl) ?_
    refine HS.call rfl (want_none) rfl (ec en_78 rfl rfl) (ref44_Count_walk (fr := (Ow.own 112 5 e_api_Given vout_1 out_1 :: fr)) (cut l 0 i_1) ((gi l i_1).1) ((gi l i_1).2.2.1) ((gi l i_1).2.1, (gi l i_1).2.2.2.1) (cutV 5 vl (0 : Int).toNat (i_1).toNat) hS (cutF hL_l 0 i_1 (Int.le_refl _) ho_1.1 ho_1.2) hM) ?_
    rintro _ h_3 ⟨F_2, r_2, rfl, hk, hS, _, hM⟩
    replace hK := hK.trans hk
    replace hL_l := hL_l.kp hk
    refine HA.val (k := 25) (v := .bool (decide (0 < r_2))) rfl rfl (by kernel_rfl) (by kernel_rfl) (want_none) rfl (fun _ ⟨hL_l, c303⟩ => q_gtr rfl rfl) ?_
    refine HA.nil ⟨⟨hL_l.is, (hS.own 0 rfl)⟩, (Go.Wk.at_nil _ _)⟩ (by kernel_rfl) (thenQ_normal (?_))
    refine HW.cond (decide (0 < r_2)) rfl (fun c_2 => ?_) (fun c_2 => ?_)
    · replace hM := hM.1 (of_decide_eq_true c_2)
      refine HW.region ?_
      refine HO.val (v := vout_1) (want_none) rfl (q_move rfl) ?_
      refine HO.val (v := vl) (want_none) rfl (q_move rfl) ?_
      refine HO.val (v := .int .i64 i_1) (want_none) rfl (q_move rfl) ?_
      refine HO.val (v := elemPtr 5 vl (i_1).toNat) (want_none) rfl (q_idx ts_97 hL_l.is rfl rfl ho_2) ?_
      refine HO.val (v := .agg #[.int .i64 ((gi l i_1).1), .int .i64 ((gi l i_1).2.1), .int .i64 ((gi l i_1).2.2.1), .int .i64 ((gi l i_1).2.2.2.1), .string (bs ((gi l i_1).2.2.2.2))]) (want_none) rfl (q_ldElemAgg (cs := [.int .i64 ((gi l i_1).1), .int .i64 ((gi l i_1).2.1), .int .i64 ((gi l i_1).2.2.1), .int .i64 ((gi l i_1).2.2.2.1), .string (bs ((gi l i_1).2.2.2.2))]) ta_112 hL_l.is rfl ho_2 rfl) ?_
      refine HO.eff (want_none) rfl (st_lit (enc := e_api_Given) (cells := #[.int .i64 ((gi l i_1).1), .int .i64 ((gi l i_1).2.1), .int .i64 ((gi l i_1).2.2.1), .int .i64 ((gi l i_1).2.2.2.1), .string (bs ((gi l i_1).2.2.2.2))]) #[.int .i64 0, .int .i64 0, .int .i64 0, .int .i64 0, .string (bs [])] ([(gi l i_1)] : List (Int × Int × Int × Int × Str)) hS tl_97 (by decide) (by decide) (by kernel_rfl) (by kernel_rfl) rfl (by intro x hx; rfl) rfl) ?_
      rintro _ h_4 ⟨b_2, rfl, hS, hk⟩
      replace hK := hK.trans hk
      replace hL_l := hL_l.kp hk
      obtain ⟨ho_3, hM⟩ := hM
      refine HO.eff (want_none) rfl (st_append te_97 hS (i := 1) rfl (hS.own 0 rfl).slice rfl rfl rfl (by intro a _ u hu; simp [e_api_Given, encI, encN, encB, encT] at hu; rcases hu with rfl | rfl | rfl | rfl | rfl <;> rfl) ho_3 (by omega)) ?_
      rintro v_1 h_5 ⟨hS, hk⟩
      replace hS : St F_2 (Ow.own 112 5 e_api_Given (.slice (some ⟨b_2, 0, none⟩) 1 1) ([(gi l i_1)] : List (Int × Int × Int × Int × Str)) :: Ow.own 112 5 e_api_Given v_1 (out_1 ++ ([(gi l i_1)] : List (Int × Int × Int × Int × Str))) :: fr) h_5 := hS
      replace hK := hK.trans hk
      replace hL_l := hL_l.kp hk
      refine HO.val (v := v_1) (want_none) rfl (q_assign rfl) ?_
      refine HO.nil (blockQ_normal (thenQ_normal (?_)))
      refine HW.region ?_
      refine HO.val (v := .int .i64 i_1) (want_none) rfl (q_move rfl) ?_
      obtain ⟨ho_4, hM⟩ := hM
      refine HO.val (v := .int .i64 (i_1 + 1)) (want_none) rfl (q_addN _ rfl rfl rfl ho_4.1 ho_4.2) ?_
      refine HO.val (v := .int .i64 (i_1 + 1)) (want_none) rfl (q_assign rfl) ?_
      refine HO.nil (thenQ_normal (?_))
      replace hS : St F_2 (Ow.own 112 5 e_api_Given v_1 (out_1 ++ ([(gi l i_1)] : List (Int × Int × Int × Int × Str))) :: fr) h_5 := St.perm (front := [Ow.own 112 5 e_api_Given (.slice (some ⟨b_2, 0, none⟩) 1 1) ([(gi l i_1)] : List (Int × Int × Int × Int × Str)), Ow.own 112 5 e_api_Given v_1 (out_1 ++ ([(gi l i_1)] : List (Int × Int × Int × Int × Str)))]) (fr := fr) hS [1] 2 rfl (by decide) [Ow.own 112 5 e_api_Given v_1 (out_1 ++ ([(gi l i_1)] : List (Int × Int × Int × Int × Str)))] rfl
      rw [hKe_1] at hM
      exact ⟨(out_1 ++ ([(gi l i_1)] : List (Int × Int × Int × Int × Str)), i_1 + 1), ⟨F_2, v_1, rfl, rfl, rfl, rfl, hK, hS, hL_l, hM.1⟩, hM.2⟩
    · replace hM := hM.2 (of_decide_eq_false c_2)
      refine HW.skip (blockQ_normal (thenQ_normal (?_)))
      refine HW.region ?_
      refine HO.val (v := .int .i64 i_1) (want_none) rfl (q_move rfl) ?_
      obtain ⟨ho_5, hM⟩ := hM
      refine HO.val (v := .int .i64 (i_1 + 1)) (want_none) rfl (q_addN _ rfl rfl rfl ho_5.1 ho_5.2) ?_
      refine HO.val (v := .int .i64 (i_1 + 1)) (want_none) rfl (q_assign rfl) ?_
      refine HO.nil (thenQ_normal (?_))
      rw [hKe_1] at hM
      exact ⟨(out_1, i_1 + 1), ⟨F_2, vout_1, rfl, rfl, rfl, rfl, hK, hS, hL_l, hM.1⟩, hM.2⟩
  · replace hM := hM.2 (of_decide_eq_false c_1)
    refine HW.exit (thenQ_exit (thenQ_exit (blockQ_exit (thenQ_normal (?_)))))
    refine HW.seq ?_
    refine HW.region ?_
    refine HO.val (v := vout_1) (want_none) rfl (q_move rfl) ?_
    refine HO.val (v := vout_1) (want_none) rfl (q_assign rfl) ?_
    refine HO.nil (thenQ_normal (?_))
    refine HW.ret (?_)
    refine ⟨.inr rfl, vout_1, res1 rfl (rt rfl), ?_⟩
    exact ⟨F_1, out_1, vout_1, rfl, hK, hS, hL_l, hM⟩

def ref39_Same_l1 (a : List (Int × Int × Int × Int × Str)) (b : List (Int × Int × Int × Int × Str)) (Q : Bool → Prop) (K_1 : Int → Prop) (i_1 : Int) : Prop :=
  (i_1 < (a.length : Int) → ((0 : Int) ≤ i_1 ∧ i_1 < (a.length : Int)) ∧ (((0 : Int) ≤ i_1 ∧ i_1 < (b.length : Int)) ∧ ((¬ (((gi a i_1) : Int × Int × Int × Int × Str) = (gi b i_1)) → Q false) ∧ (((gi a i_1) : Int × Int × Int × Int × Str) = (gi b i_1) → (I64 (i_1 + 1)) ∧ (K_1 (i_1 + 1)))))) ∧ (¬ (i_1 < (a.length : Int)) → Q true)
def ref39_Same_W (a : List (Int × Int × Int × Int × Str)) (b : List (Int × Int × Int × Int × Str)) (Q : Bool → Prop) : Prop :=
  (¬ ((a.length : Int) = (b.length : Int)) → Q false) ∧ ((a.length : Int) = (b.length : Int) → loopW (fun (K_1 : Int → Prop) (s : Int) => ref39_Same_l1 a b Q K_1 s) 0)
set_option maxHeartbeats 40000000 in
set_option maxRecDepth 100000 in
theorem ref39_Same_walk {F : Fz} {fr : List Ow} {h0 : Heap} (a : List (Int × Int × Int × Int × Str)) (b : List (Int × Int × Int × Int × Str)) (va : Value) (vb : Value) (hS : St F (fr) h0) (hL_a : SliceF F h0 5 e_api_Given va a) (hL_b : SliceF F h0 5 e_api_Given vb b) {Q : Bool → Prop} (hM : ref39_Same_W a b Q) :
    HC Try.prog 84 #[va, vb] h0 fun u h' => ∃ (F' : Fz) (r_1 : Bool), u = .bool r_1 ∧ Kp F h0 F' h' ∧ St F' (fr) h' ∧ (SliceF F' h' 5 e_api_Given va a) ∧ (SliceF F' h' 5 e_api_Given vb b) ∧ Q r_1 := by
  unfold ref39_Same_W at hM
  have hK := Kp.refl F h0
  refine HC.of_HW (n := 26) Try.func84 rfl rfl (Nat.le_of_ble_eq_true rfl) ?_
  refine HW.seq ?_
  refine HW.region ?_
  refine HO.val (v := .bool false) (want_none) rfl (q_assign rfl) ?_
  refine HO.nil (thenQ_normal (?_))
  refine HW.seq ?_
  refine HW.seq ?_
  refine HW.region ?_
  refine HO.val (v := va) (want_none) rfl (q_move rfl) ?_
  refine HO.val (v := .int .i64 (a.length : Int)) (want_none) rfl (q_len ts_97 (shp hL_a.is) rfl rfl) ?_
  refine HO.val (v := vb) (want_none) rfl (q_move rfl) ?_
  refine HO.val (v := .int .i64 (b.length : Int)) (want_none) rfl (q_len ts_97 (shp hL_b.is) rfl rfl) ?_
  refine HO.val (v := .bool (!decide ((a.length : Int) = (b.length : Int)))) (want_none) rfl (q_neq rfl rfl) ?_
  refine HO.nil (thenQ_normal (?_))
  refine HW.cond (!decide ((a.length : Int) = (b.length : Int))) rfl (fun c_1 => ?_) (fun c_1 => ?_)
  · replace hM := hM.1 (nd_true c_1)
    refine HW.seq ?_
    refine HW.region ?_
    refine HO.val (v := .bool false) (want_none) rfl (q_assign rfl) ?_
    refine HO.nil (thenQ_normal (?_))
    refine HW.ret (thenQ_ret (?_))
    refine ⟨.inr rfl, .bool false, res1 rfl (rt rfl), ?_⟩
    exact ⟨F, false, rfl, hK, hS, hL_a, hL_b, hM⟩
  · replace hM := hM.2 (nd_false c_1)
    refine HW.skip (thenQ_normal (?_))
    refine HW.seq ?_
    refine HW.seq ?_
    refine HW.region ?_
    refine HO.val (v := .int .i64 0) (want_none) rfl (q_assign rfl) ?_
    refine HO.nil (thenQ_normal (?_))
    refine HW.block ?_
    obtain ⟨I_1, m_1, hI_1, hR_1⟩ := hM
    refine HW.loop (S := Int) (fun i_1 f h => ∃ (F' : Fz), f 0 = va ∧ f 1 = vb ∧ f 4 = .bool false ∧ f 5 = .int .i64 i_1 ∧ Kp F h0 F' h ∧ St F' (fr) h ∧ (SliceF F' h 5 e_api_Given va a) ∧ (SliceF F' h 5 e_api_Given vb b) ∧ I_1 i_1) m_1 0 ⟨F, rfl, rfl, rfl, rfl, hK, hS, hL_a, hL_b, hI_1⟩ ?_
    rintro i_1 f_1 h_1 ⟨F_1, e0, e1, e4, e5, hK, hS, hL_a, hL_b, hI0⟩
    obtain ⟨K_1, hKe_1⟩ : ∃ K : Int → Prop, K = fun i_1' => I_1 i_1' ∧ m_1 i_1' < m_1 i_1 := ⟨_, rfl⟩
    have hM : ref39_Same_l1 a b Q K_1 i_1 := by rw [hKe_1]; exact hR_1 i_1 hI0
    unfold ref39_Same_l1 at hM
    refine HW.fr [(0, va), (1, vb), (4, .bool false), (5, .int .i64 i_1)] ⟨e0, e1, e4, e5, trivial⟩ ?_
    refine HW.seq ?_
    refine HW.seq ?_
    refine HW.region ?_
    refine HO.val (v := .int .i64 i_1) (want_none) rfl (q_move rfl) ?_
    refine HO.val (v := va) (want_none) rfl (q_move rfl) ?_
    refine HO.val (v := .int .i64 (a.length : Int)) (want_none) rfl (q_len ts_97 (shp hL_a.is) rfl rfl) ?_
    refine HO.val (v := .bool (decide (i_1 < (a.length : Int)))) (want_none) rfl (q_lss rfl rfl) ?_
    refine HO.nil (thenQ_normal (?_))
    refine HW.cond (decide (i_1 < (a.length : Int))) rfl (fun c_2 => ?_) (fun c_2 => ?_)
    · replace hM := hM.1 (of_decide_eq_true c_2)
      refine HW.skip (thenQ_normal (?_))
      refine HW.seq ?_
      refine HW.block ?_
      refine HW.seq ?_
      refine HW.regionA 9 mixed (fun h => (SliceIs h 5 e_api_Given va a) ∧ (SliceIs h 5 e_api_Given vb b)) [] (by kernel_rfl) ?_
      refine HA.val (k := 0) (v := va) rfl rfl (by kernel_rfl) (by kernel_rfl) (want_none) rfl (fun _ ⟨hL_a, hL_b⟩ => q_move rfl) ?_
      refine HA.val (k := 1) (v := .int .i64 i_1) rfl rfl (by kernel_rfl) (by kernel_rfl) (want_none) rfl (fun _ ⟨hL_a, hL_b⟩ => q_move rfl) ?_
      obtain ⟨ho_1, hM⟩ := hM
      refine HA.val (k := 2) (v := elemPtr 5 va (i_1).toNat) rfl rfl (by kernel_rfl) (by kernel_rfl) (want_none) rfl (fun _ ⟨hL_a, hL_b⟩ => q_idx ts_97 hL_a rfl rfl ho_1) ?_
      refine HA.val (k := 3) (v := .agg #[.int .i64 ((gi a i_1).1), .int .i64 ((gi a i_1).2.1), .int .i64 ((gi a i_1).2.2.1), .int .i64 ((gi a i_1).2.2.2.1), .string (bs ((gi a i_1).2.2.2.2))]) rfl rfl (by kernel_rfl) (by kernel_rfl) (want_none) rfl (fun _ ⟨hL_a, hL_b⟩ => q_ldElemAgg (cs := [.int .i64 ((gi a i_1).1), .int .i64 ((gi a i_1).2.1), .int .i64 ((gi a i_1).2.2.1), .int .i64 ((gi a i_1).2.2.2.1), .string (bs ((gi a i_1).2.2.2.2))]) ta_112 hL_a rfl ho_1 rfl) ?_
      refine HA.val (k := 4) (v := vb) rfl rfl (by kernel_rfl) (by kernel_rfl) (want_none) rfl (fun _ ⟨hL_a, hL_b⟩ => q_move rfl) ?_
      refine HA.val (k := 5) (v := .int .i64 i_1) rfl rfl (by kernel_rfl) (by kernel_rfl) (want_none) rfl (fun _ ⟨hL_a, hL_b⟩ => q_move rfl) ?_
      obtain ⟨ho_2, hM⟩ := hM
      refine HA.val (k := 6) (v := elemPtr 5 vb (i_1).toNat) rfl rfl (by kernel_rfl) (by kernel_rfl) (want_none) rfl (fun _ ⟨hL_a, hL_b⟩ => q_idx ts_97 hL_b rfl rfl ho_2) ?_
      refine HA.val (k := 7) (v := .agg #[.int .i64 ((gi b i_1).1), .int .i64 ((gi b i_1).2.1), .int .i64 ((gi b i_1).2.2.1), .int .i64 ((gi b i_1).2.2.2.1), .string (bs ((gi b i_1).2.2.2.2))]) rfl rfl (by kernel_rfl) (by kernel_rfl) (want_none) rfl (fun _ ⟨hL_a, hL_b⟩ => q_ldElemAgg (cs := [.int .i64 ((gi b i_1).1), .int .i64 ((gi b i_1).2.1), .int .i64 ((gi b i_1).2.2.1), .int .i64 ((gi b i_1).2.2.2.1), .string (bs ((gi b i_1).2.2.2.2))]) ta_112 hL_b rfl ho_2 rfl) ?_
      refine HA.val (k := 8) (v := .bool (!decide (((gi a i_1) : Int × Int × Int × Int × Str) = (gi b i_1)))) rfl rfl (by kernel_rfl) (by kernel_rfl) (want_none) rfl (fun _ ⟨hL_a, hL_b⟩ => q_neqAgg (a := (gi a i_1)) (b := (gi b i_1)) (fun a b w => teq_112 9998 a b w) (by kernel_rfl) rfl rfl rfl rfl) ?_
      refine HA.nil ⟨⟨hL_a.is, hL_b.is⟩, (Go.Wk.at_nil _ _)⟩ (by kernel_rfl) (thenQ_normal (?_))
      refine HW.cond (!decide (((gi a i_1) : Int × Int × Int × Int × Str) = (gi b i_1))) rfl (fun c_3 => ?_) (fun c_3 => ?_)
      · replace hM := hM.1 (nd_true c_3)
        refine HW.seq ?_
        refine HW.region ?_
        refine HO.val (v := .bool false) (want_none) rfl (q_assign rfl) ?_
        refine HO.nil (thenQ_normal (?_))
        refine HW.ret (blockQ_ret (thenQ_ret (thenQ_ret (blockQ_ret (thenQ_ret (?_))))))
        refine ⟨.inr rfl, .bool false, res1 rfl (rt rfl), ?_⟩
        exact ⟨F_1, false, rfl, hK, hS, hL_a, hL_b, hM⟩
      · replace hM := hM.2 (nd_false c_3)
        refine HW.skip (blockQ_normal (thenQ_normal (?_)))
        refine HW.region ?_
        refine HO.val (v := .int .i64 i_1) (want_none) rfl (q_move rfl) ?_
        obtain ⟨ho_3, hM⟩ := hM
        refine HO.val (v := .int .i64 (i_1 + 1)) (want_none) rfl (q_addN _ rfl rfl rfl ho_3.1 ho_3.2) ?_
        refine HO.val (v := .int .i64 (i_1 + 1)) (want_none) rfl (q_assign rfl) ?_
        refine HO.nil (thenQ_normal (?_))
        rw [hKe_1] at hM
        exact ⟨i_1 + 1, ⟨F_1, rfl, rfl, rfl, rfl, hK, hS, hL_a, hL_b, hM.1⟩, hM.2⟩
    · replace hM := hM.2 (of_decide_eq_false c_2)
      refine HW.exit (thenQ_exit (thenQ_exit (blockQ_exit (thenQ_normal (?_)))))
      refine HW.seq ?_
      refine HW.region ?_
      refine HO.val (v := .bool true) (want_none) rfl (q_assign rfl) ?_
      refine HO.nil (thenQ_normal (?_))
      refine HW.ret (?_)
      refine ⟨.inr rfl, .bool true, res1 rfl (rt rfl), ?_⟩
      exact ⟨F_1, true, rfl, hK, hS, hL_a, hL_b, hM⟩
end Go.Wk
