/- test -/
import Derived.Test.YtnemfpgfgblpbaaAudW4
set_option linter.unusedSimpArgs false
set_option linter.unusedVariables false
set_option linter.unusedSectionVars false
namespace Go.Wk
open Go.HL
open Go.Proofs hiding encI
variable [DM]

def law44_AuditTells_j2 (Q : Bool → Prop) (r_8 : List (Int × Int × Int × Int × Str)) (r_10 : List (Int × Int × Int × Int × Str)) (a_0_2 : List ((Int × Int × Int × Int) × Int)) (a_1_2 : List (Int × Int × Int × Int × Str)) (a_2_2 : Int) (b_5 : Bool) : Prop :=
  (b_5 = true → Q false) ∧ (b_5 = false → audit_Audit_Clear_W a_0_2 a_1_2 a_2_2 (fun r_30 am_8 a_all_8 => (r_30 = ((r_8 ++ r_10).length : Int) → audit_Audit_Ids_W am_8 [] a_all_8 (fun r_31 am_9 a_twice_8 a_all_9 => ((r_31.length : Int) = 0 → audit_Audit_Twice_W am_9 a_twice_8 a_all_9 (fun r_32 am_10 a_twice_9 a_all_10 => ((r_32.length : Int) = 0 → audit_Audit_Clear_W am_10 a_twice_9 a_all_10 (fun r_33 am_11 a_all_11 => (r_33 = 0 → law44_lives_W  (fun r_34 => Q r_34)) ∧ (¬ (r_33 = 0) → Q false))) ∧ (¬ ((r_32.length : Int) = 0) → Q false))) ∧ (¬ ((r_31.length : Int) = 0) → Q false))) ∧ (¬ (r_30 = ((r_8 ++ r_10).length : Int)) → Q false)))
def law44_AuditTells_j1 (q_Id : Int) (q_Vlan : Int) (q_Want : List (Int × Int)) (q_But : Int × Int) (Q : Bool → Prop) (r_8 : List (Int × Int × Int × Int × Str)) (r_10 : List (Int × Int × Int × Int × Str)) (a_0_1 : List ((Int × Int × Int × Int) × Int)) (a_1_1 : List (Int × Int × Int × Int × Str)) (a_2_1 : Int) (b_4 : Bool) : Prop :=
  (b_4 = true → Q false) ∧ (b_4 = false → law44_own_W q_Want (fun r_21 => audit_Audit_Held_W a_0_1 a_1_1 a_2_1 q_Id q_Vlan r_21 q_But (fun r0_1 r1_1 am_5 a_twice_5 a_all_5 => law44_own_W q_Want (fun r_22 => ref44_Held_W (r_8 ++ r_10) q_Id q_Vlan r_22 q_But (fun r0_2 r1_2 => ref44_Same_W r0_1 r0_2 (fun r_23 => ((!r_23) = true → law44_AuditTells_j2 Q r_8 r_10 am_5 a_twice_5 a_all_5 true) ∧ ((!r_23) = false → ref44_Same_W r1_1 r1_2 (fun r_24 => ((!r_24) = true → law44_AuditTells_j2 Q r_8 r_10 am_5 a_twice_5 a_all_5 true) ∧ ((!r_24) = false → audit_Audit_Count_W am_5 a_twice_5 a_all_5 q_Id q_Vlan q_But (fun r_25 am_6 a_twice_6 a_all_6 => ref44_Count_W (r_8 ++ r_10) q_Id q_Vlan q_But (fun r_26 => (¬ (r_25 = r_26) → law44_AuditTells_j2 Q r_8 r_10 am_6 a_twice_6 a_all_6 true) ∧ (r_25 = r_26 → audit_Audit_Of_W am_6 a_twice_6 a_all_6 q_Id (fun r_27 am_7 a_twice_7 a_all_7 => ref44_Of_W (r_8 ++ r_10) q_Id (fun r_28 => ref44_Same_W r_27 r_28 (fun r_29 => law44_AuditTells_j2 Q r_8 r_10 am_7 a_twice_7 a_all_7 (!r_29))))))))))))))))
def law44_AuditTells_l1 (x : List (Int × Int × Int × Int × Str)) (y : List (Int × Int × Int × Int × Str)) (q_Id : Int) (q_Vlan : Int) (q_Want : List (Int × Int)) (q_But : Int × Int) (Q : Bool → Prop) (r_4 : Int) (r_6 : Int) (am_2 : List ((Int × Int × Int × Int) × Int)) (a_twice_2 : List (Int × Int × Int × Int × Str)) (a_all_2 : Int) (r_8 : List (Int × Int × Int × Int × Str)) (r_10 : List (Int × Int × Int × Int × Str)) (K_1 : (List Int) → Int → Prop) (ids_1 : List Int) (i_1 : Int) : Prop :=
  (i_1 < ((r_8 ++ r_10).length : Int) → ((0 : Int) ≤ i_1 ∧ i_1 < ((r_8 ++ r_10).length : Int)) ∧ (ref32_Add_W ids_1 ((gi (r_8 ++ r_10) i_1).1) (fun r_11 => (I64 (i_1 + 1)) ∧ (K_1 r_11 (i_1 + 1))))) ∧ (¬ (i_1 < ((r_8 ++ r_10).length : Int)) → law44_few_W x (fun r_12 => law44_taken_W r_12 (fun r_13 => (¬ (r_4 = (r_13.length : Int)) → law44_AuditTells_j1 q_Id q_Vlan q_Want q_But Q r_8 r_10 am_2 a_twice_2 a_all_2 true) ∧ (r_4 = (r_13.length : Int) → law44_few_W y (fun r_14 => law44_taken_W r_14 (fun r_15 => (¬ (r_6 = (r_15.length : Int)) → law44_AuditTells_j1 q_Id q_Vlan q_Want q_But Q r_8 r_10 am_2 a_twice_2 a_all_2 true) ∧ (r_6 = (r_15.length : Int) → audit_Audit_Ids_W am_2 a_twice_2 a_all_2 (fun r_16 am_3 a_twice_3 a_all_3 => ref32_SameInts_W r_16 ids_1 (fun r_17 => ((!r_17) = true → law44_AuditTells_j1 q_Id q_Vlan q_Want q_But Q r_8 r_10 am_3 a_twice_3 a_all_3 true) ∧ ((!r_17) = false → audit_Audit_Twice_W am_3 a_twice_3 a_all_3 (fun r_18 am_4 a_twice_4 a_all_4 => ref44_Twice_W (r_8 ++ r_10) (fun r_19 => ref39_Same_W r_18 r_19 (fun r_20 => law44_AuditTells_j1 q_Id q_Vlan q_Want q_But Q r_8 r_10 am_4 a_twice_4 a_all_4 (!r_20))))))))))))))
def law44_AuditTells_W (x : List (Int × Int × Int × Int × Str)) (y : List (Int × Int × Int × Int × Str)) (q_Id : Int) (q_Vlan : Int) (q_Want : List (Int × Int)) (q_But : Int × Int) (Q : Bool → Prop) : Prop :=
  audit_New_W  (law44_few_W x (fun r_3 => audit_Audit_Add_W [] [] 0 r_3 (fun r_4 am_1 a_twice_1 a_all_1 => law44_few_W y (fun r_5 => audit_Audit_Add_W am_1 a_twice_1 a_all_1 r_5 (fun r_6 am_2 a_twice_2 a_all_2 => law44_few_W x (fun r_7 => law44_taken_W r_7 (fun r_8 => law44_few_W y (fun r_9 => law44_taken_W r_9 (fun r_10 => ((r_8.length + r_10.length) * 48 ≤ 140737488355328) ∧ (loopW (fun (K_1 : (List Int × Int) → Prop) (s : List Int × Int) => law44_AuditTells_l1 x y q_Id q_Vlan q_Want q_But Q r_4 r_6 am_2 a_twice_2 a_all_2 r_8 r_10 (fun ids_1 i_1 => K_1 (ids_1, i_1)) s.1 s.2) ([], 0)))))))))))
set_option maxHeartbeats 40000000 in
set_option maxRecDepth 100000 in
theorem law44_AuditTells_walk {F : Fz} {fr : List Ow} {h0 : Heap} (x : List (Int × Int × Int × Int × Str)) (y : List (Int × Int × Int × Int × Str)) (q_Id : Int) (q_Vlan : Int) (q_Want : List (Int × Int)) (q_But : Int × Int) (vx : Value) (vy : Value) (vq_Want : Value) (hS : St F (fr) h0) (hL_x : SliceF F h0 5 e_api_Given vx x) (hL_y : SliceF F h0 5 e_api_Given vy y) (hL_q_Want : SliceF F h0 2 e_api_Spot vq_Want q_Want) {Q : Bool → Prop} (hM : law44_AuditTells_W x y q_Id q_Vlan q_Want q_But Q) :
    HC Try.prog 13 #[vx, vy, .agg #[.int .i64 q_Id, .int .i64 q_Vlan, vq_Want, .int .i64 q_But.1, .int .i64 q_But.2]] h0 fun u h' => ∃ (F' : Fz) (r_1 : Bool), u = .bool r_1 ∧ Kp F h0 F' h' ∧ St F' (fr) h' ∧ (SliceF F' h' 5 e_api_Given vx x) ∧ (SliceF F' h' 5 e_api_Given vy y) ∧ (SliceF F' h' 2 e_api_Spot vq_Want q_Want) ∧ Q r_1 := by
  unfold law44_AuditTells_W at hM
  have hK := Kp.refl F h0
  refine HC.of_HW (n := 170) Try.func13 rfl rfl (Nat.le_of_ble_eq_true rfl) ?_
  refine HW.seq ?_
  refine HW.region ?_
  refine HO.eff (want_none) rfl (st_box (c := #[.int .i64 q_Id, .int .i64 q_Vlan, vq_Want, .int .i64 q_But.1, .int .i64 q_But.2]) (k' := 5) hS rfl rfl) ?_
  rintro _ h_1 ⟨b_1, rfl, hS, hk⟩
  replace hK := hK.trans hk
  replace hL_x := hL_x.kp hk
  replace hL_y := hL_y.kp hk
  replace hL_q_Want := hL_q_Want.kp hk
  refine HO.val (v := .bool false) (want_none) rfl (q_assign rfl) ?_
  refine HO.nil (thenQ_normal (?_))
  refine HW.seq ?_
  refine HW.region ?_
  refine HO.call (want_none) rfl (ec en_71 rfl rfl) (audit_New_walk (fr := (Ow.box b_1 102 #[.int .i64 q_Id, .int .i64 q_Vlan, vq_Want, .int .i64 q_But.1, .int .i64 q_But.2] :: fr))  hS hM) ?_
  rintro _ h_2 ⟨F_1, b_2, r_2, rfl, hk, hS, hM⟩
  replace hK := hK.trans hk
  replace hL_x := hL_x.kp hk
  replace hL_y := hL_y.kp hk
  replace hL_q_Want := hL_q_Want.kp hk
  refine HO.val (v := .pointer (some ⟨b_2, 0, none⟩)) (want_none) rfl (q_assign rfl) ?_
  refine HO.nil (thenQ_normal (?_))
  refine HW.seq ?_
  refine HW.region ?_
  refine HO.val (v := .pointer (some ⟨b_2, 0, none⟩)) (want_none) rfl (q_move rfl) ?_
  refine HO.val (v := vx) (want_none) rfl (q_move rfl) ?_
  refine HO.call (want_none) rfl (ec en_73 rfl rfl) (law44_few_walk (fr := (Ow.box b_2 151 #[.map (some r_2), .slice none 0 0, .int .i64 0] :: Ow.map r_2 (fun (x : Int × Int × Int × Int) => .agg #[.int .i64 x.1, .int .i64 x.2.1, .int .i64 x.2.2.1, .int .i64 x.2.2.2]) kI ([] : List ((Int × Int × Int × Int) × Int)) :: Ow.box b_1 102 #[.int .i64 q_Id, .int .i64 q_Vlan, vq_Want, .int .i64 q_But.1, .int .i64 q_But.2] :: fr)) x vx hS hL_x hM) ?_
  rintro vr_1 h_3 ⟨F_2, r_3, _, rfl, hk, hS, _, hM⟩
  replace hK := hK.trans hk
  replace hL_x := hL_x.kp hk
  replace hL_y := hL_y.kp hk
  replace hL_q_Want := hL_q_Want.kp hk
  have hZ_1 := hS
  have hkz_1 := (hS.freeze).2
  replace hS := hS.freeze.1
  have hL_1 : SliceF (fun b => F_2 b ∨ (Ow.own 112 5 e_api_Given vr_1 r_3).foot b) h_3 5 e_api_Given vr_1 r_3 := ⟨(hZ_1.own 0 rfl).slice, fun _ b hb => .inr hb⟩
  replace hS := hS.nilOwn 112 5 e_api_Given
  replace hS : St (fun b => F_2 b ∨ (Ow.own 112 5 e_api_Given vr_1 r_3).foot b) (Ow.box b_2 151 #[.map (some r_2), .slice none 0 0, .int .i64 0] :: Ow.map r_2 (fun (x : Int × Int × Int × Int) => .agg #[.int .i64 x.1, .int .i64 x.2.1, .int .i64 x.2.2.1, .int .i64 x.2.2.2]) kI ([] : List ((Int × Int × Int × Int) × Int)) :: Ow.own 112 5 e_api_Given (.slice none 0 0) ([] : List (Int × Int × Int × Int × Str)) :: Ow.box b_1 102 #[.int .i64 q_Id, .int .i64 q_Vlan, vq_Want, .int .i64 q_But.1, .int .i64 q_But.2] :: fr) h_3 := St.perm (front := [Ow.own 112 5 e_api_Given (.slice none 0 0) ([] : List (Int × Int × Int × Int × Str)), Ow.box b_2 151 #[.map (some r_2), .slice none 0 0, .int .i64 0], Ow.map r_2 (fun (x : Int × Int × Int × Int) => .agg #[.int .i64 x.1, .int .i64 x.2.1, .int .i64 x.2.2.1, .int .i64 x.2.2.2]) kI ([] : List ((Int × Int × Int × Int) × Int)), Ow.box b_1 102 #[.int .i64 q_Id, .int .i64 q_Vlan, vq_Want, .int .i64 q_But.1, .int .i64 q_But.2]]) (fr := fr) hS [1, 2, 0, 3] 4 rfl (by decide) [Ow.box b_2 151 #[.map (some r_2), .slice none 0 0, .int .i64 0], Ow.map r_2 (fun (x : Int × Int × Int × Int) => .agg #[.int .i64 x.1, .int .i64 x.2.1, .int .i64 x.2.2.1, .int .i64 x.2.2.2]) kI ([] : List ((Int × Int × Int × Int) × Int)), Ow.own 112 5 e_api_Given (.slice none 0 0) ([] : List (Int × Int × Int × Int × Str)), Ow.box b_1 102 #[.int .i64 q_Id, .int .i64 q_Vlan, vq_Want, .int .i64 q_But.1, .int .i64 q_But.2]] rfl
  refine HO.call (want_none) rfl (ec en_74 rfl rfl) (audit_Audit_Add_walk (fr := (Ow.box b_1 102 #[.int .i64 q_Id, .int .i64 q_Vlan, vq_Want, .int .i64 q_But.1, .int .i64 q_But.2] :: fr)) [] [] 0 r_3 b_2 r_2 (.slice none 0 0) vr_1 hS hL_1 hM) ?_
  rintro _ h_4 ⟨F_3, r_4, am_1, a_twice_1, a_all_1, v_1, rfl, hk, hS, _, hM⟩
  obtain ⟨hS, hk⟩ := hZ_1.back hk hS
  generalize (fun b => F_3 b ∧ ¬ (Ow.own 112 5 e_api_Given vr_1 r_3).foot b) = F_4 at hS hk
  replace hK := hK.trans hk
  replace hL_x := hL_x.kp hk
  replace hL_y := hL_y.kp hk
  replace hL_q_Want := hL_q_Want.kp hk
  refine HO.val (v := .pointer (some ⟨b_2, 0, none⟩)) (want_none) rfl (q_move rfl) ?_
  refine HO.val (v := vy) (want_none) rfl (q_move rfl) ?_
  refine HO.call (want_none) rfl (ec en_73 rfl rfl) (law44_few_walk (fr := (Ow.own 112 5 e_api_Given vr_1 r_3 :: Ow.box b_2 151 #[.map (some r_2), v_1, .int .i64 a_all_1] :: Ow.map r_2 (fun (x : Int × Int × Int × Int) => .agg #[.int .i64 x.1, .int .i64 x.2.1, .int .i64 x.2.2.1, .int .i64 x.2.2.2]) kI am_1 :: Ow.own 112 5 e_api_Given v_1 a_twice_1 :: Ow.box b_1 102 #[.int .i64 q_Id, .int .i64 q_Vlan, vq_Want, .int .i64 q_But.1, .int .i64 q_But.2] :: fr)) y vy hS hL_y hM) ?_
  rintro vr_2 h_5 ⟨F_5, r_5, _, rfl, hk, hS, _, hM⟩
  replace hK := hK.trans hk
  replace hL_x := hL_x.kp hk
  replace hL_y := hL_y.kp hk
  replace hL_q_Want := hL_q_Want.kp hk
  have hZ_2 := hS
  have hkz_2 := (hS.freeze).2
  replace hS := hS.freeze.1
  have hL_2 : SliceF (fun b => F_5 b ∨ (Ow.own 112 5 e_api_Given vr_2 r_5).foot b) h_5 5 e_api_Given vr_2 r_5 := ⟨(hZ_2.own 0 rfl).slice, fun _ b hb => .inr hb⟩
  replace hS : St (fun b => F_5 b ∨ (Ow.own 112 5 e_api_Given vr_2 r_5).foot b) (Ow.box b_2 151 #[.map (some r_2), v_1, .int .i64 a_all_1] :: Ow.map r_2 (fun (x : Int × Int × Int × Int) => .agg #[.int .i64 x.1, .int .i64 x.2.1, .int .i64 x.2.2.1, .int .i64 x.2.2.2]) kI am_1 :: Ow.own 112 5 e_api_Given v_1 a_twice_1 :: Ow.own 112 5 e_api_Given vr_1 r_3 :: Ow.box b_1 102 #[.int .i64 q_Id, .int .i64 q_Vlan, vq_Want, .int .i64 q_But.1, .int .i64 q_But.2] :: fr) h_5 := St.perm (front := [Ow.own 112 5 e_api_Given vr_1 r_3, Ow.box b_2 151 #[.map (some r_2), v_1, .int .i64 a_all_1], Ow.map r_2 (fun (x : Int × Int × Int × Int) => .agg #[.int .i64 x.1, .int .i64 x.2.1, .int .i64 x.2.2.1, .int .i64 x.2.2.2]) kI am_1, Ow.own 112 5 e_api_Given v_1 a_twice_1, Ow.box b_1 102 #[.int .i64 q_Id, .int .i64 q_Vlan, vq_Want, .int .i64 q_But.1, .int .i64 q_But.2]]) (fr := fr) hS [1, 2, 3, 0, 4] 5 rfl (by decide) [Ow.box b_2 151 #[.map (some r_2), v_1, .int .i64 a_all_1], Ow.map r_2 (fun (x : Int × Int × Int × Int) => .agg #[.int .i64 x.1, .int .i64 x.2.1, .int .i64 x.2.2.1, .int .i64 x.2.2.2]) kI am_1, Ow.own 112 5 e_api_Given v_1 a_twice_1, Ow.own 112 5 e_api_Given vr_1 r_3, Ow.box b_1 102 #[.int .i64 q_Id, .int .i64 q_Vlan, vq_Want, .int .i64 q_But.1, .int .i64 q_But.2]] rfl
  refine HO.call (want_none) rfl (ec en_74 rfl rfl) (audit_Audit_Add_walk (fr := (Ow.own 112 5 e_api_Given vr_1 r_3 :: Ow.box b_1 102 #[.int .i64 q_Id, .int .i64 q_Vlan, vq_Want, .int .i64 q_But.1, .int .i64 q_But.2] :: fr)) am_1 a_twice_1 a_all_1 r_5 b_2 r_2 v_1 vr_2 hS hL_2 hM) ?_
  rintro _ h_6 ⟨F_6, r_6, am_2, a_twice_2, a_all_2, v_2, rfl, hk, hS, _, hM⟩
  obtain ⟨hS, hk⟩ := hZ_2.back hk hS
  generalize (fun b => F_6 b ∧ ¬ (Ow.own 112 5 e_api_Given vr_2 r_5).foot b) = F_7 at hS hk
  replace hK := hK.trans hk
  replace hL_x := hL_x.kp hk
  replace hL_y := hL_y.kp hk
  replace hL_q_Want := hL_q_Want.kp hk
  refine HO.val (v := .int .i64 r_4) (want_none) rfl (q_assign rfl) ?_
  refine HO.val (v := .int .i64 r_6) (want_none) rfl (q_assign rfl) ?_
  refine HO.nil (thenQ_normal (?_))
  refine HW.seq ?_
  refine HW.region ?_
  refine HO.val (v := vx) (want_none) rfl (q_move rfl) ?_
  refine HO.call (want_none) rfl (ec en_73 rfl rfl) (law44_few_walk (fr := (Ow.own 112 5 e_api_Given vr_2 r_5 :: Ow.box b_2 151 #[.map (some r_2), v_2, .int .i64 a_all_2] :: Ow.map r_2 (fun (x : Int × Int × Int × Int) => .agg #[.int .i64 x.1, .int .i64 x.2.1, .int .i64 x.2.2.1, .int .i64 x.2.2.2]) kI am_2 :: Ow.own 112 5 e_api_Given v_2 a_twice_2 :: Ow.own 112 5 e_api_Given vr_1 r_3 :: Ow.box b_1 102 #[.int .i64 q_Id, .int .i64 q_Vlan, vq_Want, .int .i64 q_But.1, .int .i64 q_But.2] :: fr)) x vx hS hL_x hM) ?_
  rintro vr_3 h_7 ⟨F_8, r_7, _, rfl, hk, hS, _, hM⟩
  replace hK := hK.trans hk
  replace hL_x := hL_x.kp hk
  replace hL_y := hL_y.kp hk
  replace hL_q_Want := hL_q_Want.kp hk
  have hZ_3 := hS
  have hkz_3 := (hS.freeze).2
  replace hS := hS.freeze.1
  have hL_3 : SliceF (fun b => F_8 b ∨ (Ow.own 112 5 e_api_Given vr_3 r_7).foot b) h_7 5 e_api_Given vr_3 r_7 := ⟨(hZ_3.own 0 rfl).slice, fun _ b hb => .inr hb⟩
  refine HO.call (want_none) rfl (ec en_72 rfl rfl) (law44_taken_walk (fr := (Ow.own 112 5 e_api_Given vr_2 r_5 :: Ow.box b_2 151 #[.map (some r_2), v_2, .int .i64 a_all_2] :: Ow.map r_2 (fun (x : Int × Int × Int × Int) => .agg #[.int .i64 x.1, .int .i64 x.2.1, .int .i64 x.2.2.1, .int .i64 x.2.2.2]) kI am_2 :: Ow.own 112 5 e_api_Given v_2 a_twice_2 :: Ow.own 112 5 e_api_Given vr_1 r_3 :: Ow.box b_1 102 #[.int .i64 q_Id, .int .i64 q_Vlan, vq_Want, .int .i64 q_But.1, .int .i64 q_But.2] :: fr)) r_7 vr_3 hS hL_3 hM) ?_
  rintro vr_4 h_8 ⟨F_9, r_8, _, rfl, hk, hS, _, hM⟩
  obtain ⟨hS, hk⟩ := hZ_3.back hk hS
  generalize (fun b => F_9 b ∧ ¬ (Ow.own 112 5 e_api_Given vr_3 r_7).foot b) = F_10 at hS hk
  replace hK := hK.trans hk
  replace hL_x := hL_x.kp hk
  replace hL_y := hL_y.kp hk
  replace hL_q_Want := hL_q_Want.kp hk
  refine HO.val (v := vy) (want_none) rfl (q_move rfl) ?_
  refine HO.call (want_none) rfl (ec en_73 rfl rfl) (law44_few_walk (fr := (Ow.own 112 5 e_api_Given vr_3 r_7 :: Ow.own 112 5 e_api_Given vr_4 r_8 :: Ow.own 112 5 e_api_Given vr_2 r_5 :: Ow.box b_2 151 #[.map (some r_2), v_2, .int .i64 a_all_2] :: Ow.map r_2 (fun (x : Int × Int × Int × Int) => .agg #[.int .i64 x.1, .int .i64 x.2.1, .int .i64 x.2.2.1, .int .i64 x.2.2.2]) kI am_2 :: Ow.own 112 5 e_api_Given v_2 a_twice_2 :: Ow.own 112 5 e_api_Given vr_1 r_3 :: Ow.box b_1 102 #[.int .i64 q_Id, .int .i64 q_Vlan, vq_Want, .int .i64 q_But.1, .int .i64 q_But.2] :: fr)) y vy hS hL_y hM) ?_
  rintro vr_5 h_9 ⟨F_11, r_9, _, rfl, hk, hS, _, hM⟩
  replace hK := hK.trans hk
  replace hL_x := hL_x.kp hk
  replace hL_y := hL_y.kp hk
  replace hL_q_Want := hL_q_Want.kp hk
  have hZ_4 := hS
  have hkz_4 := (hS.freeze).2
  replace hS := hS.freeze.1
  have hL_4 : SliceF (fun b => F_11 b ∨ (Ow.own 112 5 e_api_Given vr_5 r_9).foot b) h_9 5 e_api_Given vr_5 r_9 := ⟨(hZ_4.own 0 rfl).slice, fun _ b hb => .inr hb⟩
  refine HO.call (want_none) rfl (ec en_72 rfl rfl) (law44_taken_walk (fr := (Ow.own 112 5 e_api_Given vr_3 r_7 :: Ow.own 112 5 e_api_Given vr_4 r_8 :: Ow.own 112 5 e_api_Given vr_2 r_5 :: Ow.box b_2 151 #[.map (some r_2), v_2, .int .i64 a_all_2] :: Ow.map r_2 (fun (x : Int × Int × Int × Int) => .agg #[.int .i64 x.1, .int .i64 x.2.1, .int .i64 x.2.2.1, .int .i64 x.2.2.2]) kI am_2 :: Ow.own 112 5 e_api_Given v_2 a_twice_2 :: Ow.own 112 5 e_api_Given vr_1 r_3 :: Ow.box b_1 102 #[.int .i64 q_Id, .int .i64 q_Vlan, vq_Want, .int .i64 q_But.1, .int .i64 q_But.2] :: fr)) r_9 vr_5 hS hL_4 hM) ?_
  rintro vr_6 h_10 ⟨F_12, r_10, _, rfl, hk, hS, _, hM⟩
  obtain ⟨hS, hk⟩ := hZ_4.back hk hS
  generalize (fun b => F_12 b ∧ ¬ (Ow.own 112 5 e_api_Given vr_5 r_9).foot b) = F_13 at hS hk
  replace hK := hK.trans hk
  replace hL_x := hL_x.kp hk
  replace hL_y := hL_y.kp hk
  replace hL_q_Want := hL_q_Want.kp hk
  obtain ⟨ho_1, hM⟩ := hM
  refine HO.eff (want_none) rfl (st_append te_97 hS (i := 3) rfl (hS.own 1 rfl).slice rfl rfl rfl (by intro a _ u hu; simp [e_api_Given, encI, encN, encB, encT] at hu; rcases hu with rfl | rfl | rfl | rfl | rfl <;> rfl) ho_1 (by omega)) ?_
  rintro v_3 h_11 ⟨hS, hk⟩
  replace hS : St F_13 (Ow.own 112 5 e_api_Given vr_5 r_9 :: Ow.own 112 5 e_api_Given vr_6 r_10 :: Ow.own 112 5 e_api_Given vr_3 r_7 :: Ow.own 112 5 e_api_Given v_3 (r_8 ++ r_10) :: Ow.own 112 5 e_api_Given vr_2 r_5 :: Ow.box b_2 151 #[.map (some r_2), v_2, .int .i64 a_all_2] :: Ow.map r_2 (fun (x : Int × Int × Int × Int) => .agg #[.int .i64 x.1, .int .i64 x.2.1, .int .i64 x.2.2.1, .int .i64 x.2.2.2]) kI am_2 :: Ow.own 112 5 e_api_Given v_2 a_twice_2 :: Ow.own 112 5 e_api_Given vr_1 r_3 :: Ow.box b_1 102 #[.int .i64 q_Id, .int .i64 q_Vlan, vq_Want, .int .i64 q_But.1, .int .i64 q_But.2] :: fr) h_11 := hS
  replace hK := hK.trans hk
  replace hL_x := hL_x.kp hk
  replace hL_y := hL_y.kp hk
  replace hL_q_Want := hL_q_Want.kp hk
  refine HO.val (v := v_3) (want_none) rfl (q_assign rfl) ?_
  refine HO.nil (thenQ_normal (?_))
  refine HW.seq ?_
  refine HW.region ?_
  refine HO.eff (want_none) rfl (st_litEmpty (α := Int) encI hS tl_22) ?_
  rintro _ h_12 ⟨b_3, rfl, hS, hk⟩
  replace hK := hK.trans hk
  replace hL_x := hL_x.kp hk
  replace hL_y := hL_y.kp hk
  replace hL_q_Want := hL_q_Want.kp hk
  refine HO.val (v := .slice (some ⟨b_3, 0, none⟩) 0 0) (want_none) rfl (q_assign rfl) ?_
  refine HO.nil (thenQ_normal (?_))
  refine HW.seq ?_
  refine HW.seq ?_
  refine HW.region ?_
  refine HO.val (v := .int .i64 0) (want_none) rfl (q_assign rfl) ?_
  refine HO.nil (thenQ_normal (?_))
  refine HW.block ?_
  obtain ⟨I_1, m_1, hI_1, hR_1⟩ := hM
  obtain ⟨F_14, hS, hk, hL_6⟩ := hS.freezeOwn
  replace hK := hK.trans hk
  replace hL_x := hL_x.kp hk
  replace hL_y := hL_y.kp hk
  replace hL_q_Want := hL_q_Want.kp hk
  replace hS : St F_14 (Ow.box b_1 102 #[.int .i64 q_Id, .int .i64 q_Vlan, vq_Want, .int .i64 q_But.1, .int .i64 q_But.2] :: Ow.box b_2 151 #[.map (some r_2), v_2, .int .i64 a_all_2] :: Ow.map r_2 (fun (x : Int × Int × Int × Int) => .agg #[.int .i64 x.1, .int .i64 x.2.1, .int .i64 x.2.2.1, .int .i64 x.2.2.2]) kI am_2 :: Ow.own 112 5 e_api_Given v_2 a_twice_2 :: Ow.own 112 5 e_api_Given v_3 (r_8 ++ r_10) :: fr) h_12 := St.perm (front := [Ow.own 112 5 e_api_Given vr_5 r_9, Ow.own 112 5 e_api_Given vr_6 r_10, Ow.own 112 5 e_api_Given vr_3 r_7, Ow.own 112 5 e_api_Given v_3 (r_8 ++ r_10), Ow.own 112 5 e_api_Given vr_2 r_5, Ow.box b_2 151 #[.map (some r_2), v_2, .int .i64 a_all_2], Ow.map r_2 (fun (x : Int × Int × Int × Int) => .agg #[.int .i64 x.1, .int .i64 x.2.1, .int .i64 x.2.2.1, .int .i64 x.2.2.2]) kI am_2, Ow.own 112 5 e_api_Given v_2 a_twice_2, Ow.own 112 5 e_api_Given vr_1 r_3, Ow.box b_1 102 #[.int .i64 q_Id, .int .i64 q_Vlan, vq_Want, .int .i64 q_But.1, .int .i64 q_But.2]]) (fr := fr) hS [9, 5, 6, 7, 3] 10 rfl (by decide) [Ow.box b_1 102 #[.int .i64 q_Id, .int .i64 q_Vlan, vq_Want, .int .i64 q_But.1, .int .i64 q_But.2], Ow.box b_2 151 #[.map (some r_2), v_2, .int .i64 a_all_2], Ow.map r_2 (fun (x : Int × Int × Int × Int) => .agg #[.int .i64 x.1, .int .i64 x.2.1, .int .i64 x.2.2.1, .int .i64 x.2.2.2]) kI am_2, Ow.own 112 5 e_api_Given v_2 a_twice_2, Ow.own 112 5 e_api_Given v_3 (r_8 ++ r_10)] rfl
  refine HW.loop (S := List Int × Int) (fun s f h => match s with | (ids_1, i_1) => ∃ (F' : Fz) (vids_1 : Value), f 0 = vx ∧ f 1 = vy ∧ f 5 = .pointer (some ⟨b_1, 0, none⟩) ∧ f 6 = .bool false ∧ f 7 = .pointer (some ⟨b_2, 0, none⟩) ∧ f 8 = .int .i64 r_4 ∧ f 9 = .int .i64 r_6 ∧ f 10 = v_3 ∧ f 11 = vids_1 ∧ f 12 = .int .i64 i_1 ∧ Kp F h0 F' h ∧ St F' (Ow.box b_1 102 #[.int .i64 q_Id, .int .i64 q_Vlan, vq_Want, .int .i64 q_But.1, .int .i64 q_But.2] :: Ow.box b_2 151 #[.map (some r_2), v_2, .int .i64 a_all_2] :: Ow.map r_2 (fun (x : Int × Int × Int × Int) => .agg #[.int .i64 x.1, .int .i64 x.2.1, .int .i64 x.2.2.1, .int .i64 x.2.2.2]) kI am_2 :: Ow.own 112 5 e_api_Given v_2 a_twice_2 :: Ow.own 112 5 e_api_Given v_3 (r_8 ++ r_10) :: fr) h ∧ (SliceF F' h 5 e_api_Given vx x) ∧ (SliceF F' h 5 e_api_Given vy y) ∧ (SliceF F' h 2 e_api_Spot vq_Want q_Want) ∧ (SliceF F' h 1 encI vids_1 ids_1) ∧ I_1 (ids_1, i_1)) m_1 ([], 0) ⟨F_14, .slice (some ⟨b_3, 0, none⟩) 0 0, rfl, rfl, rfl, rfl, rfl, rfl, rfl, rfl, rfl, rfl, hK, hS, hL_x, hL_y, hL_q_Want, hL_6, hI_1⟩ ?_
  rintro ⟨ids_1, i_1⟩ f_1 h_13 ⟨F_15, vids_1, e0, e1, e5, e6, e7, e8, e9, e10, e11, e12, hK, hS, hL_x, hL_y, hL_q_Want, hL_5, hI0⟩
  obtain ⟨K_1, hKe_1⟩ : ∃ K : (List Int) → Int → Prop, K = fun ids_1' i_1' => I_1 (ids_1', i_1') ∧ m_1 (ids_1', i_1') < m_1 (ids_1, i_1) := ⟨_, rfl⟩
  have hM : law44_AuditTells_l1 x y q_Id q_Vlan q_Want q_But Q r_4 r_6 am_2 a_twice_2 a_all_2 r_8 r_10 K_1 ids_1 i_1 := by rw [hKe_1]; exact hR_1 (ids_1, i_1) hI0
  unfold law44_AuditTells_l1 at hM
  refine HW.fr [(0, vx), (1, vy), (5, .pointer (some ⟨b_1, 0, none⟩)), (6, .bool false), (7, .pointer (some ⟨b_2, 0, none⟩)), (8, .int .i64 r_4), (9, .int .i64 r_6), (10, v_3), (11, vids_1), (12, .int .i64 i_1)] ⟨e0, e1, e5, e6, e7, e8, e9, e10, e11, e12, trivial⟩ ?_
  refine HW.seq ?_
  refine HW.seq ?_
  refine HW.region ?_
  refine HO.val (v := .int .i64 i_1) (want_none) rfl (q_move rfl) ?_
  refine HO.val (v := v_3) (want_none) rfl (q_move rfl) ?_
  refine HO.val (v := .int .i64 ((r_8 ++ r_10).length : Int)) (want_none) rfl (q_len ts_97 (shp (hS.own 4 rfl).slice) rfl rfl) ?_
  refine HO.val (v := .bool (decide (i_1 < ((r_8 ++ r_10).length : Int)))) (want_none) rfl (q_lss rfl rfl) ?_
  refine HO.nil (thenQ_normal (?_))
  refine HW.cond (decide (i_1 < ((r_8 ++ r_10).length : Int))) rfl (fun c_1 => ?_) (fun c_1 => ?_)
  · replace hM := hM.1 (of_decide_eq_true c_1)
    refine HW.skip (thenQ_normal (?_))
    refine HW.seq ?_
    refine HW.block ?_
    refine HW.region ?_
    refine HO.val (v := vids_1) (want_none) rfl (q_move rfl) ?_
    refine HO.val (v := v_3) (want_none) rfl (q_move rfl) ?_
    refine HO.val (v := .int .i64 i_1) (want_none) rfl (q_move rfl) ?_
    obtain ⟨ho_2, hM⟩ := hM
    refine HO.val (v := elemPtr 5 v_3 (i_1).toNat) (want_none) rfl (q_idx ts_97 (hS.own 4 rfl).slice rfl rfl ho_2) ?_
    refine HO.val (v := fieldPtr 5 v_3 (i_1).toNat 0) (want_none) rfl (q_fldElem fa_112_0 (hS.own 4 rfl).slice rfl ho_2) ?_
    refine HO.val (v := .int .i64 ((gi (r_8 ++ r_10) i_1).1)) (want_none) rfl (q_ldField to_3 (hS.own 4 rfl).slice rfl ho_2 (by decide) rfl) ?_
    refine HO.call (want_none) rfl (ec en_81 rfl rfl) (ref32_Add_walk (fr := (Ow.box b_1 102 #[.int .i64 q_Id, .int .i64 q_Vlan, vq_Want, .int .i64 q_But.1, .int .i64 q_But.2] :: Ow.box b_2 151 #[.map (some r_2), v_2, .int .i64 a_all_2] :: Ow.map r_2 (fun (x : Int × Int × Int × Int) => .agg #[.int .i64 x.1, .int .i64 x.2.1, .int .i64 x.2.2.1, .int .i64 x.2.2.2]) kI am_2 :: Ow.own 112 5 e_api_Given v_2 a_twice_2 :: Ow.own 112 5 e_api_Given v_3 (r_8 ++ r_10) :: fr)) ids_1 ((gi (r_8 ++ r_10) i_1).1) vids_1 hS hL_5 hM) ?_
    rintro vr_7 h_14 ⟨F_16, r_11, _, rfl, hk, hS, _, hL_7, hM⟩
    replace hK := hK.trans hk
    replace hL_x := hL_x.kp hk
    replace hL_y := hL_y.kp hk
    replace hL_q_Want := hL_q_Want.kp hk
    replace hL_5 := hL_5.kp hk
    refine HO.val (v := vr_7) (want_none) rfl (q_assign rfl) ?_
    refine HO.nil (blockQ_normal (thenQ_normal (?_)))
    refine HW.region ?_
    refine HO.val (v := .int .i64 i_1) (want_none) rfl (q_move rfl) ?_
    obtain ⟨ho_3, hM⟩ := hM
    refine HO.val (v := .int .i64 (i_1 + 1)) (want_none) rfl (q_addN _ rfl rfl rfl ho_3.1 ho_3.2) ?_
    refine HO.val (v := .int .i64 (i_1 + 1)) (want_none) rfl (q_assign rfl) ?_
    refine HO.nil (thenQ_normal (?_))
    rw [hKe_1] at hM
    exact ⟨(r_11, i_1 + 1), ⟨F_16, vr_7, rfl, rfl, rfl, rfl, rfl, rfl, rfl, rfl, rfl, rfl, hK, hS, hL_x, hL_y, hL_q_Want, hL_7, hM.1⟩, hM.2⟩
  · replace hM := hM.2 (of_decide_eq_false c_1)
    refine HW.exit (thenQ_exit (thenQ_exit (blockQ_exit (thenQ_normal (?_)))))
    refine HW.seq ?_
    refine HW.seq_mid (fun f h => ∃ (F' : Fz) (a_0_1 : List ((Int × Int × Int × Int) × Int)) (a_1_1 : List (Int × Int × Int × Int × Str)) (a_2_1 : Int) (b_4 : Bool) (va_1_1 : Value), f 5 = .pointer (some ⟨b_1, 0, none⟩) ∧ f 6 = .bool false ∧ f 7 = .pointer (some ⟨b_2, 0, none⟩) ∧ f 10 = v_3 ∧ f 75 = .bool b_4 ∧ Kp F h0 F' h ∧ St F' (Ow.box b_1 102 #[.int .i64 q_Id, .int .i64 q_Vlan, vq_Want, .int .i64 q_But.1, .int .i64 q_But.2] :: Ow.box b_2 151 #[.map (some r_2), va_1_1, .int .i64 a_2_1] :: Ow.map r_2 (fun (x : Int × Int × Int × Int) => .agg #[.int .i64 x.1, .int .i64 x.2.1, .int .i64 x.2.2.1, .int .i64 x.2.2.2]) kI a_0_1 :: Ow.own 112 5 e_api_Given va_1_1 a_1_1 :: Ow.own 112 5 e_api_Given v_3 (r_8 ++ r_10) :: fr) h ∧ (SliceF F' h 5 e_api_Given vx x) ∧ (SliceF F' h 5 e_api_Given vy y) ∧ (SliceF F' h 2 e_api_Spot vq_Want q_Want) ∧ (SliceF F' h 1 encI vids_1 ids_1) ∧ law44_AuditTells_j1 q_Id q_Vlan q_Want q_But Q r_8 r_10 a_0_1 a_1_1 a_2_1 b_4) ?_ ?_
    · refine HW.region ?_
      refine HO.val (v := .int .i64 r_4) (want_none) rfl (q_move rfl) ?_
      refine HO.val (v := vx) (want_none) rfl (q_move rfl) ?_
      refine HO.call (want_none) rfl (ec en_73 rfl rfl) (law44_few_walk (fr := (Ow.box b_1 102 #[.int .i64 q_Id, .int .i64 q_Vlan, vq_Want, .int .i64 q_But.1, .int .i64 q_But.2] :: Ow.box b_2 151 #[.map (some r_2), v_2, .int .i64 a_all_2] :: Ow.map r_2 (fun (x : Int × Int × Int × Int) => .agg #[.int .i64 x.1, .int .i64 x.2.1, .int .i64 x.2.2.1, .int .i64 x.2.2.2]) kI am_2 :: Ow.own 112 5 e_api_Given v_2 a_twice_2 :: Ow.own 112 5 e_api_Given v_3 (r_8 ++ r_10) :: fr)) x vx hS hL_x hM) ?_
      rintro vr_8 h_15 ⟨F_17, r_12, _, rfl, hk, hS, _, hM⟩
      replace hK := hK.trans hk
      replace hL_x := hL_x.kp hk
      replace hL_y := hL_y.kp hk
      replace hL_q_Want := hL_q_Want.kp hk
      replace hL_5 := hL_5.kp hk
      have hZ_5 := hS
      have hkz_5 := (hS.freeze).2
      replace hS := hS.freeze.1
      have hL_8 : SliceF (fun b => F_17 b ∨ (Ow.own 112 5 e_api_Given vr_8 r_12).foot b) h_15 5 e_api_Given vr_8 r_12 := ⟨(hZ_5.own 0 rfl).slice, fun _ b hb => .inr hb⟩
      refine HO.call (want_none) rfl (ec en_72 rfl rfl) (law44_taken_walk (fr := (Ow.box b_1 102 #[.int .i64 q_Id, .int .i64 q_Vlan, vq_Want, .int .i64 q_But.1, .int .i64 q_But.2] :: Ow.box b_2 151 #[.map (some r_2), v_2, .int .i64 a_all_2] :: Ow.map r_2 (fun (x : Int × Int × Int × Int) => .agg #[.int .i64 x.1, .int .i64 x.2.1, .int .i64 x.2.2.1, .int .i64 x.2.2.2]) kI am_2 :: Ow.own 112 5 e_api_Given v_2 a_twice_2 :: Ow.own 112 5 e_api_Given v_3 (r_8 ++ r_10) :: fr)) r_12 vr_8 hS hL_8 hM) ?_
      rintro vr_9 h_16 ⟨F_18, r_13, _, rfl, hk, hS, _, hM⟩
      obtain ⟨hS, hk⟩ := hZ_5.back hk hS
      generalize (fun b => F_18 b ∧ ¬ (Ow.own 112 5 e_api_Given vr_8 r_12).foot b) = F_19 at hS hk
      replace hK := hK.trans hk
      replace hL_x := hL_x.kp hk
      replace hL_y := hL_y.kp hk
      replace hL_q_Want := hL_q_Want.kp hk
      replace hL_5 := hL_5.kp hk
      refine HO.val (v := .int .i64 (r_13.length : Int)) (want_none) rfl (q_len ts_97 (shp (hS.own 1 rfl).slice) rfl rfl) ?_
      refine HO.val (v := .bool (!decide (r_4 = (r_13.length : Int)))) (want_none) rfl (q_neq rfl rfl) ?_
      refine HO.val (v := .bool (!decide (r_4 = (r_13.length : Int)))) (want_none) rfl (q_move rfl) ?_
      rcases Bool.eq_false_or_eq_true (!decide (r_4 = (r_13.length : Int))) with c_2 | c_2
      · replace hM := hM.1 (nd_true c_2)
        refine HO.past (past_by rfl rfl c_2) rfl ?_
        refine HO.past (past_by rfl rfl c_2) rfl ?_
        refine HO.past (past_by rfl rfl c_2) rfl ?_
        refine HO.past (past_by rfl rfl c_2) rfl ?_
        refine HO.past (past_by rfl rfl c_2) rfl ?_
        refine HO.past (past_by rfl rfl c_2) rfl ?_
        refine HO.val (v := .bool true) (want_none) rfl (q_pickK true rfl c_2 rfl) ?_
        refine HO.val (v := .bool true) (want_none) rfl (q_move rfl) ?_
        refine HO.past (past_some rfl rfl) rfl ?_
        refine HO.past (past_some rfl rfl) rfl ?_
        refine HO.past (past_some rfl rfl) rfl ?_
        refine HO.past (past_some rfl rfl) rfl ?_
        refine HO.past (past_some rfl rfl) rfl ?_
        refine HO.val (v := .bool true) (want_none) rfl (q_pick rfl rfl) ?_
        refine HO.val (v := .bool true) (want_none) rfl (q_move rfl) ?_
        refine HO.past (past_some rfl rfl) rfl ?_
        refine HO.past (past_some rfl rfl) rfl ?_
        refine HO.past (past_some rfl rfl) rfl ?_
        refine HO.past (past_some rfl rfl) rfl ?_
        refine HO.past (past_some rfl rfl) rfl ?_
        refine HO.past (past_some rfl rfl) rfl ?_
        refine HO.val (v := .bool true) (want_none) rfl (q_pick rfl rfl) ?_
        refine HO.nil (thenQ_normal (?_))
        replace hS : St F_19 (Ow.box b_1 102 #[.int .i64 q_Id, .int .i64 q_Vlan, vq_Want, .int .i64 q_But.1, .int .i64 q_But.2] :: Ow.box b_2 151 #[.map (some r_2), v_2, .int .i64 a_all_2] :: Ow.map r_2 (fun (x : Int × Int × Int × Int) => .agg #[.int .i64 x.1, .int .i64 x.2.1, .int .i64 x.2.2.1, .int .i64 x.2.2.2]) kI am_2 :: Ow.own 112 5 e_api_Given v_2 a_twice_2 :: Ow.own 112 5 e_api_Given v_3 (r_8 ++ r_10) :: fr) h_16 := St.perm (front := [Ow.own 112 5 e_api_Given vr_8 r_12, Ow.own 112 5 e_api_Given vr_9 r_13, Ow.box b_1 102 #[.int .i64 q_Id, .int .i64 q_Vlan, vq_Want, .int .i64 q_But.1, .int .i64 q_But.2], Ow.box b_2 151 #[.map (some r_2), v_2, .int .i64 a_all_2], Ow.map r_2 (fun (x : Int × Int × Int × Int) => .agg #[.int .i64 x.1, .int .i64 x.2.1, .int .i64 x.2.2.1, .int .i64 x.2.2.2]) kI am_2, Ow.own 112 5 e_api_Given v_2 a_twice_2, Ow.own 112 5 e_api_Given v_3 (r_8 ++ r_10)]) (fr := fr) hS [2, 3, 4, 5, 6] 7 rfl (by decide) [Ow.box b_1 102 #[.int .i64 q_Id, .int .i64 q_Vlan, vq_Want, .int .i64 q_But.1, .int .i64 q_But.2], Ow.box b_2 151 #[.map (some r_2), v_2, .int .i64 a_all_2], Ow.map r_2 (fun (x : Int × Int × Int × Int) => .agg #[.int .i64 x.1, .int .i64 x.2.1, .int .i64 x.2.2.1, .int .i64 x.2.2.2]) kI am_2, Ow.own 112 5 e_api_Given v_2 a_twice_2, Ow.own 112 5 e_api_Given v_3 (r_8 ++ r_10)] rfl
        exact ⟨F_19, am_2, a_twice_2, a_all_2, true, v_2, rfl, rfl, rfl, rfl, rfl, hK, hS, hL_x, hL_y, hL_q_Want, hL_5, hM⟩
      · replace hM := hM.2 (nd_false c_2)
        refine HO.val (v := .int .i64 r_6) (want_by rfl rfl c_2) rfl (q_move rfl) ?_
        refine HO.val (v := vy) (want_by rfl rfl c_2) rfl (q_move rfl) ?_
        refine HO.call (want_by rfl rfl c_2) rfl (ec en_73 rfl rfl) (law44_few_walk (fr := (Ow.own 112 5 e_api_Given vr_8 r_12 :: Ow.own 112 5 e_api_Given vr_9 r_13 :: Ow.box b_1 102 #[.int .i64 q_Id, .int .i64 q_Vlan, vq_Want, .int .i64 q_But.1, .int .i64 q_But.2] :: Ow.box b_2 151 #[.map (some r_2), v_2, .int .i64 a_all_2] :: Ow.map r_2 (fun (x : Int × Int × Int × Int) => .agg #[.int .i64 x.1, .int .i64 x.2.1, .int .i64 x.2.2.1, .int .i64 x.2.2.2]) kI am_2 :: Ow.own 112 5 e_api_Given v_2 a_twice_2 :: Ow.own 112 5 e_api_Given v_3 (r_8 ++ r_10) :: fr)) y vy hS hL_y hM) ?_
        rintro vr_10 h_17 ⟨F_20, r_14, _, rfl, hk, hS, _, hM⟩
        replace hK := hK.trans hk
        replace hL_x := hL_x.kp hk
        replace hL_y := hL_y.kp hk
        replace hL_q_Want := hL_q_Want.kp hk
        replace hL_5 := hL_5.kp hk
        have hZ_6 := hS
        have hkz_6 := (hS.freeze).2
        replace hS := hS.freeze.1
        have hL_9 : SliceF (fun b => F_20 b ∨ (Ow.own 112 5 e_api_Given vr_10 r_14).foot b) h_17 5 e_api_Given vr_10 r_14 := ⟨(hZ_6.own 0 rfl).slice, fun _ b hb => .inr hb⟩
        refine HO.call (want_by rfl rfl c_2) rfl (ec en_72 rfl rfl) (law44_taken_walk (fr := (Ow.own 112 5 e_api_Given vr_8 r_12 :: Ow.own 112 5 e_api_Given vr_9 r_13 :: Ow.box b_1 102 #[.int .i64 q_Id, .int .i64 q_Vlan, vq_Want, .int .i64 q_But.1, .int .i64 q_But.2] :: Ow.box b_2 151 #[.map (some r_2), v_2, .int .i64 a_all_2] :: Ow.map r_2 (fun (x : Int × Int × Int × Int) => .agg #[.int .i64 x.1, .int .i64 x.2.1, .int .i64 x.2.2.1, .int .i64 x.2.2.2]) kI am_2 :: Ow.own 112 5 e_api_Given v_2 a_twice_2 :: Ow.own 112 5 e_api_Given v_3 (r_8 ++ r_10) :: fr)) r_14 vr_10 hS hL_9 hM) ?_
        rintro vr_11 h_18 ⟨F_21, r_15, _, rfl, hk, hS, _, hM⟩
        obtain ⟨hS, hk⟩ := hZ_6.back hk hS
        generalize (fun b => F_21 b ∧ ¬ (Ow.own 112 5 e_api_Given vr_10 r_14).foot b) = F_22 at hS hk
        replace hK := hK.trans hk
        replace hL_x := hL_x.kp hk
        replace hL_y := hL_y.kp hk
        replace hL_q_Want := hL_q_Want.kp hk
        replace hL_5 := hL_5.kp hk
        refine HO.val (v := .int .i64 (r_15.length : Int)) (want_by rfl rfl c_2) rfl (q_len ts_97 (shp (hS.own 1 rfl).slice) rfl rfl) ?_
        refine HO.val (v := .bool (!decide (r_6 = (r_15.length : Int)))) (want_by rfl rfl c_2) rfl (q_neq rfl rfl) ?_
        refine HO.val (v := .bool (!decide (r_6 = (r_15.length : Int)))) (want_none) rfl (q_pickK false rfl c_2 rfl) ?_
        refine HO.val (v := .bool (!decide (r_6 = (r_15.length : Int)))) (want_none) rfl (q_move rfl) ?_
        rcases Bool.eq_false_or_eq_true (!decide (r_6 = (r_15.length : Int))) with c_3 | c_3
        · replace hM := hM.1 (nd_true c_3)
          refine HO.past (past_by rfl rfl c_3) rfl ?_
          refine HO.past (past_by rfl rfl c_3) rfl ?_
          refine HO.past (past_by rfl rfl c_3) rfl ?_
          refine HO.past (past_by rfl rfl c_3) rfl ?_
          refine HO.past (past_by rfl rfl c_3) rfl ?_
          refine HO.val (v := .bool true) (want_none) rfl (q_pickK true rfl c_3 rfl) ?_
          refine HO.val (v := .bool true) (want_none) rfl (q_move rfl) ?_
          refine HO.past (past_some rfl rfl) rfl ?_
          refine HO.past (past_some rfl rfl) rfl ?_
          refine HO.past (past_some rfl rfl) rfl ?_
          refine HO.past (past_some rfl rfl) rfl ?_
          refine HO.past (past_some rfl rfl) rfl ?_
          refine HO.past (past_some rfl rfl) rfl ?_
          refine HO.val (v := .bool true) (want_none) rfl (q_pick rfl rfl) ?_
          refine HO.nil (thenQ_normal (?_))
          replace hS : St F_22 (Ow.box b_1 102 #[.int .i64 q_Id, .int .i64 q_Vlan, vq_Want, .int .i64 q_But.1, .int .i64 q_But.2] :: Ow.box b_2 151 #[.map (some r_2), v_2, .int .i64 a_all_2] :: Ow.map r_2 (fun (x : Int × Int × Int × Int) => .agg #[.int .i64 x.1, .int .i64 x.2.1, .int .i64 x.2.2.1, .int .i64 x.2.2.2]) kI am_2 :: Ow.own 112 5 e_api_Given v_2 a_twice_2 :: Ow.own 112 5 e_api_Given v_3 (r_8 ++ r_10) :: fr) h_18 := St.perm (front := [Ow.own 112 5 e_api_Given vr_10 r_14, Ow.own 112 5 e_api_Given vr_11 r_15, Ow.own 112 5 e_api_Given vr_8 r_12, Ow.own 112 5 e_api_Given vr_9 r_13, Ow.box b_1 102 #[.int .i64 q_Id, .int .i64 q_Vlan, vq_Want, .int .i64 q_But.1, .int .i64 q_But.2], Ow.box b_2 151 #[.map (some r_2), v_2, .int .i64 a_all_2], Ow.map r_2 (fun (x : Int × Int × Int × Int) => .agg #[.int .i64 x.1, .int .i64 x.2.1, .int .i64 x.2.2.1, .int .i64 x.2.2.2]) kI am_2, Ow.own 112 5 e_api_Given v_2 a_twice_2, Ow.own 112 5 e_api_Given v_3 (r_8 ++ r_10)]) (fr := fr) hS [4, 5, 6, 7, 8] 9 rfl (by decide) [Ow.box b_1 102 #[.int .i64 q_Id, .int .i64 q_Vlan, vq_Want, .int .i64 q_But.1, .int .i64 q_But.2], Ow.box b_2 151 #[.map (some r_2), v_2, .int .i64 a_all_2], Ow.map r_2 (fun (x : Int × Int × Int × Int) => .agg #[.int .i64 x.1, .int .i64 x.2.1, .int .i64 x.2.2.1, .int .i64 x.2.2.2]) kI am_2, Ow.own 112 5 e_api_Given v_2 a_twice_2, Ow.own 112 5 e_api_Given v_3 (r_8 ++ r_10)] rfl
          exact ⟨F_22, am_2, a_twice_2, a_all_2, true, v_2, rfl, rfl, rfl, rfl, rfl, hK, hS, hL_x, hL_y, hL_q_Want, hL_5, hM⟩
        · replace hM := hM.2 (nd_false c_3)
          refine HO.val (v := .pointer (some ⟨b_2, 0, none⟩)) (want_by rfl rfl c_3) rfl (q_move rfl) ?_
          replace hS : St F_22 (Ow.box b_2 151 #[.map (some r_2), v_2, .int .i64 a_all_2] :: Ow.map r_2 (fun (x : Int × Int × Int × Int) => .agg #[.int .i64 x.1, .int .i64 x.2.1, .int .i64 x.2.2.1, .int .i64 x.2.2.2]) kI am_2 :: Ow.own 112 5 e_api_Given v_2 a_twice_2 :: Ow.own 112 5 e_api_Given vr_10 r_14 :: Ow.own 112 5 e_api_Given vr_11 r_15 :: Ow.own 112 5 e_api_Given vr_8 r_12 :: Ow.own 112 5 e_api_Given vr_9 r_13 :: Ow.box b_1 102 #[.int .i64 q_Id, .int .i64 q_Vlan, vq_Want, .int .i64 q_But.1, .int .i64 q_But.2] :: Ow.own 112 5 e_api_Given v_3 (r_8 ++ r_10) :: fr) h_18 := St.perm (front := [Ow.own 112 5 e_api_Given vr_10 r_14, Ow.own 112 5 e_api_Given vr_11 r_15, Ow.own 112 5 e_api_Given vr_8 r_12, Ow.own 112 5 e_api_Given vr_9 r_13, Ow.box b_1 102 #[.int .i64 q_Id, .int .i64 q_Vlan, vq_Want, .int .i64 q_But.1, .int .i64 q_But.2], Ow.box b_2 151 #[.map (some r_2), v_2, .int .i64 a_all_2], Ow.map r_2 (fun (x : Int × Int × Int × Int) => .agg #[.int .i64 x.1, .int .i64 x.2.1, .int .i64 x.2.2.1, .int .i64 x.2.2.2]) kI am_2, Ow.own 112 5 e_api_Given v_2 a_twice_2, Ow.own 112 5 e_api_Given v_3 (r_8 ++ r_10)]) (fr := fr) hS [5, 6, 7, 0, 1, 2, 3, 4, 8] 9 rfl (by decide) [Ow.box b_2 151 #[.map (some r_2), v_2, .int .i64 a_all_2], Ow.map r_2 (fun (x : Int × Int × Int × Int) => .agg #[.int .i64 x.1, .int .i64 x.2.1, .int .i64 x.2.2.1, .int .i64 x.2.2.2]) kI am_2, Ow.own 112 5 e_api_Given v_2 a_twice_2, Ow.own 112 5 e_api_Given vr_10 r_14, Ow.own 112 5 e_api_Given vr_11 r_15, Ow.own 112 5 e_api_Given vr_8 r_12, Ow.own 112 5 e_api_Given vr_9 r_13, Ow.box b_1 102 #[.int .i64 q_Id, .int .i64 q_Vlan, vq_Want, .int .i64 q_But.1, .int .i64 q_But.2], Ow.own 112 5 e_api_Given v_3 (r_8 ++ r_10)] rfl
          refine HO.call (want_by rfl rfl c_3) rfl (ec en_83 rfl rfl) (audit_Audit_Ids_walk (fr := (Ow.own 112 5 e_api_Given vr_10 r_14 :: Ow.own 112 5 e_api_Given vr_11 r_15 :: Ow.own 112 5 e_api_Given vr_8 r_12 :: Ow.own 112 5 e_api_Given vr_9 r_13 :: Ow.box b_1 102 #[.int .i64 q_Id, .int .i64 q_Vlan, vq_Want, .int .i64 q_But.1, .int .i64 q_But.2] :: Ow.own 112 5 e_api_Given v_3 (r_8 ++ r_10) :: fr)) am_2 a_twice_2 a_all_2 b_2 r_2 v_2 hS hM) ?_
          rintro vr_12 h_19 ⟨F_23, r_16, am_3, a_twice_3, a_all_3, _, v_4, rfl, hk, hS, hM⟩
          replace hK := hK.trans hk
          replace hL_x := hL_x.kp hk
          replace hL_y := hL_y.kp hk
          replace hL_q_Want := hL_q_Want.kp hk
          replace hL_5 := hL_5.kp hk
          refine HO.val (v := vids_1) (want_by rfl rfl c_3) rfl (q_move rfl) ?_
          have hZ_7 := hS
          have hkz_7 := (hS.freeze).2
          replace hS := hS.freeze.1
          have hL_10 : SliceF (fun b => F_23 b ∨ (Ow.own 3 1 encI vr_12 r_16).foot b) h_19 1 encI vr_12 r_16 := ⟨(hZ_7.own 0 rfl).slice, fun _ b hb => .inr hb⟩
          refine HO.call (want_by rfl rfl c_3) rfl (ec en_82 rfl rfl) (ref32_SameInts_walk (fr := (Ow.box b_2 151 #[.map (some r_2), v_4, .int .i64 a_all_3] :: Ow.map r_2 (fun (x : Int × Int × Int × Int) => .agg #[.int .i64 x.1, .int .i64 x.2.1, .int .i64 x.2.2.1, .int .i64 x.2.2.2]) kI am_3 :: Ow.own 112 5 e_api_Given v_4 a_twice_3 :: Ow.own 112 5 e_api_Given vr_10 r_14 :: Ow.own 112 5 e_api_Given vr_11 r_15 :: Ow.own 112 5 e_api_Given vr_8 r_12 :: Ow.own 112 5 e_api_Given vr_9 r_13 :: Ow.box b_1 102 #[.int .i64 q_Id, .int .i64 q_Vlan, vq_Want, .int .i64 q_But.1, .int .i64 q_But.2] :: Ow.own 112 5 e_api_Given v_3 (r_8 ++ r_10) :: fr)) r_16 ids_1 vr_12 vids_1 hS hL_10 (hL_5.kp hkz_7) hM) ?_
          rintro _ h_20 ⟨F_24, r_17, rfl, hk, hS, _, _, hM⟩
          obtain ⟨hS, hk⟩ := hZ_7.back hk hS
          generalize (fun b => F_24 b ∧ ¬ (Ow.own 3 1 encI vr_12 r_16).foot b) = F_25 at hS hk
          replace hK := hK.trans hk
          replace hL_x := hL_x.kp hk
          replace hL_y := hL_y.kp hk
          replace hL_q_Want := hL_q_Want.kp hk
          replace hL_5 := hL_5.kp hk
          refine HO.val (v := .bool (!r_17)) (want_by rfl rfl c_3) rfl (q_not rfl) ?_
          refine HO.val (v := .bool (!r_17)) (want_none) rfl (q_pickK false rfl c_3 rfl) ?_
          refine HO.val (v := .bool (!r_17)) (want_none) rfl (q_move rfl) ?_
          rcases Bool.eq_false_or_eq_true (!r_17) with c_4 | c_4
          · replace hM := hM.1 c_4
            refine HO.past (past_by rfl rfl c_4) rfl ?_
            refine HO.past (past_by rfl rfl c_4) rfl ?_
            refine HO.past (past_by rfl rfl c_4) rfl ?_
            refine HO.past (past_by rfl rfl c_4) rfl ?_
            refine HO.past (past_by rfl rfl c_4) rfl ?_
            refine HO.past (past_by rfl rfl c_4) rfl ?_
            refine HO.val (v := .bool true) (want_none) rfl (q_pickK true rfl c_4 rfl) ?_
            refine HO.nil (thenQ_normal (?_))
            replace hS : St F_25 (Ow.box b_1 102 #[.int .i64 q_Id, .int .i64 q_Vlan, vq_Want, .int .i64 q_But.1, .int .i64 q_But.2] :: Ow.box b_2 151 #[.map (some r_2), v_4, .int .i64 a_all_3] :: Ow.map r_2 (fun (x : Int × Int × Int × Int) => .agg #[.int .i64 x.1, .int .i64 x.2.1, .int .i64 x.2.2.1, .int .i64 x.2.2.2]) kI am_3 :: Ow.own 112 5 e_api_Given v_4 a_twice_3 :: Ow.own 112 5 e_api_Given v_3 (r_8 ++ r_10) :: fr) h_20 := St.perm (front := [Ow.own 3 1 encI vr_12 r_16, Ow.box b_2 151 #[.map (some r_2), v_4, .int .i64 a_all_3], Ow.map r_2 (fun (x : Int × Int × Int × Int) => .agg #[.int .i64 x.1, .int .i64 x.2.1, .int .i64 x.2.2.1, .int .i64 x.2.2.2]) kI am_3, Ow.own 112 5 e_api_Given v_4 a_twice_3, Ow.own 112 5 e_api_Given vr_10 r_14, Ow.own 112 5 e_api_Given vr_11 r_15, Ow.own 112 5 e_api_Given vr_8 r_12, Ow.own 112 5 e_api_Given vr_9 r_13, Ow.box b_1 102 #[.int .i64 q_Id, .int .i64 q_Vlan, vq_Want, .int .i64 q_But.1, .int .i64 q_But.2], Ow.own 112 5 e_api_Given v_3 (r_8 ++ r_10)]) (fr := fr) hS [8, 1, 2, 3, 9] 10 rfl (by decide) [Ow.box b_1 102 #[.int .i64 q_Id, .int .i64 q_Vlan, vq_Want, .int .i64 q_But.1, .int .i64 q_But.2], Ow.box b_2 151 #[.map (some r_2), v_4, .int .i64 a_all_3], Ow.map r_2 (fun (x : Int × Int × Int × Int) => .agg #[.int .i64 x.1, .int .i64 x.2.1, .int .i64 x.2.2.1, .int .i64 x.2.2.2]) kI am_3, Ow.own 112 5 e_api_Given v_4 a_twice_3, Ow.own 112 5 e_api_Given v_3 (r_8 ++ r_10)] rfl
            exact ⟨F_25, am_3, a_twice_3, a_all_3, true, v_4, rfl, rfl, rfl, rfl, rfl, hK, hS, hL_x, hL_y, hL_q_Want, hL_5, hM⟩
          · replace hM := hM.2 c_4
            refine HO.val (v := .pointer (some ⟨b_2, 0, none⟩)) (want_by rfl rfl c_4) rfl (q_move rfl) ?_
            replace hS : St F_25 (Ow.box b_2 151 #[.map (some r_2), v_4, .int .i64 a_all_3] :: Ow.map r_2 (fun (x : Int × Int × Int × Int) => .agg #[.int .i64 x.1, .int .i64 x.2.1, .int .i64 x.2.2.1, .int .i64 x.2.2.2]) kI am_3 :: Ow.own 112 5 e_api_Given v_4 a_twice_3 :: Ow.own 3 1 encI vr_12 r_16 :: Ow.own 112 5 e_api_Given vr_10 r_14 :: Ow.own 112 5 e_api_Given vr_11 r_15 :: Ow.own 112 5 e_api_Given vr_8 r_12 :: Ow.own 112 5 e_api_Given vr_9 r_13 :: Ow.box b_1 102 #[.int .i64 q_Id, .int .i64 q_Vlan, vq_Want, .int .i64 q_But.1, .int .i64 q_But.2] :: Ow.own 112 5 e_api_Given v_3 (r_8 ++ r_10) :: fr) h_20 := St.perm (front := [Ow.own 3 1 encI vr_12 r_16, Ow.box b_2 151 #[.map (some r_2), v_4, .int .i64 a_all_3], Ow.map r_2 (fun (x : Int × Int × Int × Int) => .agg #[.int .i64 x.1, .int .i64 x.2.1, .int .i64 x.2.2.1, .int .i64 x.2.2.2]) kI am_3, Ow.own 112 5 e_api_Given v_4 a_twice_3, Ow.own 112 5 e_api_Given vr_10 r_14, Ow.own 112 5 e_api_Given vr_11 r_15, Ow.own 112 5 e_api_Given vr_8 r_12, Ow.own 112 5 e_api_Given vr_9 r_13, Ow.box b_1 102 #[.int .i64 q_Id, .int .i64 q_Vlan, vq_Want, .int .i64 q_But.1, .int .i64 q_But.2], Ow.own 112 5 e_api_Given v_3 (r_8 ++ r_10)]) (fr := fr) hS [1, 2, 3, 0, 4, 5, 6, 7, 8, 9] 10 rfl (by decide) [Ow.box b_2 151 #[.map (some r_2), v_4, .int .i64 a_all_3], Ow.map r_2 (fun (x : Int × Int × Int × Int) => .agg #[.int .i64 x.1, .int .i64 x.2.1, .int .i64 x.2.2.1, .int .i64 x.2.2.2]) kI am_3, Ow.own 112 5 e_api_Given v_4 a_twice_3, Ow.own 3 1 encI vr_12 r_16, Ow.own 112 5 e_api_Given vr_10 r_14, Ow.own 112 5 e_api_Given vr_11 r_15, Ow.own 112 5 e_api_Given vr_8 r_12, Ow.own 112 5 e_api_Given vr_9 r_13, Ow.box b_1 102 #[.int .i64 q_Id, .int .i64 q_Vlan, vq_Want, .int .i64 q_But.1, .int .i64 q_But.2], Ow.own 112 5 e_api_Given v_3 (r_8 ++ r_10)] rfl
            refine HO.call (want_by rfl rfl c_4) rfl (ec en_77 rfl rfl) (audit_Audit_Twice_walk (fr := (Ow.own 3 1 encI vr_12 r_16 :: Ow.own 112 5 e_api_Given vr_10 r_14 :: Ow.own 112 5 e_api_Given vr_11 r_15 :: Ow.own 112 5 e_api_Given vr_8 r_12 :: Ow.own 112 5 e_api_Given vr_9 r_13 :: Ow.box b_1 102 #[.int .i64 q_Id, .int .i64 q_Vlan, vq_Want, .int .i64 q_But.1, .int .i64 q_But.2] :: Ow.own 112 5 e_api_Given v_3 (r_8 ++ r_10) :: fr)) am_3 a_twice_3 a_all_3 b_2 r_2 v_4 hS hM) ?_
            rintro vr_13 h_21 ⟨F_26, r_18, am_4, a_twice_4, a_all_4, _, v_5, rfl, hk, hS, hM⟩
            replace hK := hK.trans hk
            replace hL_x := hL_x.kp hk
            replace hL_y := hL_y.kp hk
            replace hL_q_Want := hL_q_Want.kp hk
            replace hL_5 := hL_5.kp hk
            refine HO.val (v := v_3) (want_by rfl rfl c_4) rfl (q_move rfl) ?_
            replace hS : St F_26 (Ow.own 112 5 e_api_Given v_3 (r_8 ++ r_10) :: Ow.own 112 5 e_api_Given vr_13 r_18 :: Ow.box b_2 151 #[.map (some r_2), v_5, .int .i64 a_all_4] :: Ow.map r_2 (fun (x : Int × Int × Int × Int) => .agg #[.int .i64 x.1, .int .i64 x.2.1, .int .i64 x.2.2.1, .int .i64 x.2.2.2]) kI am_4 :: Ow.own 112 5 e_api_Given v_5 a_twice_4 :: Ow.own 3 1 encI vr_12 r_16 :: Ow.own 112 5 e_api_Given vr_10 r_14 :: Ow.own 112 5 e_api_Given vr_11 r_15 :: Ow.own 112 5 e_api_Given vr_8 r_12 :: Ow.own 112 5 e_api_Given vr_9 r_13 :: Ow.box b_1 102 #[.int .i64 q_Id, .int .i64 q_Vlan, vq_Want, .int .i64 q_But.1, .int .i64 q_But.2] :: fr) h_21 := St.perm (front := [Ow.own 112 5 e_api_Given vr_13 r_18, Ow.box b_2 151 #[.map (some r_2), v_5, .int .i64 a_all_4], Ow.map r_2 (fun (x : Int × Int × Int × Int) => .agg #[.int .i64 x.1, .int .i64 x.2.1, .int .i64 x.2.2.1, .int .i64 x.2.2.2]) kI am_4, Ow.own 112 5 e_api_Given v_5 a_twice_4, Ow.own 3 1 encI vr_12 r_16, Ow.own 112 5 e_api_Given vr_10 r_14, Ow.own 112 5 e_api_Given vr_11 r_15, Ow.own 112 5 e_api_Given vr_8 r_12, Ow.own 112 5 e_api_Given vr_9 r_13, Ow.box b_1 102 #[.int .i64 q_Id, .int .i64 q_Vlan, vq_Want, .int .i64 q_But.1, .int .i64 q_But.2], Ow.own 112 5 e_api_Given v_3 (r_8 ++ r_10)]) (fr := fr) hS [10, 0, 1, 2, 3, 4, 5, 6, 7, 8, 9] 11 rfl (by decide) [Ow.own 112 5 e_api_Given v_3 (r_8 ++ r_10), Ow.own 112 5 e_api_Given vr_13 r_18, Ow.box b_2 151 #[.map (some r_2), v_5, .int .i64 a_all_4], Ow.map r_2 (fun (x : Int × Int × Int × Int) => .agg #[.int .i64 x.1, .int .i64 x.2.1, .int .i64 x.2.2.1, .int .i64 x.2.2.2]) kI am_4, Ow.own 112 5 e_api_Given v_5 a_twice_4, Ow.own 3 1 encI vr_12 r_16, Ow.own 112 5 e_api_Given vr_10 r_14, Ow.own 112 5 e_api_Given vr_11 r_15, Ow.own 112 5 e_api_Given vr_8 r_12, Ow.own 112 5 e_api_Given vr_9 r_13, Ow.box b_1 102 #[.int .i64 q_Id, .int .i64 q_Vlan, vq_Want, .int .i64 q_But.1, .int .i64 q_But.2]] rfl
            have hZ_8 := hS
            have hkz_8 := (hS.freeze).2
            replace hS := hS.freeze.1
            have hL_11 : SliceF (fun b => F_26 b ∨ (Ow.own 112 5 e_api_Given v_3 (r_8 ++ r_10)).foot b) h_21 5 e_api_Given v_3 (r_8 ++ r_10) := ⟨(hZ_8.own 0 rfl).slice, fun _ b hb => .inr hb⟩
            refine HO.call (want_by rfl rfl c_4) rfl (ec en_85 rfl rfl) (ref44_Twice_walk (fr := (Ow.own 112 5 e_api_Given vr_13 r_18 :: Ow.box b_2 151 #[.map (some r_2), v_5, .int .i64 a_all_4] :: Ow.map r_2 (fun (x : Int × Int × Int × Int) => .agg #[.int .i64 x.1, .int .i64 x.2.1, .int .i64 x.2.2.1, .int .i64 x.2.2.2]) kI am_4 :: Ow.own 112 5 e_api_Given v_5 a_twice_4 :: Ow.own 3 1 encI vr_12 r_16 :: Ow.own 112 5 e_api_Given vr_10 r_14 :: Ow.own 112 5 e_api_Given vr_11 r_15 :: Ow.own 112 5 e_api_Given vr_8 r_12 :: Ow.own 112 5 e_api_Given vr_9 r_13 :: Ow.box b_1 102 #[.int .i64 q_Id, .int .i64 q_Vlan, vq_Want, .int .i64 q_But.1, .int .i64 q_But.2] :: fr)) (r_8 ++ r_10) v_3 hS hL_11 hM) ?_
            rintro vr_14 h_22 ⟨F_27, r_19, _, rfl, hk, hS, _, hM⟩
            obtain ⟨hS, hk⟩ := hZ_8.back hk hS
            generalize (fun b => F_27 b ∧ ¬ (Ow.own 112 5 e_api_Given v_3 (r_8 ++ r_10)).foot b) = F_28 at hS hk
            replace hK := hK.trans hk
            replace hL_x := hL_x.kp hk
            replace hL_y := hL_y.kp hk
            replace hL_q_Want := hL_q_Want.kp hk
            replace hL_5 := hL_5.kp hk
            replace hS : St F_28 (Ow.own 112 5 e_api_Given vr_13 r_18 :: Ow.own 112 5 e_api_Given v_3 (r_8 ++ r_10) :: Ow.own 112 5 e_api_Given vr_14 r_19 :: Ow.box b_2 151 #[.map (some r_2), v_5, .int .i64 a_all_4] :: Ow.map r_2 (fun (x : Int × Int × Int × Int) => .agg #[.int .i64 x.1, .int .i64 x.2.1, .int .i64 x.2.2.1, .int .i64 x.2.2.2]) kI am_4 :: Ow.own 112 5 e_api_Given v_5 a_twice_4 :: Ow.own 3 1 encI vr_12 r_16 :: Ow.own 112 5 e_api_Given vr_10 r_14 :: Ow.own 112 5 e_api_Given vr_11 r_15 :: Ow.own 112 5 e_api_Given vr_8 r_12 :: Ow.own 112 5 e_api_Given vr_9 r_13 :: Ow.box b_1 102 #[.int .i64 q_Id, .int .i64 q_Vlan, vq_Want, .int .i64 q_But.1, .int .i64 q_But.2] :: fr) h_22 := St.perm (front := [Ow.own 112 5 e_api_Given v_3 (r_8 ++ r_10), Ow.own 112 5 e_api_Given vr_14 r_19, Ow.own 112 5 e_api_Given vr_13 r_18, Ow.box b_2 151 #[.map (some r_2), v_5, .int .i64 a_all_4], Ow.map r_2 (fun (x : Int × Int × Int × Int) => .agg #[.int .i64 x.1, .int .i64 x.2.1, .int .i64 x.2.2.1, .int .i64 x.2.2.2]) kI am_4, Ow.own 112 5 e_api_Given v_5 a_twice_4, Ow.own 3 1 encI vr_12 r_16, Ow.own 112 5 e_api_Given vr_10 r_14, Ow.own 112 5 e_api_Given vr_11 r_15, Ow.own 112 5 e_api_Given vr_8 r_12, Ow.own 112 5 e_api_Given vr_9 r_13, Ow.box b_1 102 #[.int .i64 q_Id, .int .i64 q_Vlan, vq_Want, .int .i64 q_But.1, .int .i64 q_But.2]]) (fr := fr) hS [2, 0, 1, 3, 4, 5, 6, 7, 8, 9, 10, 11] 12 rfl (by decide) [Ow.own 112 5 e_api_Given vr_13 r_18, Ow.own 112 5 e_api_Given v_3 (r_8 ++ r_10), Ow.own 112 5 e_api_Given vr_14 r_19, Ow.box b_2 151 #[.map (some r_2), v_5, .int .i64 a_all_4], Ow.map r_2 (fun (x : Int × Int × Int × Int) => .agg #[.int .i64 x.1, .int .i64 x.2.1, .int .i64 x.2.2.1, .int .i64 x.2.2.2]) kI am_4, Ow.own 112 5 e_api_Given v_5 a_twice_4, Ow.own 3 1 encI vr_12 r_16, Ow.own 112 5 e_api_Given vr_10 r_14, Ow.own 112 5 e_api_Given vr_11 r_15, Ow.own 112 5 e_api_Given vr_8 r_12, Ow.own 112 5 e_api_Given vr_9 r_13, Ow.box b_1 102 #[.int .i64 q_Id, .int .i64 q_Vlan, vq_Want, .int .i64 q_But.1, .int .i64 q_But.2]] rfl
            have hZ_9 := hS
            have hkz_9 := (hS.freeze).2
            replace hS := hS.freeze.1
            have hL_12 : SliceF (fun b => F_28 b ∨ (Ow.own 112 5 e_api_Given vr_13 r_18).foot b) h_22 5 e_api_Given vr_13 r_18 := ⟨(hZ_9.own 0 rfl).slice, fun _ b hb => .inr hb⟩
            replace hS : St (fun b => F_28 b ∨ (Ow.own 112 5 e_api_Given vr_13 r_18).foot b) (Ow.own 112 5 e_api_Given vr_14 r_19 :: Ow.own 112 5 e_api_Given v_3 (r_8 ++ r_10) :: Ow.box b_2 151 #[.map (some r_2), v_5, .int .i64 a_all_4] :: Ow.map r_2 (fun (x : Int × Int × Int × Int) => .agg #[.int .i64 x.1, .int .i64 x.2.1, .int .i64 x.2.2.1, .int .i64 x.2.2.2]) kI am_4 :: Ow.own 112 5 e_api_Given v_5 a_twice_4 :: Ow.own 3 1 encI vr_12 r_16 :: Ow.own 112 5 e_api_Given vr_10 r_14 :: Ow.own 112 5 e_api_Given vr_11 r_15 :: Ow.own 112 5 e_api_Given vr_8 r_12 :: Ow.own 112 5 e_api_Given vr_9 r_13 :: Ow.box b_1 102 #[.int .i64 q_Id, .int .i64 q_Vlan, vq_Want, .int .i64 q_But.1, .int .i64 q_But.2] :: fr) h_22 := St.perm (front := [Ow.own 112 5 e_api_Given v_3 (r_8 ++ r_10), Ow.own 112 5 e_api_Given vr_14 r_19, Ow.box b_2 151 #[.map (some r_2), v_5, .int .i64 a_all_4], Ow.map r_2 (fun (x : Int × Int × Int × Int) => .agg #[.int .i64 x.1, .int .i64 x.2.1, .int .i64 x.2.2.1, .int .i64 x.2.2.2]) kI am_4, Ow.own 112 5 e_api_Given v_5 a_twice_4, Ow.own 3 1 encI vr_12 r_16, Ow.own 112 5 e_api_Given vr_10 r_14, Ow.own 112 5 e_api_Given vr_11 r_15, Ow.own 112 5 e_api_Given vr_8 r_12, Ow.own 112 5 e_api_Given vr_9 r_13, Ow.box b_1 102 #[.int .i64 q_Id, .int .i64 q_Vlan, vq_Want, .int .i64 q_But.1, .int .i64 q_But.2]]) (fr := fr) hS [1, 0, 2, 3, 4, 5, 6, 7, 8, 9, 10] 11 rfl (by decide) [Ow.own 112 5 e_api_Given vr_14 r_19, Ow.own 112 5 e_api_Given v_3 (r_8 ++ r_10), Ow.box b_2 151 #[.map (some r_2), v_5, .int .i64 a_all_4], Ow.map r_2 (fun (x : Int × Int × Int × Int) => .agg #[.int .i64 x.1, .int .i64 x.2.1, .int .i64 x.2.2.1, .int .i64 x.2.2.2]) kI am_4, Ow.own 112 5 e_api_Given v_5 a_twice_4, Ow.own 3 1 encI vr_12 r_16, Ow.own 112 5 e_api_Given vr_10 r_14, Ow.own 112 5 e_api_Given vr_11 r_15, Ow.own 112 5 e_api_Given vr_8 r_12, Ow.own 112 5 e_api_Given vr_9 r_13, Ow.box b_1 102 #[.int .i64 q_Id, .int .i64 q_Vlan, vq_Want, .int .i64 q_But.1, .int .i64 q_But.2]] rfl
            have hZ_10 := hS
            have hkz_10 := (hS.freeze).2
            replace hS := hS.freeze.1
            have hL_13 : SliceF (fun b => (fun b => F_28 b ∨ (Ow.own 112 5 e_api_Given vr_13 r_18).foot b) b ∨ (Ow.own 112 5 e_api_Given vr_14 r_19).foot b) h_22 5 e_api_Given vr_14 r_19 := ⟨(hZ_10.own 0 rfl).slice, fun _ b hb => .inr hb⟩
            refine HO.call (want_by rfl rfl c_4) rfl (ec en_84 rfl rfl) (ref39_Same_walk (fr := (Ow.own 112 5 e_api_Given v_3 (r_8 ++ r_10) :: Ow.box b_2 151 #[.map (some r_2), v_5, .int .i64 a_all_4] :: Ow.map r_2 (fun (x : Int × Int × Int × Int) => .agg #[.int .i64 x.1, .int .i64 x.2.1, .int .i64 x.2.2.1, .int .i64 x.2.2.2]) kI am_4 :: Ow.own 112 5 e_api_Given v_5 a_twice_4 :: Ow.own 3 1 encI vr_12 r_16 :: Ow.own 112 5 e_api_Given vr_10 r_14 :: Ow.own 112 5 e_api_Given vr_11 r_15 :: Ow.own 112 5 e_api_Given vr_8 r_12 :: Ow.own 112 5 e_api_Given vr_9 r_13 :: Ow.box b_1 102 #[.int .i64 q_Id, .int .i64 q_Vlan, vq_Want, .int .i64 q_But.1, .int .i64 q_But.2] :: fr)) r_18 r_19 vr_13 vr_14 hS (hL_12.kp hkz_10) hL_13 hM) ?_
            rintro _ h_23 ⟨F_29, r_20, rfl, hk, hS, _, _, hM⟩
            obtain ⟨hS, hk⟩ := hZ_10.back hk hS
            obtain ⟨hS, hk⟩ := hZ_9.back hk hS
            generalize (fun b => (fun b => F_29 b ∧ ¬ (Ow.own 112 5 e_api_Given vr_14 r_19).foot b) b ∧ ¬ (Ow.own 112 5 e_api_Given vr_13 r_18).foot b) = F_30 at hS hk
            replace hK := hK.trans hk
            replace hL_x := hL_x.kp hk
            replace hL_y := hL_y.kp hk
            replace hL_q_Want := hL_q_Want.kp hk
            replace hL_5 := hL_5.kp hk
            refine HO.val (v := .bool (!r_20)) (want_by rfl rfl c_4) rfl (q_not rfl) ?_
            refine HO.val (v := .bool (!r_20)) (want_none) rfl (q_pickK false rfl c_4 rfl) ?_
            refine HO.nil (thenQ_normal (?_))
            replace hS : St F_30 (Ow.box b_1 102 #[.int .i64 q_Id, .int .i64 q_Vlan, vq_Want, .int .i64 q_But.1, .int .i64 q_But.2] :: Ow.box b_2 151 #[.map (some r_2), v_5, .int .i64 a_all_4] :: Ow.map r_2 (fun (x : Int × Int × Int × Int) => .agg #[.int .i64 x.1, .int .i64 x.2.1, .int .i64 x.2.2.1, .int .i64 x.2.2.2]) kI am_4 :: Ow.own 112 5 e_api_Given v_5 a_twice_4 :: Ow.own 112 5 e_api_Given v_3 (r_8 ++ r_10) :: fr) h_23 := St.perm (front := [Ow.own 112 5 e_api_Given vr_13 r_18, Ow.own 112 5 e_api_Given vr_14 r_19, Ow.own 112 5 e_api_Given v_3 (r_8 ++ r_10), Ow.box b_2 151 #[.map (some r_2), v_5, .int .i64 a_all_4], Ow.map r_2 (fun (x : Int × Int × Int × Int) => .agg #[.int .i64 x.1, .int .i64 x.2.1, .int .i64 x.2.2.1, .int .i64 x.2.2.2]) kI am_4, Ow.own 112 5 e_api_Given v_5 a_twice_4, Ow.own 3 1 encI vr_12 r_16, Ow.own 112 5 e_api_Given vr_10 r_14, Ow.own 112 5 e_api_Given vr_11 r_15, Ow.own 112 5 e_api_Given vr_8 r_12, Ow.own 112 5 e_api_Given vr_9 r_13, Ow.box b_1 102 #[.int .i64 q_Id, .int .i64 q_Vlan, vq_Want, .int .i64 q_But.1, .int .i64 q_But.2]]) (fr := fr) hS [11, 3, 4, 5, 2] 12 rfl (by decide) [Ow.box b_1 102 #[.int .i64 q_Id, .int .i64 q_Vlan, vq_Want, .int .i64 q_But.1, .int .i64 q_But.2], Ow.box b_2 151 #[.map (some r_2), v_5, .int .i64 a_all_4], Ow.map r_2 (fun (x : Int × Int × Int × Int) => .agg #[.int .i64 x.1, .int .i64 x.2.1, .int .i64 x.2.2.1, .int .i64 x.2.2.2]) kI am_4, Ow.own 112 5 e_api_Given v_5 a_twice_4, Ow.own 112 5 e_api_Given v_3 (r_8 ++ r_10)] rfl
            exact ⟨F_30, am_4, a_twice_4, a_all_4, !r_20, v_5, rfl, rfl, rfl, rfl, rfl, hK, hS, hL_x, hL_y, hL_q_Want, hL_5, hM⟩
    · rintro f_2 h_24 ⟨F_31, a_0_1, a_1_1, a_2_1, b_4, va_1_1, e5, e6, e7, e10, e75, hK, hS, hL_x, hL_y, hL_q_Want, hL_5, hM⟩
      unfold law44_AuditTells_j1 at hM
      refine HW.fr [(5, .pointer (some ⟨b_1, 0, none⟩)), (6, .bool false), (7, .pointer (some ⟨b_2, 0, none⟩)), (10, v_3), (75, .bool b_4)] ⟨e5, e6, e7, e10, e75, trivial⟩ ?_
      refine HW.cond b_4 rfl (fun c_5 => ?_) (fun c_5 => ?_)
      · replace hM := hM.1 c_5
        refine HW.seq ?_
        refine HW.region ?_
        refine HO.val (v := .bool false) (want_none) rfl (q_assign rfl) ?_
        refine HO.nil (thenQ_normal (?_))
        refine HW.ret (thenQ_ret (?_))
        refine ⟨.inr rfl, .bool false, res1 rfl (rt rfl), ?_⟩
        replace hS : St F_31 (fr) h_24 := St.perm (front := [Ow.box b_1 102 #[.int .i64 q_Id, .int .i64 q_Vlan, vq_Want, .int .i64 q_But.1, .int .i64 q_But.2], Ow.box b_2 151 #[.map (some r_2), va_1_1, .int .i64 a_2_1], Ow.map r_2 (fun (x : Int × Int × Int × Int) => .agg #[.int .i64 x.1, .int .i64 x.2.1, .int .i64 x.2.2.1, .int .i64 x.2.2.2]) kI a_0_1, Ow.own 112 5 e_api_Given va_1_1 a_1_1, Ow.own 112 5 e_api_Given v_3 (r_8 ++ r_10)]) (fr := fr) hS [] 5 rfl (by decide) [] rfl
        exact ⟨F_31, false, rfl, hK, hS, hL_x, hL_y, hL_q_Want, hM⟩
      · replace hM := hM.2 c_5
        refine HW.skip (thenQ_normal (?_))
        refine HW.seq ?_
        refine HW.regionA 16 mixed (fun h => (SliceIs h 5 e_api_Given vx x) ∧ (SliceIs h 5 e_api_Given vy y) ∧ (SliceIs h 2 e_api_Spot vq_Want q_Want) ∧ (SliceIs h 1 encI vids_1 ids_1) ∧ (Blk h b_1 (.cells #[.int .i64 q_Id, .int .i64 q_Vlan, vq_Want, .int .i64 q_But.1, .int .i64 q_But.2] 102 (0, 0))) ∧ (OwnIs h 0 112 5 e_api_Given v_3 (r_8 ++ r_10))) [(10, fun h => (Blk h b_2 (.cells #[.map (some r_2), va_1_1, .int .i64 a_2_1] 151 (0, 0))) ∧ (MapIs h r_2 (fun (x : Int × Int × Int × Int) => .agg #[.int .i64 x.1, .int .i64 x.2.1, .int .i64 x.2.2.1, .int .i64 x.2.2.2]) kI a_0_1) ∧ (OwnIs h 0 112 5 e_api_Given va_1_1 a_1_1))] (by kernel_rfl) ?_
        refine HA.val (k := 0) (v := .pointer (some ⟨b_2, 0, none⟩)) rfl rfl (by kernel_rfl) (by kernel_rfl) (want_none) rfl (fun _ ⟨hL_x, hL_y, hL_q_Want, hL_5, c367, c371⟩ => q_move rfl) ?_
        refine HA.val (k := 1) (v := .pointer (some ⟨b_1, 0, none⟩)) rfl rfl (by kernel_rfl) (by kernel_rfl) (want_none) rfl (fun _ ⟨hL_x, hL_y, hL_q_Want, hL_5, c367, c371⟩ => q_fieldAddr fa_102_0 rfl rfl) ?_
        refine HA.val (k := 2) (v := .int .i64 q_Id) rfl rfl (by kernel_rfl) (by kernel_rfl) (want_none) rfl (fun _ ⟨hL_x, hL_y, hL_q_Want, hL_5, c367, c371⟩ => q_load to_3 rfl (Blk.cell c367 rfl)) ?_
        refine HA.val (k := 3) (v := .pointer (some ⟨b_1, 1, none⟩)) rfl rfl (by kernel_rfl) (by kernel_rfl) (want_none) rfl (fun _ ⟨hL_x, hL_y, hL_q_Want, hL_5, c367, c371⟩ => q_fieldAddr fa_102_1 rfl rfl) ?_
        refine HA.val (k := 4) (v := .int .i64 q_Vlan) rfl rfl (by kernel_rfl) (by kernel_rfl) (want_none) rfl (fun _ ⟨hL_x, hL_y, hL_q_Want, hL_5, c367, c371⟩ => q_load to_3 rfl (Blk.cell c367 rfl)) ?_
        refine HA.val (k := 5) (v := .pointer (some ⟨b_1, 2, none⟩)) rfl rfl (by kernel_rfl) (by kernel_rfl) (want_none) rfl (fun _ ⟨hL_x, hL_y, hL_q_Want, hL_5, c367, c371⟩ => q_fieldAddr fa_102_2 rfl rfl) ?_
        refine HA.val (k := 6) (v := vq_Want) rfl rfl (by kernel_rfl) (by kernel_rfl) (want_none) rfl (fun _ ⟨hL_x, hL_y, hL_q_Want, hL_5, c367, c371⟩ => q_load to_98 rfl (Blk.cell c367 rfl)) ?_
        refine HA.val (k := 8) (v := .pointer (some ⟨b_1, 3, none⟩)) rfl rfl (by kernel_rfl) (by kernel_rfl) (want_none) rfl (fun _ ⟨hL_x, hL_y, hL_q_Want, hL_5, c367, c371⟩ => q_fieldAddr fa_102_3 rfl rfl) ?_
        refine HA.val (k := 9) (v := .agg #[.int .i64 q_But.1, .int .i64 q_But.2]) rfl rfl (by kernel_rfl) (by kernel_rfl) (want_none) rfl (fun _ ⟨hL_x, hL_y, hL_q_Want, hL_5, c367, c371⟩ => q_loadAgg (cs := [.int .i64 q_But.1, .int .i64 q_But.2]) ta_100 rfl rfl (Blk.cells (k := 2) c367 rfl)) ?_
        refine HA.one (k := 7) ⟨⟨hL_x.is, hL_y.is, hL_q_Want.is, hL_5.is, (hS.box 0 rfl), (hS.own 4 rfl)⟩, (at_now ⟨(hS.box 1 rfl), (hS.mp 2 rfl), (hS.own 3 rfl)⟩ (Go.Wk.at_nil _ _))⟩ (by kernel_rfl) ?_
        refine HS.call rfl (want_none) rfl (ec en_76 rfl rfl) (law44_own_walk (fr := (Ow.box b_1 102 #[.int .i64 q_Id, .int .i64 q_Vlan, vq_Want, .int .i64 q_But.1, .int .i64 q_But.2] :: Ow.box b_2 151 #[.map (some r_2), va_1_1, .int .i64 a_2_1] :: Ow.map r_2 (fun (x : Int × Int × Int × Int) => .agg #[.int .i64 x.1, .int .i64 x.2.1, .int .i64 x.2.2.1, .int .i64 x.2.2.2]) kI a_0_1 :: Ow.own 112 5 e_api_Given va_1_1 a_1_1 :: Ow.own 112 5 e_api_Given v_3 (r_8 ++ r_10) :: fr)) q_Want vq_Want hS hL_q_Want hM) ?_
        rintro vr_15 h_25 ⟨F_32, r_21, _, rfl, hk, hS, _, hM⟩
        replace hK := hK.trans hk
        replace hL_x := hL_x.kp hk
        replace hL_y := hL_y.kp hk
        replace hL_q_Want := hL_q_Want.kp hk
        replace hL_5 := hL_5.kp hk
        refine Go.Wk.HA.re (fun h => (SliceIs h 5 e_api_Given vx x) ∧ (SliceIs h 5 e_api_Given vy y) ∧ (SliceIs h 2 e_api_Spot vq_Want q_Want) ∧ (SliceIs h 1 encI vids_1 ids_1) ∧ (OwnIs h 0 100 2 e_api_Spot vr_15 r_21) ∧ (Blk h b_1 (.cells #[.int .i64 q_Id, .int .i64 q_Vlan, vq_Want, .int .i64 q_But.1, .int .i64 q_But.2] 102 (0, 0))) ∧ (OwnIs h 0 112 5 e_api_Given v_3 (r_8 ++ r_10))) [(10, fun h => (Blk h b_2 (.cells #[.map (some r_2), va_1_1, .int .i64 a_2_1] 151 (0, 0))) ∧ (MapIs h r_2 (fun (x : Int × Int × Int × Int) => .agg #[.int .i64 x.1, .int .i64 x.2.1, .int .i64 x.2.2.1, .int .i64 x.2.2.2]) kI a_0_1) ∧ (OwnIs h 0 112 5 e_api_Given va_1_1 a_1_1))] (fun L_ h_ hL_ ⟨hL_x, hL_y, hL_q_Want, hL_5, c414, c367, c371⟩ hs_ => ⟨⟨hL_x, hL_y, hL_q_Want, hL_5, c367, c371⟩, (at_keep 0 rfl hs_ (fun ⟨c368, c369, c370⟩ => ⟨c368, c369, c370⟩) (Go.Wk.at_nil _ _))⟩) ?_
        refine HA.one (k := 10) ⟨⟨hL_x.is, hL_y.is, hL_q_Want.is, hL_5.is, (hS.own 0 rfl), (hS.box 1 rfl), (hS.own 5 rfl)⟩, (at_now ⟨(hS.box 2 rfl), (hS.mp 3 rfl), (hS.own 4 rfl)⟩ (Go.Wk.at_nil _ _))⟩ (by kernel_rfl) ?_
        have hZ_11 := hS
        have hkz_11 := (hS.freeze).2
        replace hS := hS.freeze.1
        have hL_14 : SliceF (fun b => F_32 b ∨ (Ow.own 100 2 e_api_Spot vr_15 r_21).foot b) h_25 2 e_api_Spot vr_15 r_21 := ⟨(hZ_11.own 0 rfl).slice, fun _ b hb => .inr hb⟩
        replace hS : St (fun b => F_32 b ∨ (Ow.own 100 2 e_api_Spot vr_15 r_21).foot b) (Ow.box b_2 151 #[.map (some r_2), va_1_1, .int .i64 a_2_1] :: Ow.map r_2 (fun (x : Int × Int × Int × Int) => .agg #[.int .i64 x.1, .int .i64 x.2.1, .int .i64 x.2.2.1, .int .i64 x.2.2.2]) kI a_0_1 :: Ow.own 112 5 e_api_Given va_1_1 a_1_1 :: Ow.box b_1 102 #[.int .i64 q_Id, .int .i64 q_Vlan, vq_Want, .int .i64 q_But.1, .int .i64 q_But.2] :: Ow.own 112 5 e_api_Given v_3 (r_8 ++ r_10) :: fr) h_25 := St.perm (front := [Ow.box b_1 102 #[.int .i64 q_Id, .int .i64 q_Vlan, vq_Want, .int .i64 q_But.1, .int .i64 q_But.2], Ow.box b_2 151 #[.map (some r_2), va_1_1, .int .i64 a_2_1], Ow.map r_2 (fun (x : Int × Int × Int × Int) => .agg #[.int .i64 x.1, .int .i64 x.2.1, .int .i64 x.2.2.1, .int .i64 x.2.2.2]) kI a_0_1, Ow.own 112 5 e_api_Given va_1_1 a_1_1, Ow.own 112 5 e_api_Given v_3 (r_8 ++ r_10)]) (fr := fr) hS [1, 2, 3, 0, 4] 5 rfl (by decide) [Ow.box b_2 151 #[.map (some r_2), va_1_1, .int .i64 a_2_1], Ow.map r_2 (fun (x : Int × Int × Int × Int) => .agg #[.int .i64 x.1, .int .i64 x.2.1, .int .i64 x.2.2.1, .int .i64 x.2.2.2]) kI a_0_1, Ow.own 112 5 e_api_Given va_1_1 a_1_1, Ow.box b_1 102 #[.int .i64 q_Id, .int .i64 q_Vlan, vq_Want, .int .i64 q_But.1, .int .i64 q_But.2], Ow.own 112 5 e_api_Given v_3 (r_8 ++ r_10)] rfl
        refine HS.call rfl (want_none) rfl (ec en_75 rfl rfl) (audit_Audit_Held_walk (fr := (Ow.box b_1 102 #[.int .i64 q_Id, .int .i64 q_Vlan, vq_Want, .int .i64 q_But.1, .int .i64 q_But.2] :: Ow.own 112 5 e_api_Given v_3 (r_8 ++ r_10) :: fr)) a_0_1 a_1_1 a_2_1 q_Id q_Vlan r_21 q_But b_2 r_2 va_1_1 vr_15 hS hL_14 hM) ?_
        rintro _ h_26 ⟨F_33, r0_1, r1_1, am_5, a_twice_5, a_all_5, vr0_1, vr1_1, v_6, rfl, hk, hS, _, hM⟩
        obtain ⟨hS, hk⟩ := hZ_11.back hk hS
        generalize (fun b => F_33 b ∧ ¬ (Ow.own 100 2 e_api_Spot vr_15 r_21).foot b) = F_34 at hS hk
        replace hK := hK.trans hk
        replace hL_x := hL_x.kp hk
        replace hL_y := hL_y.kp hk
        replace hL_q_Want := hL_q_Want.kp hk
        replace hL_5 := hL_5.kp hk
        refine HA.val (k := 11) (v := .tuple #[vr0_1, vr1_1]) rfl rfl (by kernel_rfl) (by kernel_rfl) (want_none) rfl (fun _ ⟨hL_x, hL_y, hL_q_Want, hL_5, c414, c367, c371⟩ => q_move rfl) ?_
        refine HA.val (k := 12) (v := vr0_1) rfl rfl (by kernel_rfl) (by kernel_rfl) (want_none) rfl (fun _ ⟨hL_x, hL_y, hL_q_Want, hL_5, c414, c367, c371⟩ => q_extract rfl rfl) ?_
        refine HA.val (k := 13) (v := vr1_1) rfl rfl (by kernel_rfl) (by kernel_rfl) (want_none) rfl (fun _ ⟨hL_x, hL_y, hL_q_Want, hL_5, c414, c367, c371⟩ => q_extract rfl rfl) ?_
        refine HA.val (k := 14) (v := vr0_1) rfl rfl (by kernel_rfl) (by kernel_rfl) (want_none) rfl (fun _ ⟨hL_x, hL_y, hL_q_Want, hL_5, c414, c367, c371⟩ => q_assign rfl) ?_
        refine HA.val (k := 15) (v := vr1_1) rfl rfl (by kernel_rfl) (by kernel_rfl) (want_none) rfl (fun _ ⟨hL_x, hL_y, hL_q_Want, hL_5, c414, c367, c371⟩ => q_assign rfl) ?_
        refine HA.nil ⟨⟨hL_x.is, hL_y.is, hL_q_Want.is, hL_5.is, (hS.own 0 rfl), (hS.box 6 rfl), (hS.own 7 rfl)⟩, (at_done (by kernel_rfl) (Go.Wk.at_nil _ _))⟩ (by kernel_rfl) (thenQ_normal (?_))
        refine HW.seq ?_
        refine HW.regionA 16 mixed (fun h => (SliceIs h 5 e_api_Given vx x) ∧ (SliceIs h 5 e_api_Given vy y) ∧ (SliceIs h 2 e_api_Spot vq_Want q_Want) ∧ (SliceIs h 1 encI vids_1 ids_1) ∧ (OwnIs h 0 100 2 e_api_Spot vr_15 r_21) ∧ (OwnIs h 0 100 2 e_api_Spot vr0_1 r0_1) ∧ (OwnIs h 0 100 2 e_api_Spot vr1_1 r1_1) ∧ (Blk h b_2 (.cells #[.map (some r_2), v_6, .int .i64 a_all_5] 151 (0, 0))) ∧ (MapIs h r_2 (fun (x : Int × Int × Int × Int) => .agg #[.int .i64 x.1, .int .i64 x.2.1, .int .i64 x.2.2.1, .int .i64 x.2.2.2]) kI am_5) ∧ (OwnIs h 0 112 5 e_api_Given v_6 a_twice_5) ∧ (Blk h b_1 (.cells #[.int .i64 q_Id, .int .i64 q_Vlan, vq_Want, .int .i64 q_But.1, .int .i64 q_But.2] 102 (0, 0)))) [(10, fun h => (OwnIs h 0 112 5 e_api_Given v_3 (r_8 ++ r_10)))] (by kernel_rfl) ?_
        refine HA.val (k := 0) (v := v_3) rfl rfl (by kernel_rfl) (by kernel_rfl) (want_none) rfl (fun _ ⟨hL_x, hL_y, hL_q_Want, hL_5, c414, c432, c433, c368, c369, c370, c367⟩ => q_move rfl) ?_
        refine HA.val (k := 1) (v := .pointer (some ⟨b_1, 0, none⟩)) rfl rfl (by kernel_rfl) (by kernel_rfl) (want_none) rfl (fun _ ⟨hL_x, hL_y, hL_q_Want, hL_5, c414, c432, c433, c368, c369, c370, c367⟩ => q_fieldAddr fa_102_0 rfl rfl) ?_
        refine HA.val (k := 2) (v := .int .i64 q_Id) rfl rfl (by kernel_rfl) (by kernel_rfl) (want_none) rfl (fun _ ⟨hL_x, hL_y, hL_q_Want, hL_5, c414, c432, c433, c368, c369, c370, c367⟩ => q_load to_3 rfl (Blk.cell c367 rfl)) ?_
        refine HA.val (k := 3) (v := .pointer (some ⟨b_1, 1, none⟩)) rfl rfl (by kernel_rfl) (by kernel_rfl) (want_none) rfl (fun _ ⟨hL_x, hL_y, hL_q_Want, hL_5, c414, c432, c433, c368, c369, c370, c367⟩ => q_fieldAddr fa_102_1 rfl rfl) ?_
        refine HA.val (k := 4) (v := .int .i64 q_Vlan) rfl rfl (by kernel_rfl) (by kernel_rfl) (want_none) rfl (fun _ ⟨hL_x, hL_y, hL_q_Want, hL_5, c414, c432, c433, c368, c369, c370, c367⟩ => q_load to_3 rfl (Blk.cell c367 rfl)) ?_
        refine HA.val (k := 5) (v := .pointer (some ⟨b_1, 2, none⟩)) rfl rfl (by kernel_rfl) (by kernel_rfl) (want_none) rfl (fun _ ⟨hL_x, hL_y, hL_q_Want, hL_5, c414, c432, c433, c368, c369, c370, c367⟩ => q_fieldAddr fa_102_2 rfl rfl) ?_
        refine HA.val (k := 6) (v := vq_Want) rfl rfl (by kernel_rfl) (by kernel_rfl) (want_none) rfl (fun _ ⟨hL_x, hL_y, hL_q_Want, hL_5, c414, c432, c433, c368, c369, c370, c367⟩ => q_load to_98 rfl (Blk.cell c367 rfl)) ?_
        refine HA.val (k := 8) (v := .pointer (some ⟨b_1, 3, none⟩)) rfl rfl (by kernel_rfl) (by kernel_rfl) (want_none) rfl (fun _ ⟨hL_x, hL_y, hL_q_Want, hL_5, c414, c432, c433, c368, c369, c370, c367⟩ => q_fieldAddr fa_102_3 rfl rfl) ?_
        refine HA.val (k := 9) (v := .agg #[.int .i64 q_But.1, .int .i64 q_But.2]) rfl rfl (by kernel_rfl) (by kernel_rfl) (want_none) rfl (fun _ ⟨hL_x, hL_y, hL_q_Want, hL_5, c414, c432, c433, c368, c369, c370, c367⟩ => q_loadAgg (cs := [.int .i64 q_But.1, .int .i64 q_But.2]) ta_100 rfl rfl (Blk.cells (k := 2) c367 rfl)) ?_
        refine HA.one (k := 7) ⟨⟨hL_x.is, hL_y.is, hL_q_Want.is, hL_5.is, (hS.own 0 rfl), (hS.own 1 rfl), (hS.own 2 rfl), (hS.box 3 rfl), (hS.mp 4 rfl), (hS.own 5 rfl), (hS.box 6 rfl)⟩, (at_now (hS.own 7 rfl) (Go.Wk.at_nil _ _))⟩ (by kernel_rfl) ?_
        refine HS.call rfl (want_none) rfl (ec en_76 rfl rfl) (law44_own_walk (fr := (Ow.own 100 2 e_api_Spot vr_15 r_21 :: Ow.own 100 2 e_api_Spot vr0_1 r0_1 :: Ow.own 100 2 e_api_Spot vr1_1 r1_1 :: Ow.box b_2 151 #[.map (some r_2), v_6, .int .i64 a_all_5] :: Ow.map r_2 (fun (x : Int × Int × Int × Int) => .agg #[.int .i64 x.1, .int .i64 x.2.1, .int .i64 x.2.2.1, .int .i64 x.2.2.2]) kI am_5 :: Ow.own 112 5 e_api_Given v_6 a_twice_5 :: Ow.box b_1 102 #[.int .i64 q_Id, .int .i64 q_Vlan, vq_Want, .int .i64 q_But.1, .int .i64 q_But.2] :: Ow.own 112 5 e_api_Given v_3 (r_8 ++ r_10) :: fr)) q_Want vq_Want hS hL_q_Want hM) ?_
        rintro vr_16 h_27 ⟨F_35, r_22, _, rfl, hk, hS, _, hM⟩
        replace hK := hK.trans hk
        replace hL_x := hL_x.kp hk
        replace hL_y := hL_y.kp hk
        replace hL_q_Want := hL_q_Want.kp hk
        replace hL_5 := hL_5.kp hk
        refine Go.Wk.HA.re (fun h => (SliceIs h 5 e_api_Given vx x) ∧ (SliceIs h 5 e_api_Given vy y) ∧ (SliceIs h 2 e_api_Spot vq_Want q_Want) ∧ (SliceIs h 1 encI vids_1 ids_1) ∧ (OwnIs h 0 100 2 e_api_Spot vr_15 r_21) ∧ (OwnIs h 0 100 2 e_api_Spot vr0_1 r0_1) ∧ (OwnIs h 0 100 2 e_api_Spot vr1_1 r1_1) ∧ (Blk h b_2 (.cells #[.map (some r_2), v_6, .int .i64 a_all_5] 151 (0, 0))) ∧ (MapIs h r_2 (fun (x : Int × Int × Int × Int) => .agg #[.int .i64 x.1, .int .i64 x.2.1, .int .i64 x.2.2.1, .int .i64 x.2.2.2]) kI am_5) ∧ (OwnIs h 0 112 5 e_api_Given v_6 a_twice_5) ∧ (Blk h b_1 (.cells #[.int .i64 q_Id, .int .i64 q_Vlan, vq_Want, .int .i64 q_But.1, .int .i64 q_But.2] 102 (0, 0)))) [(10, fun h => (OwnIs h 0 100 2 e_api_Spot vr_16 r_22) ∧ (OwnIs h 0 112 5 e_api_Given v_3 (r_8 ++ r_10)))] (fun L_ h_ hL_ ⟨hL_x, hL_y, hL_q_Want, hL_5, c414, c432, c433, c368, c369, c370, c367⟩ hs_ => ⟨⟨hL_x, hL_y, hL_q_Want, hL_5, c414, c432, c433, c368, c369, c370, c367⟩, (at_keep 0 rfl hs_ (fun ⟨c516, c371⟩ => c371) (Go.Wk.at_nil _ _))⟩) ?_
        refine HA.one (k := 10) ⟨⟨hL_x.is, hL_y.is, hL_q_Want.is, hL_5.is, (hS.own 1 rfl), (hS.own 2 rfl), (hS.own 3 rfl), (hS.box 4 rfl), (hS.mp 5 rfl), (hS.own 6 rfl), (hS.box 7 rfl)⟩, (at_now ⟨(hS.own 0 rfl), (hS.own 8 rfl)⟩ (Go.Wk.at_nil _ _))⟩ (by kernel_rfl) ?_
        replace hS : St F_35 (Ow.own 112 5 e_api_Given v_3 (r_8 ++ r_10) :: Ow.own 100 2 e_api_Spot vr_16 r_22 :: Ow.own 100 2 e_api_Spot vr_15 r_21 :: Ow.own 100 2 e_api_Spot vr0_1 r0_1 :: Ow.own 100 2 e_api_Spot vr1_1 r1_1 :: Ow.box b_2 151 #[.map (some r_2), v_6, .int .i64 a_all_5] :: Ow.map r_2 (fun (x : Int × Int × Int × Int) => .agg #[.int .i64 x.1, .int .i64 x.2.1, .int .i64 x.2.2.1, .int .i64 x.2.2.2]) kI am_5 :: Ow.own 112 5 e_api_Given v_6 a_twice_5 :: Ow.box b_1 102 #[.int .i64 q_Id, .int .i64 q_Vlan, vq_Want, .int .i64 q_But.1, .int .i64 q_But.2] :: fr) h_27 := St.perm (front := [Ow.own 100 2 e_api_Spot vr_16 r_22, Ow.own 100 2 e_api_Spot vr_15 r_21, Ow.own 100 2 e_api_Spot vr0_1 r0_1, Ow.own 100 2 e_api_Spot vr1_1 r1_1, Ow.box b_2 151 #[.map (some r_2), v_6, .int .i64 a_all_5], Ow.map r_2 (fun (x : Int × Int × Int × Int) => .agg #[.int .i64 x.1, .int .i64 x.2.1, .int .i64 x.2.2.1, .int .i64 x.2.2.2]) kI am_5, Ow.own 112 5 e_api_Given v_6 a_twice_5, Ow.box b_1 102 #[.int .i64 q_Id, .int .i64 q_Vlan, vq_Want, .int .i64 q_But.1, .int .i64 q_But.2], Ow.own 112 5 e_api_Given v_3 (r_8 ++ r_10)]) (fr := fr) hS [8, 0, 1, 2, 3, 4, 5, 6, 7] 9 rfl (by decide) [Ow.own 112 5 e_api_Given v_3 (r_8 ++ r_10), Ow.own 100 2 e_api_Spot vr_16 r_22, Ow.own 100 2 e_api_Spot vr_15 r_21, Ow.own 100 2 e_api_Spot vr0_1 r0_1, Ow.own 100 2 e_api_Spot vr1_1 r1_1, Ow.box b_2 151 #[.map (some r_2), v_6, .int .i64 a_all_5], Ow.map r_2 (fun (x : Int × Int × Int × Int) => .agg #[.int .i64 x.1, .int .i64 x.2.1, .int .i64 x.2.2.1, .int .i64 x.2.2.2]) kI am_5, Ow.own 112 5 e_api_Given v_6 a_twice_5, Ow.box b_1 102 #[.int .i64 q_Id, .int .i64 q_Vlan, vq_Want, .int .i64 q_But.1, .int .i64 q_But.2]] rfl
        obtain ⟨F_36, hS, hk, hL_15⟩ := hS.freezeOwn
        replace hK := hK.trans hk
        replace hL_x := hL_x.kp hk
        replace hL_y := hL_y.kp hk
        replace hL_q_Want := hL_q_Want.kp hk
        replace hL_5 := hL_5.kp hk
        obtain ⟨F_37, hS, hk, hL_16⟩ := hS.freezeOwn
        replace hK := hK.trans hk
        replace hL_x := hL_x.kp hk
        replace hL_y := hL_y.kp hk
        replace hL_q_Want := hL_q_Want.kp hk
        replace hL_5 := hL_5.kp hk
        replace hL_15 := hL_15.kp hk
        refine HS.call rfl (want_none) rfl (ec en_86 rfl rfl) (ref44_Held_walk (fr := (Ow.own 100 2 e_api_Spot vr_15 r_21 :: Ow.own 100 2 e_api_Spot vr0_1 r0_1 :: Ow.own 100 2 e_api_Spot vr1_1 r1_1 :: Ow.box b_2 151 #[.map (some r_2), v_6, .int .i64 a_all_5] :: Ow.map r_2 (fun (x : Int × Int × Int × Int) => .agg #[.int .i64 x.1, .int .i64 x.2.1, .int .i64 x.2.2.1, .int .i64 x.2.2.2]) kI am_5 :: Ow.own 112 5 e_api_Given v_6 a_twice_5 :: Ow.box b_1 102 #[.int .i64 q_Id, .int .i64 q_Vlan, vq_Want, .int .i64 q_But.1, .int .i64 q_But.2] :: fr)) (r_8 ++ r_10) q_Id q_Vlan r_22 q_But v_3 vr_16 hS hL_15 hL_16 hM) ?_
        rintro _ h_28 ⟨F_38, r0_2, r1_2, vr0_2, vr1_2, rfl, hk, hS, _, _, hL_17, hL_18, hM⟩
        replace hK := hK.trans hk
        replace hL_x := hL_x.kp hk
        replace hL_y := hL_y.kp hk
        replace hL_q_Want := hL_q_Want.kp hk
        replace hL_5 := hL_5.kp hk
        replace hL_15 := hL_15.kp hk
        replace hL_16 := hL_16.kp hk
        refine HA.val (k := 11) (v := .tuple #[vr0_2, vr1_2]) rfl rfl (by kernel_rfl) (by kernel_rfl) (want_none) rfl (fun _ ⟨hL_x, hL_y, hL_q_Want, hL_5, c414, c432, c433, c368, c369, c370, c367⟩ => q_move rfl) ?_
        refine HA.val (k := 12) (v := vr0_2) rfl rfl (by kernel_rfl) (by kernel_rfl) (want_none) rfl (fun _ ⟨hL_x, hL_y, hL_q_Want, hL_5, c414, c432, c433, c368, c369, c370, c367⟩ => q_extract rfl rfl) ?_
        refine HA.val (k := 13) (v := vr1_2) rfl rfl (by kernel_rfl) (by kernel_rfl) (want_none) rfl (fun _ ⟨hL_x, hL_y, hL_q_Want, hL_5, c414, c432, c433, c368, c369, c370, c367⟩ => q_extract rfl rfl) ?_
        refine HA.val (k := 14) (v := vr0_2) rfl rfl (by kernel_rfl) (by kernel_rfl) (want_none) rfl (fun _ ⟨hL_x, hL_y, hL_q_Want, hL_5, c414, c432, c433, c368, c369, c370, c367⟩ => q_assign rfl) ?_
        refine HA.val (k := 15) (v := vr1_2) rfl rfl (by kernel_rfl) (by kernel_rfl) (want_none) rfl (fun _ ⟨hL_x, hL_y, hL_q_Want, hL_5, c414, c432, c433, c368, c369, c370, c367⟩ => q_assign rfl) ?_
        refine HA.nil ⟨⟨hL_x.is, hL_y.is, hL_q_Want.is, hL_5.is, (hS.own 0 rfl), (hS.own 1 rfl), (hS.own 2 rfl), (hS.box 3 rfl), (hS.mp 4 rfl), (hS.own 5 rfl), (hS.box 6 rfl)⟩, (at_done (by kernel_rfl) (Go.Wk.at_nil _ _))⟩ (by kernel_rfl) (thenQ_normal (?_))
        refine HW.seq ?_
        refine HW.seq_mid (fun f h => ∃ (F' : Fz) (a_0_2 : List ((Int × Int × Int × Int) × Int)) (a_1_2 : List (Int × Int × Int × Int × Str)) (a_2_2 : Int) (b_5 : Bool) (va_1_2 : Value), f 6 = .bool false ∧ f 7 = .pointer (some ⟨b_2, 0, none⟩) ∧ f 10 = v_3 ∧ f 144 = .bool b_5 ∧ Kp F h0 F' h ∧ St F' (Ow.box b_2 151 #[.map (some r_2), va_1_2, .int .i64 a_2_2] :: Ow.map r_2 (fun (x : Int × Int × Int × Int) => .agg #[.int .i64 x.1, .int .i64 x.2.1, .int .i64 x.2.2.1, .int .i64 x.2.2.2]) kI a_0_2 :: Ow.own 112 5 e_api_Given va_1_2 a_1_2 :: fr) h ∧ (SliceF F' h 5 e_api_Given vx x) ∧ (SliceF F' h 5 e_api_Given vy y) ∧ (SliceF F' h 2 e_api_Spot vq_Want q_Want) ∧ (SliceF F' h 1 encI vids_1 ids_1) ∧ (SliceF F' h 5 e_api_Given v_3 (r_8 ++ r_10)) ∧ (SliceF F' h 2 e_api_Spot vr_16 r_22) ∧ (SliceF F' h 2 e_api_Spot vr0_2 r0_2) ∧ (SliceF F' h 2 e_api_Spot vr1_2 r1_2) ∧ law44_AuditTells_j2 Q r_8 r_10 a_0_2 a_1_2 a_2_2 b_5) ?_ ?_
        · refine HW.regionA 41 mixed (fun h => (SliceIs h 5 e_api_Given vx x) ∧ (SliceIs h 5 e_api_Given vy y) ∧ (SliceIs h 2 e_api_Spot vq_Want q_Want) ∧ (SliceIs h 1 encI vids_1 ids_1) ∧ (SliceIs h 5 e_api_Given v_3 (r_8 ++ r_10)) ∧ (SliceIs h 2 e_api_Spot vr_16 r_22) ∧ (SliceIs h 2 e_api_Spot vr0_2 r0_2) ∧ (SliceIs h 2 e_api_Spot vr1_2 r1_2) ∧ (OwnIs h 0 100 2 e_api_Spot vr_15 r_21) ∧ (OwnIs h 0 100 2 e_api_Spot vr0_1 r0_1) ∧ (OwnIs h 0 100 2 e_api_Spot vr1_1 r1_1) ∧ (Blk h b_1 (.cells #[.int .i64 q_Id, .int .i64 q_Vlan, vq_Want, .int .i64 q_But.1, .int .i64 q_But.2] 102 (0, 0)))) [(18, fun h => (Blk h b_2 (.cells #[.map (some r_2), v_6, .int .i64 a_all_5] 151 (0, 0))) ∧ (MapIs h r_2 (fun (x : Int × Int × Int × Int) => .agg #[.int .i64 x.1, .int .i64 x.2.1, .int .i64 x.2.2.1, .int .i64 x.2.2.2]) kI am_5) ∧ (OwnIs h 0 112 5 e_api_Given v_6 a_twice_5))] (by kernel_rfl) ?_
          refine HA.val (k := 0) (v := vr0_1) rfl rfl (by kernel_rfl) (by kernel_rfl) (want_none) rfl (fun _ ⟨hL_x, hL_y, hL_q_Want, hL_5, hL_15, hL_16, hL_17, hL_18, c414, c432, c433, c367⟩ => q_move rfl) ?_
          refine HA.val (k := 1) (v := vr0_2) rfl rfl (by kernel_rfl) (by kernel_rfl) (want_none) rfl (fun _ ⟨hL_x, hL_y, hL_q_Want, hL_5, hL_15, hL_16, hL_17, hL_18, c414, c432, c433, c367⟩ => q_move rfl) ?_
          refine HA.one (k := 2) ⟨⟨hL_x.is, hL_y.is, hL_q_Want.is, hL_5.is, hL_15.is, hL_16.is, hL_17.is, hL_18.is, (hS.own 0 rfl), (hS.own 1 rfl), (hS.own 2 rfl), (hS.box 6 rfl)⟩, (at_now ⟨(hS.box 3 rfl), (hS.mp 4 rfl), (hS.own 5 rfl)⟩ (Go.Wk.at_nil _ _))⟩ (by kernel_rfl) ?_
          replace hS : St F_38 (Ow.own 100 2 e_api_Spot vr0_1 r0_1 :: Ow.own 100 2 e_api_Spot vr_15 r_21 :: Ow.own 100 2 e_api_Spot vr1_1 r1_1 :: Ow.box b_2 151 #[.map (some r_2), v_6, .int .i64 a_all_5] :: Ow.map r_2 (fun (x : Int × Int × Int × Int) => .agg #[.int .i64 x.1, .int .i64 x.2.1, .int .i64 x.2.2.1, .int .i64 x.2.2.2]) kI am_5 :: Ow.own 112 5 e_api_Given v_6 a_twice_5 :: Ow.box b_1 102 #[.int .i64 q_Id, .int .i64 q_Vlan, vq_Want, .int .i64 q_But.1, .int .i64 q_But.2] :: fr) h_28 := St.perm (front := [Ow.own 100 2 e_api_Spot vr_15 r_21, Ow.own 100 2 e_api_Spot vr0_1 r0_1, Ow.own 100 2 e_api_Spot vr1_1 r1_1, Ow.box b_2 151 #[.map (some r_2), v_6, .int .i64 a_all_5], Ow.map r_2 (fun (x : Int × Int × Int × Int) => .agg #[.int .i64 x.1, .int .i64 x.2.1, .int .i64 x.2.2.1, .int .i64 x.2.2.2]) kI am_5, Ow.own 112 5 e_api_Given v_6 a_twice_5, Ow.box b_1 102 #[.int .i64 q_Id, .int .i64 q_Vlan, vq_Want, .int .i64 q_But.1, .int .i64 q_But.2]]) (fr := fr) hS [1, 0, 2, 3, 4, 5, 6] 7 rfl (by decide) [Ow.own 100 2 e_api_Spot vr0_1 r0_1, Ow.own 100 2 e_api_Spot vr_15 r_21, Ow.own 100 2 e_api_Spot vr1_1 r1_1, Ow.box b_2 151 #[.map (some r_2), v_6, .int .i64 a_all_5], Ow.map r_2 (fun (x : Int × Int × Int × Int) => .agg #[.int .i64 x.1, .int .i64 x.2.1, .int .i64 x.2.2.1, .int .i64 x.2.2.2]) kI am_5, Ow.own 112 5 e_api_Given v_6 a_twice_5, Ow.box b_1 102 #[.int .i64 q_Id, .int .i64 q_Vlan, vq_Want, .int .i64 q_But.1, .int .i64 q_But.2]] rfl
          have hZ_12 := hS
          have hkz_12 := (hS.freeze).2
          replace hS := hS.freeze.1
          have hL_19 : SliceF (fun b => F_38 b ∨ (Ow.own 100 2 e_api_Spot vr0_1 r0_1).foot b) h_28 2 e_api_Spot vr0_1 r0_1 := ⟨(hZ_12.own 0 rfl).slice, fun _ b hb => .inr hb⟩
          refine HS.call rfl (want_none) rfl (ec en_87 rfl rfl) (ref44_Same_walk (fr := (Ow.own 100 2 e_api_Spot vr_15 r_21 :: Ow.own 100 2 e_api_Spot vr1_1 r1_1 :: Ow.box b_2 151 #[.map (some r_2), v_6, .int .i64 a_all_5] :: Ow.map r_2 (fun (x : Int × Int × Int × Int) => .agg #[.int .i64 x.1, .int .i64 x.2.1, .int .i64 x.2.2.1, .int .i64 x.2.2.2]) kI am_5 :: Ow.own 112 5 e_api_Given v_6 a_twice_5 :: Ow.box b_1 102 #[.int .i64 q_Id, .int .i64 q_Vlan, vq_Want, .int .i64 q_But.1, .int .i64 q_But.2] :: fr)) r0_1 r0_2 vr0_1 vr0_2 hS hL_19 (hL_17.kp hkz_12) hM) ?_
          rintro _ h_29 ⟨F_39, r_23, rfl, hk, hS, _, _, hM⟩
          obtain ⟨hS, hk⟩ := hZ_12.back hk hS
          generalize (fun b => F_39 b ∧ ¬ (Ow.own 100 2 e_api_Spot vr0_1 r0_1).foot b) = F_40 at hS hk
          replace hK := hK.trans hk
          replace hL_x := hL_x.kp hk
          replace hL_y := hL_y.kp hk
          replace hL_q_Want := hL_q_Want.kp hk
          replace hL_5 := hL_5.kp hk
          replace hL_15 := hL_15.kp hk
          replace hL_16 := hL_16.kp hk
          replace hL_17 := hL_17.kp hk
          replace hL_18 := hL_18.kp hk
          refine HA.val (k := 3) (v := .bool (!r_23)) rfl rfl (by kernel_rfl) (by kernel_rfl) (want_none) rfl (fun _ ⟨hL_x, hL_y, hL_q_Want, hL_5, hL_15, hL_16, hL_17, hL_18, c414, c432, c433, c367⟩ => q_not rfl) ?_
          refine HA.val (k := 4) (v := .bool (!r_23)) rfl rfl (by kernel_rfl) (by kernel_rfl) (want_none) rfl (fun _ ⟨hL_x, hL_y, hL_q_Want, hL_5, hL_15, hL_16, hL_17, hL_18, c414, c432, c433, c367⟩ => q_move rfl) ?_
          rcases Bool.eq_false_or_eq_true (!r_23) with c_6 | c_6
          · replace hM := hM.1 c_6
            refine HA.past (k := 5) rfl rfl (by kernel_rfl) (by kernel_rfl) (past_by rfl rfl c_6) rfl ?_
            refine HA.past (k := 6) rfl rfl (by kernel_rfl) (by kernel_rfl) (past_by rfl rfl c_6) rfl ?_
            refine HA.one (k := 7) ⟨⟨hL_x.is, hL_y.is, hL_q_Want.is, hL_5.is, hL_15.is, hL_16.is, hL_17.is, hL_18.is, (hS.own 1 rfl), (hS.own 0 rfl), (hS.own 2 rfl), (hS.box 6 rfl)⟩, (at_now ⟨(hS.box 3 rfl), (hS.mp 4 rfl), (hS.own 5 rfl)⟩ (Go.Wk.at_nil _ _))⟩ (by kernel_rfl) ?_
            refine HS.past rfl (past_by rfl rfl c_6) rfl ?_
            refine HA.past (k := 8) rfl rfl (by kernel_rfl) (by kernel_rfl) (past_by rfl rfl c_6) rfl ?_
            refine HA.val (k := 9) (v := .bool true) rfl rfl (by kernel_rfl) (by kernel_rfl) (want_none) rfl (fun _ ⟨hL_x, hL_y, hL_q_Want, hL_5, hL_15, hL_16, hL_17, hL_18, c414, c432, c433, c367⟩ => q_pickK true rfl c_6 rfl) ?_
            refine HA.val (k := 10) (v := .bool true) rfl rfl (by kernel_rfl) (by kernel_rfl) (want_none) rfl (fun _ ⟨hL_x, hL_y, hL_q_Want, hL_5, hL_15, hL_16, hL_17, hL_18, c414, c432, c433, c367⟩ => q_move rfl) ?_
            refine HA.past (k := 11) rfl rfl (by kernel_rfl) (by kernel_rfl) (past_some rfl rfl) rfl ?_
            refine HA.past (k := 12) rfl rfl (by kernel_rfl) (by kernel_rfl) (past_some rfl rfl) rfl ?_
            refine HA.past (k := 13) rfl rfl (by kernel_rfl) (by kernel_rfl) (past_some rfl rfl) rfl ?_
            refine HA.past (k := 14) rfl rfl (by kernel_rfl) (by kernel_rfl) (past_some rfl rfl) rfl ?_
            refine HA.past (k := 15) rfl rfl (by kernel_rfl) (by kernel_rfl) (past_some rfl rfl) rfl ?_
            refine HA.past (k := 16) rfl rfl (by kernel_rfl) (by kernel_rfl) (past_some rfl rfl) rfl ?_
            refine HA.past (k := 17) rfl rfl (by kernel_rfl) (by kernel_rfl) (past_some rfl rfl) rfl ?_
            refine HA.past (k := 19) rfl rfl (by kernel_rfl) (by kernel_rfl) (past_some rfl rfl) rfl ?_
            refine HA.past (k := 20) rfl rfl (by kernel_rfl) (by kernel_rfl) (past_some rfl rfl) rfl ?_
            refine HA.past (k := 21) rfl rfl (by kernel_rfl) (by kernel_rfl) (past_some rfl rfl) rfl ?_
            refine HA.past (k := 22) rfl rfl (by kernel_rfl) (by kernel_rfl) (past_some rfl rfl) rfl ?_
            refine HA.past (k := 23) rfl rfl (by kernel_rfl) (by kernel_rfl) (past_some rfl rfl) rfl ?_
            refine HA.past (k := 24) rfl rfl (by kernel_rfl) (by kernel_rfl) (past_some rfl rfl) rfl ?_
            refine HA.past (k := 25) rfl rfl (by kernel_rfl) (by kernel_rfl) (past_some rfl rfl) rfl ?_
            refine HA.one (k := 18) ⟨⟨hL_x.is, hL_y.is, hL_q_Want.is, hL_5.is, hL_15.is, hL_16.is, hL_17.is, hL_18.is, (hS.own 1 rfl), (hS.own 0 rfl), (hS.own 2 rfl), (hS.box 6 rfl)⟩, (at_now ⟨(hS.box 3 rfl), (hS.mp 4 rfl), (hS.own 5 rfl)⟩ (Go.Wk.at_nil _ _))⟩ (by kernel_rfl) ?_
            refine HS.past rfl (past_some rfl rfl) rfl ?_
            refine HA.one (k := 26) ⟨⟨hL_x.is, hL_y.is, hL_q_Want.is, hL_5.is, hL_15.is, hL_16.is, hL_17.is, hL_18.is, (hS.own 1 rfl), (hS.own 0 rfl), (hS.own 2 rfl), (hS.box 6 rfl)⟩, (at_done (by kernel_rfl) (Go.Wk.at_nil _ _))⟩ (by kernel_rfl) ?_
            refine HS.past rfl (past_some rfl rfl) rfl ?_
            refine HA.past (k := 27) rfl rfl (by kernel_rfl) (by kernel_rfl) (past_some rfl rfl) rfl ?_
            refine HA.val (k := 28) (v := .bool true) rfl rfl (by kernel_rfl) (by kernel_rfl) (want_none) rfl (fun _ ⟨hL_x, hL_y, hL_q_Want, hL_5, hL_15, hL_16, hL_17, hL_18, c414, c432, c433, c367⟩ => q_pick rfl rfl) ?_
            refine HA.val (k := 29) (v := .bool true) rfl rfl (by kernel_rfl) (by kernel_rfl) (want_none) rfl (fun _ ⟨hL_x, hL_y, hL_q_Want, hL_5, hL_15, hL_16, hL_17, hL_18, c414, c432, c433, c367⟩ => q_move rfl) ?_
            refine HA.past (k := 30) rfl rfl (by kernel_rfl) (by kernel_rfl) (past_some rfl rfl) rfl ?_
            refine HA.past (k := 31) rfl rfl (by kernel_rfl) (by kernel_rfl) (past_some rfl rfl) rfl ?_
            refine HA.past (k := 32) rfl rfl (by kernel_rfl) (by kernel_rfl) (past_some rfl rfl) rfl ?_
            refine HA.past (k := 34) rfl rfl (by kernel_rfl) (by kernel_rfl) (past_some rfl rfl) rfl ?_
            refine HA.past (k := 35) rfl rfl (by kernel_rfl) (by kernel_rfl) (past_some rfl rfl) rfl ?_
            refine HA.past (k := 36) rfl rfl (by kernel_rfl) (by kernel_rfl) (past_some rfl rfl) rfl ?_
            refine HA.one (k := 33) ⟨⟨hL_x.is, hL_y.is, hL_q_Want.is, hL_5.is, hL_15.is, hL_16.is, hL_17.is, hL_18.is, (hS.own 1 rfl), (hS.own 0 rfl), (hS.own 2 rfl), (hS.box 6 rfl)⟩, (at_done (by kernel_rfl) (Go.Wk.at_nil _ _))⟩ (by kernel_rfl) ?_
            refine HS.past rfl (past_some rfl rfl) rfl ?_
            refine HA.one (k := 37) ⟨⟨hL_x.is, hL_y.is, hL_q_Want.is, hL_5.is, hL_15.is, hL_16.is, hL_17.is, hL_18.is, (hS.own 1 rfl), (hS.own 0 rfl), (hS.own 2 rfl), (hS.box 6 rfl)⟩, (at_done (by kernel_rfl) (Go.Wk.at_nil _ _))⟩ (by kernel_rfl) ?_
            refine HS.past rfl (past_some rfl rfl) rfl ?_
            refine HA.one (k := 38) ⟨⟨hL_x.is, hL_y.is, hL_q_Want.is, hL_5.is, hL_15.is, hL_16.is, hL_17.is, hL_18.is, (hS.own 1 rfl), (hS.own 0 rfl), (hS.own 2 rfl), (hS.box 6 rfl)⟩, (at_done (by kernel_rfl) (Go.Wk.at_nil _ _))⟩ (by kernel_rfl) ?_
            refine HS.past rfl (past_some rfl rfl) rfl ?_
            refine HA.past (k := 39) rfl rfl (by kernel_rfl) (by kernel_rfl) (past_some rfl rfl) rfl ?_
            refine HA.val (k := 40) (v := .bool true) rfl rfl (by kernel_rfl) (by kernel_rfl) (want_none) rfl (fun _ ⟨hL_x, hL_y, hL_q_Want, hL_5, hL_15, hL_16, hL_17, hL_18, c414, c432, c433, c367⟩ => q_pick rfl rfl) ?_
            refine HA.nil ⟨⟨hL_x.is, hL_y.is, hL_q_Want.is, hL_5.is, hL_15.is, hL_16.is, hL_17.is, hL_18.is, (hS.own 1 rfl), (hS.own 0 rfl), (hS.own 2 rfl), (hS.box 6 rfl)⟩, (at_done (by kernel_rfl) (Go.Wk.at_nil _ _))⟩ (by kernel_rfl) (thenQ_normal (?_))
            replace hS : St F_40 (Ow.box b_2 151 #[.map (some r_2), v_6, .int .i64 a_all_5] :: Ow.map r_2 (fun (x : Int × Int × Int × Int) => .agg #[.int .i64 x.1, .int .i64 x.2.1, .int .i64 x.2.2.1, .int .i64 x.2.2.2]) kI am_5 :: Ow.own 112 5 e_api_Given v_6 a_twice_5 :: fr) h_29 := St.perm (front := [Ow.own 100 2 e_api_Spot vr0_1 r0_1, Ow.own 100 2 e_api_Spot vr_15 r_21, Ow.own 100 2 e_api_Spot vr1_1 r1_1, Ow.box b_2 151 #[.map (some r_2), v_6, .int .i64 a_all_5], Ow.map r_2 (fun (x : Int × Int × Int × Int) => .agg #[.int .i64 x.1, .int .i64 x.2.1, .int .i64 x.2.2.1, .int .i64 x.2.2.2]) kI am_5, Ow.own 112 5 e_api_Given v_6 a_twice_5, Ow.box b_1 102 #[.int .i64 q_Id, .int .i64 q_Vlan, vq_Want, .int .i64 q_But.1, .int .i64 q_But.2]]) (fr := fr) hS [3, 4, 5] 7 rfl (by decide) [Ow.box b_2 151 #[.map (some r_2), v_6, .int .i64 a_all_5], Ow.map r_2 (fun (x : Int × Int × Int × Int) => .agg #[.int .i64 x.1, .int .i64 x.2.1, .int .i64 x.2.2.1, .int .i64 x.2.2.2]) kI am_5, Ow.own 112 5 e_api_Given v_6 a_twice_5] rfl
            exact ⟨F_40, am_5, a_twice_5, a_all_5, true, v_6, rfl, rfl, rfl, rfl, hK, hS, hL_x, hL_y, hL_q_Want, hL_5, hL_15, hL_16, hL_17, hL_18, hM⟩
          · replace hM := hM.2 c_6
            refine HA.val (k := 5) (v := vr1_1) rfl rfl (by kernel_rfl) (by kernel_rfl) (want_by rfl rfl c_6) rfl (fun _ ⟨hL_x, hL_y, hL_q_Want, hL_5, hL_15, hL_16, hL_17, hL_18, c414, c432, c433, c367⟩ => q_move rfl) ?_
            refine HA.val (k := 6) (v := vr1_2) rfl rfl (by kernel_rfl) (by kernel_rfl) (want_by rfl rfl c_6) rfl (fun _ ⟨hL_x, hL_y, hL_q_Want, hL_5, hL_15, hL_16, hL_17, hL_18, c414, c432, c433, c367⟩ => q_move rfl) ?_
            refine HA.one (k := 7) ⟨⟨hL_x.is, hL_y.is, hL_q_Want.is, hL_5.is, hL_15.is, hL_16.is, hL_17.is, hL_18.is, (hS.own 1 rfl), (hS.own 0 rfl), (hS.own 2 rfl), (hS.box 6 rfl)⟩, (at_now ⟨(hS.box 3 rfl), (hS.mp 4 rfl), (hS.own 5 rfl)⟩ (Go.Wk.at_nil _ _))⟩ (by kernel_rfl) ?_
            replace hS : St F_40 (Ow.own 100 2 e_api_Spot vr1_1 r1_1 :: Ow.own 100 2 e_api_Spot vr0_1 r0_1 :: Ow.own 100 2 e_api_Spot vr_15 r_21 :: Ow.box b_2 151 #[.map (some r_2), v_6, .int .i64 a_all_5] :: Ow.map r_2 (fun (x : Int × Int × Int × Int) => .agg #[.int .i64 x.1, .int .i64 x.2.1, .int .i64 x.2.2.1, .int .i64 x.2.2.2]) kI am_5 :: Ow.own 112 5 e_api_Given v_6 a_twice_5 :: Ow.box b_1 102 #[.int .i64 q_Id, .int .i64 q_Vlan, vq_Want, .int .i64 q_But.1, .int .i64 q_But.2] :: fr) h_29 := St.perm (front := [Ow.own 100 2 e_api_Spot vr0_1 r0_1, Ow.own 100 2 e_api_Spot vr_15 r_21, Ow.own 100 2 e_api_Spot vr1_1 r1_1, Ow.box b_2 151 #[.map (some r_2), v_6, .int .i64 a_all_5], Ow.map r_2 (fun (x : Int × Int × Int × Int) => .agg #[.int .i64 x.1, .int .i64 x.2.1, .int .i64 x.2.2.1, .int .i64 x.2.2.2]) kI am_5, Ow.own 112 5 e_api_Given v_6 a_twice_5, Ow.box b_1 102 #[.int .i64 q_Id, .int .i64 q_Vlan, vq_Want, .int .i64 q_But.1, .int .i64 q_But.2]]) (fr := fr) hS [2, 0, 1, 3, 4, 5, 6] 7 rfl (by decide) [Ow.own 100 2 e_api_Spot vr1_1 r1_1, Ow.own 100 2 e_api_Spot vr0_1 r0_1, Ow.own 100 2 e_api_Spot vr_15 r_21, Ow.box b_2 151 #[.map (some r_2), v_6, .int .i64 a_all_5], Ow.map r_2 (fun (x : Int × Int × Int × Int) => .agg #[.int .i64 x.1, .int .i64 x.2.1, .int .i64 x.2.2.1, .int .i64 x.2.2.2]) kI am_5, Ow.own 112 5 e_api_Given v_6 a_twice_5, Ow.box b_1 102 #[.int .i64 q_Id, .int .i64 q_Vlan, vq_Want, .int .i64 q_But.1, .int .i64 q_But.2]] rfl
            have hZ_13 := hS
            have hkz_13 := (hS.freeze).2
            replace hS := hS.freeze.1
            have hL_20 : SliceF (fun b => F_40 b ∨ (Ow.own 100 2 e_api_Spot vr1_1 r1_1).foot b) h_29 2 e_api_Spot vr1_1 r1_1 := ⟨(hZ_13.own 0 rfl).slice, fun _ b hb => .inr hb⟩
            refine HS.call rfl (want_by rfl rfl c_6) rfl (ec en_87 rfl rfl) (ref44_Same_walk (fr := (Ow.own 100 2 e_api_Spot vr0_1 r0_1 :: Ow.own 100 2 e_api_Spot vr_15 r_21 :: Ow.box b_2 151 #[.map (some r_2), v_6, .int .i64 a_all_5] :: Ow.map r_2 (fun (x : Int × Int × Int × Int) => .agg #[.int .i64 x.1, .int .i64 x.2.1, .int .i64 x.2.2.1, .int .i64 x.2.2.2]) kI am_5 :: Ow.own 112 5 e_api_Given v_6 a_twice_5 :: Ow.box b_1 102 #[.int .i64 q_Id, .int .i64 q_Vlan, vq_Want, .int .i64 q_But.1, .int .i64 q_But.2] :: fr)) r1_1 r1_2 vr1_1 vr1_2 hS hL_20 (hL_18.kp hkz_13) hM) ?_
            rintro _ h_30 ⟨F_41, r_24, rfl, hk, hS, _, _, hM⟩
            obtain ⟨hS, hk⟩ := hZ_13.back hk hS
            generalize (fun b => F_41 b ∧ ¬ (Ow.own 100 2 e_api_Spot vr1_1 r1_1).foot b) = F_42 at hS hk
            replace hK := hK.trans hk
            replace hL_x := hL_x.kp hk
            replace hL_y := hL_y.kp hk
            replace hL_q_Want := hL_q_Want.kp hk
            replace hL_5 := hL_5.kp hk
            replace hL_15 := hL_15.kp hk
            replace hL_16 := hL_16.kp hk
            replace hL_17 := hL_17.kp hk
            replace hL_18 := hL_18.kp hk
            refine HA.val (k := 8) (v := .bool (!r_24)) rfl rfl (by kernel_rfl) (by kernel_rfl) (want_by rfl rfl c_6) rfl (fun _ ⟨hL_x, hL_y, hL_q_Want, hL_5, hL_15, hL_16, hL_17, hL_18, c414, c432, c433, c367⟩ => q_not rfl) ?_
            refine HA.val (k := 9) (v := .bool (!r_24)) rfl rfl (by kernel_rfl) (by kernel_rfl) (want_none) rfl (fun _ ⟨hL_x, hL_y, hL_q_Want, hL_5, hL_15, hL_16, hL_17, hL_18, c414, c432, c433, c367⟩ => q_pickK false rfl c_6 rfl) ?_
            refine HA.val (k := 10) (v := .bool (!r_24)) rfl rfl (by kernel_rfl) (by kernel_rfl) (want_none) rfl (fun _ ⟨hL_x, hL_y, hL_q_Want, hL_5, hL_15, hL_16, hL_17, hL_18, c414, c432, c433, c367⟩ => q_move rfl) ?_
            rcases Bool.eq_false_or_eq_true (!r_24) with c_7 | c_7
            · replace hM := hM.1 c_7
              refine HA.past (k := 11) rfl rfl (by kernel_rfl) (by kernel_rfl) (past_by rfl rfl c_7) rfl ?_
              refine HA.past (k := 12) rfl rfl (by kernel_rfl) (by kernel_rfl) (past_by rfl rfl c_7) rfl ?_
              refine HA.past (k := 13) rfl rfl (by kernel_rfl) (by kernel_rfl) (past_by rfl rfl c_7) rfl ?_
              refine HA.past (k := 14) rfl rfl (by kernel_rfl) (by kernel_rfl) (past_by rfl rfl c_7) rfl ?_
              refine HA.past (k := 15) rfl rfl (by kernel_rfl) (by kernel_rfl) (past_by rfl rfl c_7) rfl ?_
              refine HA.past (k := 16) rfl rfl (by kernel_rfl) (by kernel_rfl) (past_by rfl rfl c_7) rfl ?_
              refine HA.past (k := 17) rfl rfl (by kernel_rfl) (by kernel_rfl) (past_by rfl rfl c_7) rfl ?_
              refine HA.past (k := 19) rfl rfl (by kernel_rfl) (by kernel_rfl) (past_by rfl rfl c_7) rfl ?_
              refine HA.past (k := 20) rfl rfl (by kernel_rfl) (by kernel_rfl) (past_by rfl rfl c_7) rfl ?_
              refine HA.past (k := 21) rfl rfl (by kernel_rfl) (by kernel_rfl) (past_by rfl rfl c_7) rfl ?_
              refine HA.past (k := 22) rfl rfl (by kernel_rfl) (by kernel_rfl) (past_by rfl rfl c_7) rfl ?_
              refine HA.past (k := 23) rfl rfl (by kernel_rfl) (by kernel_rfl) (past_by rfl rfl c_7) rfl ?_
              refine HA.past (k := 24) rfl rfl (by kernel_rfl) (by kernel_rfl) (past_by rfl rfl c_7) rfl ?_
              refine HA.past (k := 25) rfl rfl (by kernel_rfl) (by kernel_rfl) (past_by rfl rfl c_7) rfl ?_
              refine HA.one (k := 18) ⟨⟨hL_x.is, hL_y.is, hL_q_Want.is, hL_5.is, hL_15.is, hL_16.is, hL_17.is, hL_18.is, (hS.own 2 rfl), (hS.own 1 rfl), (hS.own 0 rfl), (hS.box 6 rfl)⟩, (at_now ⟨(hS.box 3 rfl), (hS.mp 4 rfl), (hS.own 5 rfl)⟩ (Go.Wk.at_nil _ _))⟩ (by kernel_rfl) ?_
              refine HS.past rfl (past_by rfl rfl c_7) rfl ?_
              refine HA.one (k := 26) ⟨⟨hL_x.is, hL_y.is, hL_q_Want.is, hL_5.is, hL_15.is, hL_16.is, hL_17.is, hL_18.is, (hS.own 2 rfl), (hS.own 1 rfl), (hS.own 0 rfl), (hS.box 6 rfl)⟩, (at_done (by kernel_rfl) (Go.Wk.at_nil _ _))⟩ (by kernel_rfl) ?_
              refine HS.past rfl (past_by rfl rfl c_7) rfl ?_
              refine HA.past (k := 27) rfl rfl (by kernel_rfl) (by kernel_rfl) (past_by rfl rfl c_7) rfl ?_
              refine HA.val (k := 28) (v := .bool true) rfl rfl (by kernel_rfl) (by kernel_rfl) (want_none) rfl (fun _ ⟨hL_x, hL_y, hL_q_Want, hL_5, hL_15, hL_16, hL_17, hL_18, c414, c432, c433, c367⟩ => q_pickK true rfl c_7 rfl) ?_
              refine HA.val (k := 29) (v := .bool true) rfl rfl (by kernel_rfl) (by kernel_rfl) (want_none) rfl (fun _ ⟨hL_x, hL_y, hL_q_Want, hL_5, hL_15, hL_16, hL_17, hL_18, c414, c432, c433, c367⟩ => q_move rfl) ?_
              refine HA.past (k := 30) rfl rfl (by kernel_rfl) (by kernel_rfl) (past_some rfl rfl) rfl ?_
              refine HA.past (k := 31) rfl rfl (by kernel_rfl) (by kernel_rfl) (past_some rfl rfl) rfl ?_
              refine HA.past (k := 32) rfl rfl (by kernel_rfl) (by kernel_rfl) (past_some rfl rfl) rfl ?_
              refine HA.past (k := 34) rfl rfl (by kernel_rfl) (by kernel_rfl) (past_some rfl rfl) rfl ?_
              refine HA.past (k := 35) rfl rfl (by kernel_rfl) (by kernel_rfl) (past_some rfl rfl) rfl ?_
              refine HA.past (k := 36) rfl rfl (by kernel_rfl) (by kernel_rfl) (past_some rfl rfl) rfl ?_
              refine HA.one (k := 33) ⟨⟨hL_x.is, hL_y.is, hL_q_Want.is, hL_5.is, hL_15.is, hL_16.is, hL_17.is, hL_18.is, (hS.own 2 rfl), (hS.own 1 rfl), (hS.own 0 rfl), (hS.box 6 rfl)⟩, (at_done (by kernel_rfl) (Go.Wk.at_nil _ _))⟩ (by kernel_rfl) ?_
              refine HS.past rfl (past_some rfl rfl) rfl ?_
              refine HA.one (k := 37) ⟨⟨hL_x.is, hL_y.is, hL_q_Want.is, hL_5.is, hL_15.is, hL_16.is, hL_17.is, hL_18.is, (hS.own 2 rfl), (hS.own 1 rfl), (hS.own 0 rfl), (hS.box 6 rfl)⟩, (at_done (by kernel_rfl) (Go.Wk.at_nil _ _))⟩ (by kernel_rfl) ?_
              refine HS.past rfl (past_some rfl rfl) rfl ?_
              refine HA.one (k := 38) ⟨⟨hL_x.is, hL_y.is, hL_q_Want.is, hL_5.is, hL_15.is, hL_16.is, hL_17.is, hL_18.is, (hS.own 2 rfl), (hS.own 1 rfl), (hS.own 0 rfl), (hS.box 6 rfl)⟩, (at_done (by kernel_rfl) (Go.Wk.at_nil _ _))⟩ (by kernel_rfl) ?_
              refine HS.past rfl (past_some rfl rfl) rfl ?_
              refine HA.past (k := 39) rfl rfl (by kernel_rfl) (by kernel_rfl) (past_some rfl rfl) rfl ?_
              refine HA.val (k := 40) (v := .bool true) rfl rfl (by kernel_rfl) (by kernel_rfl) (want_none) rfl (fun _ ⟨hL_x, hL_y, hL_q_Want, hL_5, hL_15, hL_16, hL_17, hL_18, c414, c432, c433, c367⟩ => q_pick rfl rfl) ?_
              refine HA.nil ⟨⟨hL_x.is, hL_y.is, hL_q_Want.is, hL_5.is, hL_15.is, hL_16.is, hL_17.is, hL_18.is, (hS.own 2 rfl), (hS.own 1 rfl), (hS.own 0 rfl), (hS.box 6 rfl)⟩, (at_done (by kernel_rfl) (Go.Wk.at_nil _ _))⟩ (by kernel_rfl) (thenQ_normal (?_))
              replace hS : St F_42 (Ow.box b_2 151 #[.map (some r_2), v_6, .int .i64 a_all_5] :: Ow.map r_2 (fun (x : Int × Int × Int × Int) => .agg #[.int .i64 x.1, .int .i64 x.2.1, .int .i64 x.2.2.1, .int .i64 x.2.2.2]) kI am_5 :: Ow.own 112 5 e_api_Given v_6 a_twice_5 :: fr) h_30 := St.perm (front := [Ow.own 100 2 e_api_Spot vr1_1 r1_1, Ow.own 100 2 e_api_Spot vr0_1 r0_1, Ow.own 100 2 e_api_Spot vr_15 r_21, Ow.box b_2 151 #[.map (some r_2), v_6, .int .i64 a_all_5], Ow.map r_2 (fun (x : Int × Int × Int × Int) => .agg #[.int .i64 x.1, .int .i64 x.2.1, .int .i64 x.2.2.1, .int .i64 x.2.2.2]) kI am_5, Ow.own 112 5 e_api_Given v_6 a_twice_5, Ow.box b_1 102 #[.int .i64 q_Id, .int .i64 q_Vlan, vq_Want, .int .i64 q_But.1, .int .i64 q_But.2]]) (fr := fr) hS [3, 4, 5] 7 rfl (by decide) [Ow.box b_2 151 #[.map (some r_2), v_6, .int .i64 a_all_5], Ow.map r_2 (fun (x : Int × Int × Int × Int) => .agg #[.int .i64 x.1, .int .i64 x.2.1, .int .i64 x.2.2.1, .int .i64 x.2.2.2]) kI am_5, Ow.own 112 5 e_api_Given v_6 a_twice_5] rfl
              exact ⟨F_42, am_5, a_twice_5, a_all_5, true, v_6, rfl, rfl, rfl, rfl, hK, hS, hL_x, hL_y, hL_q_Want, hL_5, hL_15, hL_16, hL_17, hL_18, hM⟩
            · replace hM := hM.2 c_7
              refine HA.val (k := 11) (v := .pointer (some ⟨b_2, 0, none⟩)) rfl rfl (by kernel_rfl) (by kernel_rfl) (want_by rfl rfl c_7) rfl (fun _ ⟨hL_x, hL_y, hL_q_Want, hL_5, hL_15, hL_16, hL_17, hL_18, c414, c432, c433, c367⟩ => q_move rfl) ?_
              refine HA.val (k := 12) (v := .pointer (some ⟨b_1, 0, none⟩)) rfl rfl (by kernel_rfl) (by kernel_rfl) (want_by rfl rfl c_7) rfl (fun _ ⟨hL_x, hL_y, hL_q_Want, hL_5, hL_15, hL_16, hL_17, hL_18, c414, c432, c433, c367⟩ => q_fieldAddr fa_102_0 rfl rfl) ?_
              refine HA.val (k := 13) (v := .int .i64 q_Id) rfl rfl (by kernel_rfl) (by kernel_rfl) (want_by rfl rfl c_7) rfl (fun _ ⟨hL_x, hL_y, hL_q_Want, hL_5, hL_15, hL_16, hL_17, hL_18, c414, c432, c433, c367⟩ => q_load to_3 rfl (Blk.cell c367 rfl)) ?_
              refine HA.val (k := 14) (v := .pointer (some ⟨b_1, 1, none⟩)) rfl rfl (by kernel_rfl) (by kernel_rfl) (want_by rfl rfl c_7) rfl (fun _ ⟨hL_x, hL_y, hL_q_Want, hL_5, hL_15, hL_16, hL_17, hL_18, c414, c432, c433, c367⟩ => q_fieldAddr fa_102_1 rfl rfl) ?_
              refine HA.val (k := 15) (v := .int .i64 q_Vlan) rfl rfl (by kernel_rfl) (by kernel_rfl) (want_by rfl rfl c_7) rfl (fun _ ⟨hL_x, hL_y, hL_q_Want, hL_5, hL_15, hL_16, hL_17, hL_18, c414, c432, c433, c367⟩ => q_load to_3 rfl (Blk.cell c367 rfl)) ?_
              refine HA.val (k := 16) (v := .pointer (some ⟨b_1, 3, none⟩)) rfl rfl (by kernel_rfl) (by kernel_rfl) (want_by rfl rfl c_7) rfl (fun _ ⟨hL_x, hL_y, hL_q_Want, hL_5, hL_15, hL_16, hL_17, hL_18, c414, c432, c433, c367⟩ => q_fieldAddr fa_102_3 rfl rfl) ?_
              refine HA.val (k := 17) (v := .agg #[.int .i64 q_But.1, .int .i64 q_But.2]) rfl rfl (by kernel_rfl) (by kernel_rfl) (want_by rfl rfl c_7) rfl (fun _ ⟨hL_x, hL_y, hL_q_Want, hL_5, hL_15, hL_16, hL_17, hL_18, c414, c432, c433, c367⟩ => q_loadAgg (cs := [.int .i64 q_But.1, .int .i64 q_But.2]) ta_100 rfl rfl (Blk.cells (k := 2) c367 rfl)) ?_
              refine HA.val (k := 19) (v := v_3) rfl rfl (by kernel_rfl) (by kernel_rfl) (want_by rfl rfl c_7) rfl (fun _ ⟨hL_x, hL_y, hL_q_Want, hL_5, hL_15, hL_16, hL_17, hL_18, c414, c432, c433, c367⟩ => q_move rfl) ?_
              refine HA.val (k := 20) (v := .pointer (some ⟨b_1, 0, none⟩)) rfl rfl (by kernel_rfl) (by kernel_rfl) (want_by rfl rfl c_7) rfl (fun _ ⟨hL_x, hL_y, hL_q_Want, hL_5, hL_15, hL_16, hL_17, hL_18, c414, c432, c433, c367⟩ => q_fieldAddr fa_102_0 rfl rfl) ?_
              refine HA.val (k := 21) (v := .int .i64 q_Id) rfl rfl (by kernel_rfl) (by kernel_rfl) (want_by rfl rfl c_7) rfl (fun _ ⟨hL_x, hL_y, hL_q_Want, hL_5, hL_15, hL_16, hL_17, hL_18, c414, c432, c433, c367⟩ => q_load to_3 rfl (Blk.cell c367 rfl)) ?_
              refine HA.val (k := 22) (v := .pointer (some ⟨b_1, 1, none⟩)) rfl rfl (by kernel_rfl) (by kernel_rfl) (want_by rfl rfl c_7) rfl (fun _ ⟨hL_x, hL_y, hL_q_Want, hL_5, hL_15, hL_16, hL_17, hL_18, c414, c432, c433, c367⟩ => q_fieldAddr fa_102_1 rfl rfl) ?_
              refine HA.val (k := 23) (v := .int .i64 q_Vlan) rfl rfl (by kernel_rfl) (by kernel_rfl) (want_by rfl rfl c_7) rfl (fun _ ⟨hL_x, hL_y, hL_q_Want, hL_5, hL_15, hL_16, hL_17, hL_18, c414, c432, c433, c367⟩ => q_load to_3 rfl (Blk.cell c367 rfl)) ?_
              refine HA.val (k := 24) (v := .pointer (some ⟨b_1, 3, none⟩)) rfl rfl (by kernel_rfl) (by kernel_rfl) (want_by rfl rfl c_7) rfl (fun _ ⟨hL_x, hL_y, hL_q_Want, hL_5, hL_15, hL_16, hL_17, hL_18, c414, c432, c433, c367⟩ => q_fieldAddr fa_102_3 rfl rfl) ?_
              refine HA.val (k := 25) (v := .agg #[.int .i64 q_But.1, .int .i64 q_But.2]) rfl rfl (by kernel_rfl) (by kernel_rfl) (want_by rfl rfl c_7) rfl (fun _ ⟨hL_x, hL_y, hL_q_Want, hL_5, hL_15, hL_16, hL_17, hL_18, c414, c432, c433, c367⟩ => q_loadAgg (cs := [.int .i64 q_But.1, .int .i64 q_But.2]) ta_100 rfl rfl (Blk.cells (k := 2) c367 rfl)) ?_
              refine HA.one (k := 18) ⟨⟨hL_x.is, hL_y.is, hL_q_Want.is, hL_5.is, hL_15.is, hL_16.is, hL_17.is, hL_18.is, (hS.own 2 rfl), (hS.own 1 rfl), (hS.own 0 rfl), (hS.box 6 rfl)⟩, (at_now ⟨(hS.box 3 rfl), (hS.mp 4 rfl), (hS.own 5 rfl)⟩ (Go.Wk.at_nil _ _))⟩ (by kernel_rfl) ?_
              replace hS : St F_42 (Ow.box b_2 151 #[.map (some r_2), v_6, .int .i64 a_all_5] :: Ow.map r_2 (fun (x : Int × Int × Int × Int) => .agg #[.int .i64 x.1, .int .i64 x.2.1, .int .i64 x.2.2.1, .int .i64 x.2.2.2]) kI am_5 :: Ow.own 112 5 e_api_Given v_6 a_twice_5 :: Ow.own 100 2 e_api_Spot vr1_1 r1_1 :: Ow.own 100 2 e_api_Spot vr0_1 r0_1 :: Ow.own 100 2 e_api_Spot vr_15 r_21 :: Ow.box b_1 102 #[.int .i64 q_Id, .int .i64 q_Vlan, vq_Want, .int .i64 q_But.1, .int .i64 q_But.2] :: fr) h_30 := St.perm (front := [Ow.own 100 2 e_api_Spot vr1_1 r1_1, Ow.own 100 2 e_api_Spot vr0_1 r0_1, Ow.own 100 2 e_api_Spot vr_15 r_21, Ow.box b_2 151 #[.map (some r_2), v_6, .int .i64 a_all_5], Ow.map r_2 (fun (x : Int × Int × Int × Int) => .agg #[.int .i64 x.1, .int .i64 x.2.1, .int .i64 x.2.2.1, .int .i64 x.2.2.2]) kI am_5, Ow.own 112 5 e_api_Given v_6 a_twice_5, Ow.box b_1 102 #[.int .i64 q_Id, .int .i64 q_Vlan, vq_Want, .int .i64 q_But.1, .int .i64 q_But.2]]) (fr := fr) hS [3, 4, 5, 0, 1, 2, 6] 7 rfl (by decide) [Ow.box b_2 151 #[.map (some r_2), v_6, .int .i64 a_all_5], Ow.map r_2 (fun (x : Int × Int × Int × Int) => .agg #[.int .i64 x.1, .int .i64 x.2.1, .int .i64 x.2.2.1, .int .i64 x.2.2.2]) kI am_5, Ow.own 112 5 e_api_Given v_6 a_twice_5, Ow.own 100 2 e_api_Spot vr1_1 r1_1, Ow.own 100 2 e_api_Spot vr0_1 r0_1, Ow.own 100 2 e_api_Spot vr_15 r_21, Ow.box b_1 102 #[.int .i64 q_Id, .int .i64 q_Vlan, vq_Want, .int .i64 q_But.1, .int .i64 q_But.2]] rfl
              refine HS.call rfl (want_by rfl rfl c_7) rfl (ec en_88 rfl rfl) (audit_Audit_Count_walk (fr := (Ow.own 100 2 e_api_Spot vr1_1 r1_1 :: Ow.own 100 2 e_api_Spot vr0_1 r0_1 :: Ow.own 100 2 e_api_Spot vr_15 r_21 :: Ow.box b_1 102 #[.int .i64 q_Id, .int .i64 q_Vlan, vq_Want, .int .i64 q_But.1, .int .i64 q_But.2] :: fr)) am_5 a_twice_5 a_all_5 q_Id q_Vlan q_But b_2 r_2 v_6 hS hM) ?_
              rintro _ h_31 ⟨F_43, r_25, am_6, a_twice_6, a_all_6, v_7, rfl, hk, hS, hM⟩
              replace hK := hK.trans hk
              replace hL_x := hL_x.kp hk
              replace hL_y := hL_y.kp hk
              replace hL_q_Want := hL_q_Want.kp hk
              replace hL_5 := hL_5.kp hk
              replace hL_15 := hL_15.kp hk
              replace hL_16 := hL_16.kp hk
              replace hL_17 := hL_17.kp hk
              replace hL_18 := hL_18.kp hk
              refine Go.Wk.HA.re (fun h => (SliceIs h 5 e_api_Given vx x) ∧ (SliceIs h 5 e_api_Given vy y) ∧ (SliceIs h 2 e_api_Spot vq_Want q_Want) ∧ (SliceIs h 1 encI vids_1 ids_1) ∧ (SliceIs h 5 e_api_Given v_3 (r_8 ++ r_10)) ∧ (SliceIs h 2 e_api_Spot vr_16 r_22) ∧ (SliceIs h 2 e_api_Spot vr0_2 r0_2) ∧ (SliceIs h 2 e_api_Spot vr1_2 r1_2) ∧ (OwnIs h 0 100 2 e_api_Spot vr1_1 r1_1) ∧ (OwnIs h 0 100 2 e_api_Spot vr0_1 r0_1) ∧ (OwnIs h 0 100 2 e_api_Spot vr_15 r_21) ∧ (Blk h b_1 (.cells #[.int .i64 q_Id, .int .i64 q_Vlan, vq_Want, .int .i64 q_But.1, .int .i64 q_But.2] 102 (0, 0)))) [(33, fun h => (Blk h b_2 (.cells #[.map (some r_2), v_7, .int .i64 a_all_6] 151 (0, 0))) ∧ (MapIs h r_2 (fun (x : Int × Int × Int × Int) => .agg #[.int .i64 x.1, .int .i64 x.2.1, .int .i64 x.2.2.1, .int .i64 x.2.2.2]) kI am_6) ∧ (OwnIs h 0 112 5 e_api_Given v_7 a_twice_6))] (fun L_ h_ hL_ ⟨hL_x, hL_y, hL_q_Want, hL_5, hL_15, hL_16, hL_17, hL_18, c433, c432, c414, c367⟩ hs_ => ⟨⟨hL_x, hL_y, hL_q_Want, hL_5, hL_15, hL_16, hL_17, hL_18, c414, c432, c433, c367⟩, (at_gone hL_ (by kernel_rfl) (Go.Wk.at_nil _ _))⟩) ?_
              refine HA.one (k := 26) ⟨⟨hL_x.is, hL_y.is, hL_q_Want.is, hL_5.is, hL_15.is, hL_16.is, hL_17.is, hL_18.is, (hS.own 3 rfl), (hS.own 4 rfl), (hS.own 5 rfl), (hS.box 6 rfl)⟩, (at_now ⟨(hS.box 0 rfl), (hS.mp 1 rfl), (hS.own 2 rfl)⟩ (Go.Wk.at_nil _ _))⟩ (by kernel_rfl) ?_
              refine HS.call rfl (want_by rfl rfl c_7) rfl (ec en_78 rfl rfl) (ref44_Count_walk (fr := (Ow.box b_2 151 #[.map (some r_2), v_7, .int .i64 a_all_6] :: Ow.map r_2 (fun (x : Int × Int × Int × Int) => .agg #[.int .i64 x.1, .int .i64 x.2.1, .int .i64 x.2.2.1, .int .i64 x.2.2.2]) kI am_6 :: Ow.own 112 5 e_api_Given v_7 a_twice_6 :: Ow.own 100 2 e_api_Spot vr1_1 r1_1 :: Ow.own 100 2 e_api_Spot vr0_1 r0_1 :: Ow.own 100 2 e_api_Spot vr_15 r_21 :: Ow.box b_1 102 #[.int .i64 q_Id, .int .i64 q_Vlan, vq_Want, .int .i64 q_But.1, .int .i64 q_But.2] :: fr)) (r_8 ++ r_10) q_Id q_Vlan q_But v_3 hS hL_15 hM) ?_
              rintro _ h_32 ⟨F_44, r_26, rfl, hk, hS, _, hM⟩
              replace hK := hK.trans hk
              replace hL_x := hL_x.kp hk
              replace hL_y := hL_y.kp hk
              replace hL_q_Want := hL_q_Want.kp hk
              replace hL_5 := hL_5.kp hk
              replace hL_15 := hL_15.kp hk
              replace hL_16 := hL_16.kp hk
              replace hL_17 := hL_17.kp hk
              replace hL_18 := hL_18.kp hk
              refine HA.val (k := 27) (v := .bool (!decide (r_25 = r_26))) rfl rfl (by kernel_rfl) (by kernel_rfl) (want_by rfl rfl c_7) rfl (fun _ ⟨hL_x, hL_y, hL_q_Want, hL_5, hL_15, hL_16, hL_17, hL_18, c433, c432, c414, c367⟩ => q_neq rfl rfl) ?_
              refine HA.val (k := 28) (v := .bool (!decide (r_25 = r_26))) rfl rfl (by kernel_rfl) (by kernel_rfl) (want_none) rfl (fun _ ⟨hL_x, hL_y, hL_q_Want, hL_5, hL_15, hL_16, hL_17, hL_18, c433, c432, c414, c367⟩ => q_pickK false rfl c_7 rfl) ?_
              refine HA.val (k := 29) (v := .bool (!decide (r_25 = r_26))) rfl rfl (by kernel_rfl) (by kernel_rfl) (want_none) rfl (fun _ ⟨hL_x, hL_y, hL_q_Want, hL_5, hL_15, hL_16, hL_17, hL_18, c433, c432, c414, c367⟩ => q_move rfl) ?_
              rcases Bool.eq_false_or_eq_true (!decide (r_25 = r_26)) with c_8 | c_8
              · replace hM := hM.1 (nd_true c_8)
                refine HA.past (k := 30) rfl rfl (by kernel_rfl) (by kernel_rfl) (past_by rfl rfl c_8) rfl ?_
                refine HA.past (k := 31) rfl rfl (by kernel_rfl) (by kernel_rfl) (past_by rfl rfl c_8) rfl ?_
                refine HA.past (k := 32) rfl rfl (by kernel_rfl) (by kernel_rfl) (past_by rfl rfl c_8) rfl ?_
                refine HA.past (k := 34) rfl rfl (by kernel_rfl) (by kernel_rfl) (past_by rfl rfl c_8) rfl ?_
                refine HA.past (k := 35) rfl rfl (by kernel_rfl) (by kernel_rfl) (past_by rfl rfl c_8) rfl ?_
                refine HA.past (k := 36) rfl rfl (by kernel_rfl) (by kernel_rfl) (past_by rfl rfl c_8) rfl ?_
                refine HA.one (k := 33) ⟨⟨hL_x.is, hL_y.is, hL_q_Want.is, hL_5.is, hL_15.is, hL_16.is, hL_17.is, hL_18.is, (hS.own 3 rfl), (hS.own 4 rfl), (hS.own 5 rfl), (hS.box 6 rfl)⟩, (at_now ⟨(hS.box 0 rfl), (hS.mp 1 rfl), (hS.own 2 rfl)⟩ (Go.Wk.at_nil _ _))⟩ (by kernel_rfl) ?_
                refine HS.past rfl (past_by rfl rfl c_8) rfl ?_
                refine HA.one (k := 37) ⟨⟨hL_x.is, hL_y.is, hL_q_Want.is, hL_5.is, hL_15.is, hL_16.is, hL_17.is, hL_18.is, (hS.own 3 rfl), (hS.own 4 rfl), (hS.own 5 rfl), (hS.box 6 rfl)⟩, (at_done (by kernel_rfl) (Go.Wk.at_nil _ _))⟩ (by kernel_rfl) ?_
                refine HS.past rfl (past_by rfl rfl c_8) rfl ?_
                refine HA.one (k := 38) ⟨⟨hL_x.is, hL_y.is, hL_q_Want.is, hL_5.is, hL_15.is, hL_16.is, hL_17.is, hL_18.is, (hS.own 3 rfl), (hS.own 4 rfl), (hS.own 5 rfl), (hS.box 6 rfl)⟩, (at_done (by kernel_rfl) (Go.Wk.at_nil _ _))⟩ (by kernel_rfl) ?_
                refine HS.past rfl (past_by rfl rfl c_8) rfl ?_
                refine HA.past (k := 39) rfl rfl (by kernel_rfl) (by kernel_rfl) (past_by rfl rfl c_8) rfl ?_
                refine HA.val (k := 40) (v := .bool true) rfl rfl (by kernel_rfl) (by kernel_rfl) (want_none) rfl (fun _ ⟨hL_x, hL_y, hL_q_Want, hL_5, hL_15, hL_16, hL_17, hL_18, c433, c432, c414, c367⟩ => q_pickK true rfl c_8 rfl) ?_
                refine HA.nil ⟨⟨hL_x.is, hL_y.is, hL_q_Want.is, hL_5.is, hL_15.is, hL_16.is, hL_17.is, hL_18.is, (hS.own 3 rfl), (hS.own 4 rfl), (hS.own 5 rfl), (hS.box 6 rfl)⟩, (at_done (by kernel_rfl) (Go.Wk.at_nil _ _))⟩ (by kernel_rfl) (thenQ_normal (?_))
                replace hS : St F_44 (Ow.box b_2 151 #[.map (some r_2), v_7, .int .i64 a_all_6] :: Ow.map r_2 (fun (x : Int × Int × Int × Int) => .agg #[.int .i64 x.1, .int .i64 x.2.1, .int .i64 x.2.2.1, .int .i64 x.2.2.2]) kI am_6 :: Ow.own 112 5 e_api_Given v_7 a_twice_6 :: fr) h_32 := St.perm (front := [Ow.box b_2 151 #[.map (some r_2), v_7, .int .i64 a_all_6], Ow.map r_2 (fun (x : Int × Int × Int × Int) => .agg #[.int .i64 x.1, .int .i64 x.2.1, .int .i64 x.2.2.1, .int .i64 x.2.2.2]) kI am_6, Ow.own 112 5 e_api_Given v_7 a_twice_6, Ow.own 100 2 e_api_Spot vr1_1 r1_1, Ow.own 100 2 e_api_Spot vr0_1 r0_1, Ow.own 100 2 e_api_Spot vr_15 r_21, Ow.box b_1 102 #[.int .i64 q_Id, .int .i64 q_Vlan, vq_Want, .int .i64 q_But.1, .int .i64 q_But.2]]) (fr := fr) hS [0, 1, 2] 7 rfl (by decide) [Ow.box b_2 151 #[.map (some r_2), v_7, .int .i64 a_all_6], Ow.map r_2 (fun (x : Int × Int × Int × Int) => .agg #[.int .i64 x.1, .int .i64 x.2.1, .int .i64 x.2.2.1, .int .i64 x.2.2.2]) kI am_6, Ow.own 112 5 e_api_Given v_7 a_twice_6] rfl
                exact ⟨F_44, am_6, a_twice_6, a_all_6, true, v_7, rfl, rfl, rfl, rfl, hK, hS, hL_x, hL_y, hL_q_Want, hL_5, hL_15, hL_16, hL_17, hL_18, hM⟩
              · replace hM := hM.2 (nd_false c_8)
                refine HA.val (k := 30) (v := .pointer (some ⟨b_2, 0, none⟩)) rfl rfl (by kernel_rfl) (by kernel_rfl) (want_by rfl rfl c_8) rfl (fun _ ⟨hL_x, hL_y, hL_q_Want, hL_5, hL_15, hL_16, hL_17, hL_18, c433, c432, c414, c367⟩ => q_move rfl) ?_
                refine HA.val (k := 31) (v := .pointer (some ⟨b_1, 0, none⟩)) rfl rfl (by kernel_rfl) (by kernel_rfl) (want_by rfl rfl c_8) rfl (fun _ ⟨hL_x, hL_y, hL_q_Want, hL_5, hL_15, hL_16, hL_17, hL_18, c433, c432, c414, c367⟩ => q_fieldAddr fa_102_0 rfl rfl) ?_
                refine HA.val (k := 32) (v := .int .i64 q_Id) rfl rfl (by kernel_rfl) (by kernel_rfl) (want_by rfl rfl c_8) rfl (fun _ ⟨hL_x, hL_y, hL_q_Want, hL_5, hL_15, hL_16, hL_17, hL_18, c433, c432, c414, c367⟩ => q_load to_3 rfl (Blk.cell c367 rfl)) ?_
                refine HA.val (k := 34) (v := v_3) rfl rfl (by kernel_rfl) (by kernel_rfl) (want_by rfl rfl c_8) rfl (fun _ ⟨hL_x, hL_y, hL_q_Want, hL_5, hL_15, hL_16, hL_17, hL_18, c433, c432, c414, c367⟩ => q_move rfl) ?_
                refine HA.val (k := 35) (v := .pointer (some ⟨b_1, 0, none⟩)) rfl rfl (by kernel_rfl) (by kernel_rfl) (want_by rfl rfl c_8) rfl (fun _ ⟨hL_x, hL_y, hL_q_Want, hL_5, hL_15, hL_16, hL_17, hL_18, c433, c432, c414, c367⟩ => q_fieldAddr fa_102_0 rfl rfl) ?_
                refine HA.val (k := 36) (v := .int .i64 q_Id) rfl rfl (by kernel_rfl) (by kernel_rfl) (want_by rfl rfl c_8) rfl (fun _ ⟨hL_x, hL_y, hL_q_Want, hL_5, hL_15, hL_16, hL_17, hL_18, c433, c432, c414, c367⟩ => q_load to_3 rfl (Blk.cell c367 rfl)) ?_
                refine HA.one (k := 33) ⟨⟨hL_x.is, hL_y.is, hL_q_Want.is, hL_5.is, hL_15.is, hL_16.is, hL_17.is, hL_18.is, (hS.own 3 rfl), (hS.own 4 rfl), (hS.own 5 rfl), (hS.box 6 rfl)⟩, (at_now ⟨(hS.box 0 rfl), (hS.mp 1 rfl), (hS.own 2 rfl)⟩ (Go.Wk.at_nil _ _))⟩ (by kernel_rfl) ?_
                refine HS.call rfl (want_by rfl rfl c_8) rfl (ec en_89 rfl rfl) (audit_Audit_Of_walk (fr := (Ow.own 100 2 e_api_Spot vr1_1 r1_1 :: Ow.own 100 2 e_api_Spot vr0_1 r0_1 :: Ow.own 100 2 e_api_Spot vr_15 r_21 :: Ow.box b_1 102 #[.int .i64 q_Id, .int .i64 q_Vlan, vq_Want, .int .i64 q_But.1, .int .i64 q_But.2] :: fr)) am_6 a_twice_6 a_all_6 q_Id b_2 r_2 v_7 hS hM) ?_
                rintro vr_17 h_33 ⟨F_45, r_27, am_7, a_twice_7, a_all_7, _, v_8, rfl, hk, hS, hM⟩
                replace hK := hK.trans hk
                replace hL_x := hL_x.kp hk
                replace hL_y := hL_y.kp hk
                replace hL_q_Want := hL_q_Want.kp hk
                replace hL_5 := hL_5.kp hk
                replace hL_15 := hL_15.kp hk
                replace hL_16 := hL_16.kp hk
                replace hL_17 := hL_17.kp hk
                replace hL_18 := hL_18.kp hk
                refine Go.Wk.HA.re (fun h => (SliceIs h 5 e_api_Given vx x) ∧ (SliceIs h 5 e_api_Given vy y) ∧ (SliceIs h 2 e_api_Spot vq_Want q_Want) ∧ (SliceIs h 1 encI vids_1 ids_1) ∧ (SliceIs h 5 e_api_Given v_3 (r_8 ++ r_10)) ∧ (SliceIs h 2 e_api_Spot vr_16 r_22) ∧ (SliceIs h 2 e_api_Spot vr0_2 r0_2) ∧ (SliceIs h 2 e_api_Spot vr1_2 r1_2) ∧ (OwnIs h 0 100 2 e_api_Spot vr_17 r_27) ∧ (Blk h b_2 (.cells #[.map (some r_2), v_8, .int .i64 a_all_7] 151 (0, 0))) ∧ (MapIs h r_2 (fun (x : Int × Int × Int × Int) => .agg #[.int .i64 x.1, .int .i64 x.2.1, .int .i64 x.2.2.1, .int .i64 x.2.2.2]) kI am_7) ∧ (OwnIs h 0 112 5 e_api_Given v_8 a_twice_7) ∧ (OwnIs h 0 100 2 e_api_Spot vr1_1 r1_1) ∧ (OwnIs h 0 100 2 e_api_Spot vr0_1 r0_1) ∧ (OwnIs h 0 100 2 e_api_Spot vr_15 r_21) ∧ (Blk h b_1 (.cells #[.int .i64 q_Id, .int .i64 q_Vlan, vq_Want, .int .i64 q_But.1, .int .i64 q_But.2] 102 (0, 0)))) [] (fun L_ h_ hL_ ⟨hL_x, hL_y, hL_q_Want, hL_5, hL_15, hL_16, hL_17, hL_18, c777, c368, c369, c370, c433, c432, c414, c367⟩ hs_ => ⟨⟨hL_x, hL_y, hL_q_Want, hL_5, hL_15, hL_16, hL_17, hL_18, c433, c432, c414, c367⟩, (at_gone hL_ (by kernel_rfl) (Go.Wk.at_nil _ _))⟩) ?_
                refine HA.one (k := 37) ⟨⟨hL_x.is, hL_y.is, hL_q_Want.is, hL_5.is, hL_15.is, hL_16.is, hL_17.is, hL_18.is, (hS.own 0 rfl), (hS.box 1 rfl), (hS.mp 2 rfl), (hS.own 3 rfl), (hS.own 4 rfl), (hS.own 5 rfl), (hS.own 6 rfl), (hS.box 7 rfl)⟩, (Go.Wk.at_nil _ _)⟩ (by kernel_rfl) ?_
                refine HS.call rfl (want_by rfl rfl c_8) rfl (ec en_90 rfl rfl) (ref44_Of_walk (fr := (Ow.own 100 2 e_api_Spot vr_17 r_27 :: Ow.box b_2 151 #[.map (some r_2), v_8, .int .i64 a_all_7] :: Ow.map r_2 (fun (x : Int × Int × Int × Int) => .agg #[.int .i64 x.1, .int .i64 x.2.1, .int .i64 x.2.2.1, .int .i64 x.2.2.2]) kI am_7 :: Ow.own 112 5 e_api_Given v_8 a_twice_7 :: Ow.own 100 2 e_api_Spot vr1_1 r1_1 :: Ow.own 100 2 e_api_Spot vr0_1 r0_1 :: Ow.own 100 2 e_api_Spot vr_15 r_21 :: Ow.box b_1 102 #[.int .i64 q_Id, .int .i64 q_Vlan, vq_Want, .int .i64 q_But.1, .int .i64 q_But.2] :: fr)) (r_8 ++ r_10) q_Id v_3 hS hL_15 hM) ?_
                rintro vr_18 h_34 ⟨F_46, r_28, _, rfl, hk, hS, _, hL_21, hM⟩
                replace hK := hK.trans hk
                replace hL_x := hL_x.kp hk
                replace hL_y := hL_y.kp hk
                replace hL_q_Want := hL_q_Want.kp hk
                replace hL_5 := hL_5.kp hk
                replace hL_15 := hL_15.kp hk
                replace hL_16 := hL_16.kp hk
                replace hL_17 := hL_17.kp hk
                replace hL_18 := hL_18.kp hk
                refine Go.Wk.HA.re (fun h => (SliceIs h 5 e_api_Given vx x) ∧ (SliceIs h 5 e_api_Given vy y) ∧ (SliceIs h 2 e_api_Spot vq_Want q_Want) ∧ (SliceIs h 1 encI vids_1 ids_1) ∧ (SliceIs h 5 e_api_Given v_3 (r_8 ++ r_10)) ∧ (SliceIs h 2 e_api_Spot vr_16 r_22) ∧ (SliceIs h 2 e_api_Spot vr0_2 r0_2) ∧ (SliceIs h 2 e_api_Spot vr1_2 r1_2) ∧ (SliceIs h 2 e_api_Spot vr_18 r_28) ∧ (OwnIs h 0 100 2 e_api_Spot vr_17 r_27) ∧ (Blk h b_2 (.cells #[.map (some r_2), v_8, .int .i64 a_all_7] 151 (0, 0))) ∧ (MapIs h r_2 (fun (x : Int × Int × Int × Int) => .agg #[.int .i64 x.1, .int .i64 x.2.1, .int .i64 x.2.2.1, .int .i64 x.2.2.2]) kI am_7) ∧ (OwnIs h 0 112 5 e_api_Given v_8 a_twice_7) ∧ (OwnIs h 0 100 2 e_api_Spot vr1_1 r1_1) ∧ (OwnIs h 0 100 2 e_api_Spot vr0_1 r0_1) ∧ (OwnIs h 0 100 2 e_api_Spot vr_15 r_21) ∧ (Blk h b_1 (.cells #[.int .i64 q_Id, .int .i64 q_Vlan, vq_Want, .int .i64 q_But.1, .int .i64 q_But.2] 102 (0, 0)))) [] (fun L_ h_ hL_ ⟨hL_x, hL_y, hL_q_Want, hL_5, hL_15, hL_16, hL_17, hL_18, hL_21, c777, c368, c369, c370, c433, c432, c414, c367⟩ hs_ => ⟨⟨hL_x, hL_y, hL_q_Want, hL_5, hL_15, hL_16, hL_17, hL_18, c777, c368, c369, c370, c433, c432, c414, c367⟩, (Go.Wk.at_nil _ _)⟩) ?_
                refine HA.one (k := 38) ⟨⟨hL_x.is, hL_y.is, hL_q_Want.is, hL_5.is, hL_15.is, hL_16.is, hL_17.is, hL_18.is, hL_21.is, (hS.own 0 rfl), (hS.box 1 rfl), (hS.mp 2 rfl), (hS.own 3 rfl), (hS.own 4 rfl), (hS.own 5 rfl), (hS.own 6 rfl), (hS.box 7 rfl)⟩, (Go.Wk.at_nil _ _)⟩ (by kernel_rfl) ?_
                have hZ_14 := hS
                have hkz_14 := (hS.freeze).2
                replace hS := hS.freeze.1
                have hL_22 : SliceF (fun b => F_46 b ∨ (Ow.own 100 2 e_api_Spot vr_17 r_27).foot b) h_34 2 e_api_Spot vr_17 r_27 := ⟨(hZ_14.own 0 rfl).slice, fun _ b hb => .inr hb⟩
                refine HS.call rfl (want_by rfl rfl c_8) rfl (ec en_87 rfl rfl) (ref44_Same_walk (fr := (Ow.box b_2 151 #[.map (some r_2), v_8, .int .i64 a_all_7] :: Ow.map r_2 (fun (x : Int × Int × Int × Int) => .agg #[.int .i64 x.1, .int .i64 x.2.1, .int .i64 x.2.2.1, .int .i64 x.2.2.2]) kI am_7 :: Ow.own 112 5 e_api_Given v_8 a_twice_7 :: Ow.own 100 2 e_api_Spot vr1_1 r1_1 :: Ow.own 100 2 e_api_Spot vr0_1 r0_1 :: Ow.own 100 2 e_api_Spot vr_15 r_21 :: Ow.box b_1 102 #[.int .i64 q_Id, .int .i64 q_Vlan, vq_Want, .int .i64 q_But.1, .int .i64 q_But.2] :: fr)) r_27 r_28 vr_17 vr_18 hS hL_22 (hL_21.kp hkz_14) hM) ?_
                rintro _ h_35 ⟨F_47, r_29, rfl, hk, hS, _, _, hM⟩
                obtain ⟨hS, hk⟩ := hZ_14.back hk hS
                generalize (fun b => F_47 b ∧ ¬ (Ow.own 100 2 e_api_Spot vr_17 r_27).foot b) = F_48 at hS hk
                replace hK := hK.trans hk
                replace hL_x := hL_x.kp hk
                replace hL_y := hL_y.kp hk
                replace hL_q_Want := hL_q_Want.kp hk
                replace hL_5 := hL_5.kp hk
                replace hL_15 := hL_15.kp hk
                replace hL_16 := hL_16.kp hk
                replace hL_17 := hL_17.kp hk
                replace hL_18 := hL_18.kp hk
                replace hL_21 := hL_21.kp hk
                refine HA.val (k := 39) (v := .bool (!r_29)) rfl rfl (by kernel_rfl) (by kernel_rfl) (want_by rfl rfl c_8) rfl (fun _ ⟨hL_x, hL_y, hL_q_Want, hL_5, hL_15, hL_16, hL_17, hL_18, hL_21, c777, c368, c369, c370, c433, c432, c414, c367⟩ => q_not rfl) ?_
                refine HA.val (k := 40) (v := .bool (!r_29)) rfl rfl (by kernel_rfl) (by kernel_rfl) (want_none) rfl (fun _ ⟨hL_x, hL_y, hL_q_Want, hL_5, hL_15, hL_16, hL_17, hL_18, hL_21, c777, c368, c369, c370, c433, c432, c414, c367⟩ => q_pickK false rfl c_8 rfl) ?_
                refine HA.nil ⟨⟨hL_x.is, hL_y.is, hL_q_Want.is, hL_5.is, hL_15.is, hL_16.is, hL_17.is, hL_18.is, hL_21.is, (hS.own 0 rfl), (hS.box 1 rfl), (hS.mp 2 rfl), (hS.own 3 rfl), (hS.own 4 rfl), (hS.own 5 rfl), (hS.own 6 rfl), (hS.box 7 rfl)⟩, (Go.Wk.at_nil _ _)⟩ (by kernel_rfl) (thenQ_normal (?_))
                replace hS : St F_48 (Ow.box b_2 151 #[.map (some r_2), v_8, .int .i64 a_all_7] :: Ow.map r_2 (fun (x : Int × Int × Int × Int) => .agg #[.int .i64 x.1, .int .i64 x.2.1, .int .i64 x.2.2.1, .int .i64 x.2.2.2]) kI am_7 :: Ow.own 112 5 e_api_Given v_8 a_twice_7 :: fr) h_35 := St.perm (front := [Ow.own 100 2 e_api_Spot vr_17 r_27, Ow.box b_2 151 #[.map (some r_2), v_8, .int .i64 a_all_7], Ow.map r_2 (fun (x : Int × Int × Int × Int) => .agg #[.int .i64 x.1, .int .i64 x.2.1, .int .i64 x.2.2.1, .int .i64 x.2.2.2]) kI am_7, Ow.own 112 5 e_api_Given v_8 a_twice_7, Ow.own 100 2 e_api_Spot vr1_1 r1_1, Ow.own 100 2 e_api_Spot vr0_1 r0_1, Ow.own 100 2 e_api_Spot vr_15 r_21, Ow.box b_1 102 #[.int .i64 q_Id, .int .i64 q_Vlan, vq_Want, .int .i64 q_But.1, .int .i64 q_But.2]]) (fr := fr) hS [1, 2, 3] 8 rfl (by decide) [Ow.box b_2 151 #[.map (some r_2), v_8, .int .i64 a_all_7], Ow.map r_2 (fun (x : Int × Int × Int × Int) => .agg #[.int .i64 x.1, .int .i64 x.2.1, .int .i64 x.2.2.1, .int .i64 x.2.2.2]) kI am_7, Ow.own 112 5 e_api_Given v_8 a_twice_7] rfl
                exact ⟨F_48, am_7, a_twice_7, a_all_7, !r_29, v_8, rfl, rfl, rfl, rfl, hK, hS, hL_x, hL_y, hL_q_Want, hL_5, hL_15, hL_16, hL_17, hL_18, hM⟩
        · rintro f_3 h_36 ⟨F_49, a_0_2, a_1_2, a_2_2, b_5, va_1_2, e6, e7, e10, e144, hK, hS, hL_x, hL_y, hL_q_Want, hL_5, hL_15, hL_16, hL_17, hL_18, hM⟩
          unfold law44_AuditTells_j2 at hM
          refine HW.fr [(6, .bool false), (7, .pointer (some ⟨b_2, 0, none⟩)), (10, v_3), (144, .bool b_5)] ⟨e6, e7, e10, e144, trivial⟩ ?_
          refine HW.cond b_5 rfl (fun c_9 => ?_) (fun c_9 => ?_)
          · replace hM := hM.1 c_9
            refine HW.seq ?_
            refine HW.region ?_
            refine HO.val (v := .bool false) (want_none) rfl (q_assign rfl) ?_
            refine HO.nil (thenQ_normal (?_))
            refine HW.ret (thenQ_ret (?_))
            refine ⟨.inr rfl, .bool false, res1 rfl (rt rfl), ?_⟩
            replace hS : St F_49 (fr) h_36 := St.perm (front := [Ow.box b_2 151 #[.map (some r_2), va_1_2, .int .i64 a_2_2], Ow.map r_2 (fun (x : Int × Int × Int × Int) => .agg #[.int .i64 x.1, .int .i64 x.2.1, .int .i64 x.2.2.1, .int .i64 x.2.2.2]) kI a_0_2, Ow.own 112 5 e_api_Given va_1_2 a_1_2]) (fr := fr) hS [] 3 rfl (by decide) [] rfl
            exact ⟨F_49, false, rfl, hK, hS, hL_x, hL_y, hL_q_Want, hM⟩
          · replace hM := hM.2 c_9
            refine HW.skip (thenQ_normal (?_))
            refine HW.seq ?_
            refine HW.region ?_
            refine HO.val (v := .pointer (some ⟨b_2, 0, none⟩)) (want_none) rfl (q_move rfl) ?_
            refine HO.call (want_none) rfl (ec en_91 rfl rfl) (audit_Audit_Clear_walk (fr := (fr)) a_0_2 a_1_2 a_2_2 b_2 r_2 va_1_2 hS hM) ?_
            rintro _ h_37 ⟨F_50, r_30, am_8, a_all_8, rfl, hk, hS, hM⟩
            replace hK := hK.trans hk
            replace hL_x := hL_x.kp hk
            replace hL_y := hL_y.kp hk
            replace hL_q_Want := hL_q_Want.kp hk
            replace hL_5 := hL_5.kp hk
            replace hL_15 := hL_15.kp hk
            replace hL_16 := hL_16.kp hk
            replace hL_17 := hL_17.kp hk
            replace hL_18 := hL_18.kp hk
            refine HO.val (v := v_3) (want_none) rfl (q_move rfl) ?_
            refine HO.val (v := .int .i64 ((r_8 ++ r_10).length : Int)) (want_none) rfl (q_len ts_97 (shp hL_15.is) rfl rfl) ?_
            refine HO.val (v := .bool (decide (r_30 = ((r_8 ++ r_10).length : Int)))) (want_none) rfl (q_eql rfl rfl) ?_
            refine HO.val (v := .bool (decide (r_30 = ((r_8 ++ r_10).length : Int)))) (want_none) rfl (q_move rfl) ?_
            rcases Bool.eq_false_or_eq_true (decide (r_30 = ((r_8 ++ r_10).length : Int))) with c_10 | c_10
            · replace hM := hM.1 (of_decide_eq_true c_10)
              refine HO.val (v := .pointer (some ⟨b_2, 0, none⟩)) (want_by rfl rfl c_10) rfl (q_move rfl) ?_
              replace hS := hS.nilOwn 112 5 e_api_Given
              replace hS : St F_50 (Ow.box b_2 151 #[.map (some r_2), .slice none 0 0, .int .i64 a_all_8] :: Ow.map r_2 (fun (x : Int × Int × Int × Int) => .agg #[.int .i64 x.1, .int .i64 x.2.1, .int .i64 x.2.2.1, .int .i64 x.2.2.2]) kI am_8 :: Ow.own 112 5 e_api_Given (.slice none 0 0) ([] : List (Int × Int × Int × Int × Str)) :: fr) h_37 := St.perm (front := [Ow.own 112 5 e_api_Given (.slice none 0 0) ([] : List (Int × Int × Int × Int × Str)), Ow.box b_2 151 #[.map (some r_2), .slice none 0 0, .int .i64 a_all_8], Ow.map r_2 (fun (x : Int × Int × Int × Int) => .agg #[.int .i64 x.1, .int .i64 x.2.1, .int .i64 x.2.2.1, .int .i64 x.2.2.2]) kI am_8]) (fr := fr) hS [1, 2, 0] 3 rfl (by decide) [Ow.box b_2 151 #[.map (some r_2), .slice none 0 0, .int .i64 a_all_8], Ow.map r_2 (fun (x : Int × Int × Int × Int) => .agg #[.int .i64 x.1, .int .i64 x.2.1, .int .i64 x.2.2.1, .int .i64 x.2.2.2]) kI am_8, Ow.own 112 5 e_api_Given (.slice none 0 0) ([] : List (Int × Int × Int × Int × Str))] rfl
              refine HO.call (want_by rfl rfl c_10) rfl (ec en_83 rfl rfl) (audit_Audit_Ids_walk (fr := (fr)) am_8 [] a_all_8 b_2 r_2 (.slice none 0 0) hS hM) ?_
              rintro vr_19 h_38 ⟨F_51, r_31, am_9, a_twice_8, a_all_9, _, v_9, rfl, hk, hS, hM⟩
              replace hK := hK.trans hk
              replace hL_x := hL_x.kp hk
              replace hL_y := hL_y.kp hk
              replace hL_q_Want := hL_q_Want.kp hk
              replace hL_5 := hL_5.kp hk
              replace hL_15 := hL_15.kp hk
              replace hL_16 := hL_16.kp hk
              replace hL_17 := hL_17.kp hk
              replace hL_18 := hL_18.kp hk
              refine HO.val (v := .int .i64 (r_31.length : Int)) (want_by rfl rfl c_10) rfl (q_len ts_22 (shp (hS.own 0 rfl).slice) rfl rfl) ?_
              refine HO.val (v := .bool (decide ((r_31.length : Int) = 0))) (want_by rfl rfl c_10) rfl (q_eql rfl rfl) ?_
              refine HO.val (v := .bool (decide ((r_31.length : Int) = 0))) (want_none) rfl (q_pickK true rfl c_10 rfl) ?_
              refine HO.val (v := .bool (decide ((r_31.length : Int) = 0))) (want_none) rfl (q_move rfl) ?_
              rcases Bool.eq_false_or_eq_true (decide ((r_31.length : Int) = 0)) with c_11 | c_11
              · replace hM := hM.1 (of_decide_eq_true c_11)
                refine HO.val (v := .pointer (some ⟨b_2, 0, none⟩)) (want_by rfl rfl c_11) rfl (q_move rfl) ?_
                replace hS : St F_51 (Ow.box b_2 151 #[.map (some r_2), v_9, .int .i64 a_all_9] :: Ow.map r_2 (fun (x : Int × Int × Int × Int) => .agg #[.int .i64 x.1, .int .i64 x.2.1, .int .i64 x.2.2.1, .int .i64 x.2.2.2]) kI am_9 :: Ow.own 112 5 e_api_Given v_9 a_twice_8 :: Ow.own 3 1 encI vr_19 r_31 :: fr) h_38 := St.perm (front := [Ow.own 3 1 encI vr_19 r_31, Ow.box b_2 151 #[.map (some r_2), v_9, .int .i64 a_all_9], Ow.map r_2 (fun (x : Int × Int × Int × Int) => .agg #[.int .i64 x.1, .int .i64 x.2.1, .int .i64 x.2.2.1, .int .i64 x.2.2.2]) kI am_9, Ow.own 112 5 e_api_Given v_9 a_twice_8]) (fr := fr) hS [1, 2, 3, 0] 4 rfl (by decide) [Ow.box b_2 151 #[.map (some r_2), v_9, .int .i64 a_all_9], Ow.map r_2 (fun (x : Int × Int × Int × Int) => .agg #[.int .i64 x.1, .int .i64 x.2.1, .int .i64 x.2.2.1, .int .i64 x.2.2.2]) kI am_9, Ow.own 112 5 e_api_Given v_9 a_twice_8, Ow.own 3 1 encI vr_19 r_31] rfl
                refine HO.call (want_by rfl rfl c_11) rfl (ec en_77 rfl rfl) (audit_Audit_Twice_walk (fr := (Ow.own 3 1 encI vr_19 r_31 :: fr)) am_9 a_twice_8 a_all_9 b_2 r_2 v_9 hS hM) ?_
                rintro vr_20 h_39 ⟨F_52, r_32, am_10, a_twice_9, a_all_10, _, v_10, rfl, hk, hS, hM⟩
                replace hK := hK.trans hk
                replace hL_x := hL_x.kp hk
                replace hL_y := hL_y.kp hk
                replace hL_q_Want := hL_q_Want.kp hk
                replace hL_5 := hL_5.kp hk
                replace hL_15 := hL_15.kp hk
                replace hL_16 := hL_16.kp hk
                replace hL_17 := hL_17.kp hk
                replace hL_18 := hL_18.kp hk
                refine HO.val (v := .int .i64 (r_32.length : Int)) (want_by rfl rfl c_11) rfl (q_len ts_97 (shp (hS.own 0 rfl).slice) rfl rfl) ?_
                refine HO.val (v := .bool (decide ((r_32.length : Int) = 0))) (want_by rfl rfl c_11) rfl (q_eql rfl rfl) ?_
                refine HO.val (v := .bool (decide ((r_32.length : Int) = 0))) (want_none) rfl (q_pickK true rfl c_11 rfl) ?_
                refine HO.val (v := .bool (decide ((r_32.length : Int) = 0))) (want_none) rfl (q_move rfl) ?_
                rcases Bool.eq_false_or_eq_true (decide ((r_32.length : Int) = 0)) with c_12 | c_12
                · replace hM := hM.1 (of_decide_eq_true c_12)
                  refine HO.val (v := .pointer (some ⟨b_2, 0, none⟩)) (want_by rfl rfl c_12) rfl (q_move rfl) ?_
                  replace hS : St F_52 (Ow.box b_2 151 #[.map (some r_2), v_10, .int .i64 a_all_10] :: Ow.map r_2 (fun (x : Int × Int × Int × Int) => .agg #[.int .i64 x.1, .int .i64 x.2.1, .int .i64 x.2.2.1, .int .i64 x.2.2.2]) kI am_10 :: Ow.own 112 5 e_api_Given v_10 a_twice_9 :: Ow.own 112 5 e_api_Given vr_20 r_32 :: Ow.own 3 1 encI vr_19 r_31 :: fr) h_39 := St.perm (front := [Ow.own 112 5 e_api_Given vr_20 r_32, Ow.box b_2 151 #[.map (some r_2), v_10, .int .i64 a_all_10], Ow.map r_2 (fun (x : Int × Int × Int × Int) => .agg #[.int .i64 x.1, .int .i64 x.2.1, .int .i64 x.2.2.1, .int .i64 x.2.2.2]) kI am_10, Ow.own 112 5 e_api_Given v_10 a_twice_9, Ow.own 3 1 encI vr_19 r_31]) (fr := fr) hS [1, 2, 3, 0, 4] 5 rfl (by decide) [Ow.box b_2 151 #[.map (some r_2), v_10, .int .i64 a_all_10], Ow.map r_2 (fun (x : Int × Int × Int × Int) => .agg #[.int .i64 x.1, .int .i64 x.2.1, .int .i64 x.2.2.1, .int .i64 x.2.2.2]) kI am_10, Ow.own 112 5 e_api_Given v_10 a_twice_9, Ow.own 112 5 e_api_Given vr_20 r_32, Ow.own 3 1 encI vr_19 r_31] rfl
                  refine HO.call (want_by rfl rfl c_12) rfl (ec en_91 rfl rfl) (audit_Audit_Clear_walk (fr := (Ow.own 112 5 e_api_Given vr_20 r_32 :: Ow.own 3 1 encI vr_19 r_31 :: fr)) am_10 a_twice_9 a_all_10 b_2 r_2 v_10 hS hM) ?_
                  rintro _ h_40 ⟨F_53, r_33, am_11, a_all_11, rfl, hk, hS, hM⟩
                  replace hK := hK.trans hk
                  replace hL_x := hL_x.kp hk
                  replace hL_y := hL_y.kp hk
                  replace hL_q_Want := hL_q_Want.kp hk
                  replace hL_5 := hL_5.kp hk
                  replace hL_15 := hL_15.kp hk
                  replace hL_16 := hL_16.kp hk
                  replace hL_17 := hL_17.kp hk
                  replace hL_18 := hL_18.kp hk
                  refine HO.val (v := .bool (decide (r_33 = 0))) (want_by rfl rfl c_12) rfl (q_eql rfl rfl) ?_
                  refine HO.val (v := .bool (decide (r_33 = 0))) (want_none) rfl (q_pickK true rfl c_12 rfl) ?_
                  refine HO.val (v := .bool (decide (r_33 = 0))) (want_none) rfl (q_move rfl) ?_
                  rcases Bool.eq_false_or_eq_true (decide (r_33 = 0)) with c_13 | c_13
                  · replace hM := hM.1 (of_decide_eq_true c_13)
                    refine HO.call (want_by rfl rfl c_13) rfl (ec en_80 rfl rfl) (law44_lives_walk (fr := (Ow.box b_2 151 #[.map (some r_2), .slice none 0 0, .int .i64 a_all_11] :: Ow.map r_2 (fun (x : Int × Int × Int × Int) => .agg #[.int .i64 x.1, .int .i64 x.2.1, .int .i64 x.2.2.1, .int .i64 x.2.2.2]) kI am_11 :: Ow.own 112 5 e_api_Given vr_20 r_32 :: Ow.own 3 1 encI vr_19 r_31 :: fr))  hS hM) ?_
                    rintro _ h_41 ⟨F_54, r_34, rfl, hk, hS, hM⟩
                    replace hK := hK.trans hk
                    replace hL_x := hL_x.kp hk
                    replace hL_y := hL_y.kp hk
                    replace hL_q_Want := hL_q_Want.kp hk
                    replace hL_5 := hL_5.kp hk
                    replace hL_15 := hL_15.kp hk
                    replace hL_16 := hL_16.kp hk
                    replace hL_17 := hL_17.kp hk
                    replace hL_18 := hL_18.kp hk
                    refine HO.val (v := .bool r_34) (want_none) rfl (q_pickK true rfl c_13 rfl) ?_
                    refine HO.val (v := .bool r_34) (want_none) rfl (q_assign rfl) ?_
                    refine HO.nil (thenQ_normal (?_))
                    refine HW.ret (?_)
                    refine ⟨.inr rfl, .bool r_34, res1 rfl (rt rfl), ?_⟩
                    replace hS : St F_54 (fr) h_41 := St.perm (front := [Ow.box b_2 151 #[.map (some r_2), .slice none 0 0, .int .i64 a_all_11], Ow.map r_2 (fun (x : Int × Int × Int × Int) => .agg #[.int .i64 x.1, .int .i64 x.2.1, .int .i64 x.2.2.1, .int .i64 x.2.2.2]) kI am_11, Ow.own 112 5 e_api_Given vr_20 r_32, Ow.own 3 1 encI vr_19 r_31]) (fr := fr) hS [] 4 rfl (by decide) [] rfl
                    exact ⟨F_54, r_34, rfl, hK, hS, hL_x, hL_y, hL_q_Want, hM⟩
                  · replace hM := hM.2 (of_decide_eq_false c_13)
                    refine HO.past (past_by rfl rfl c_13) rfl ?_
                    refine HO.val (v := .bool false) (want_none) rfl (q_pickK false rfl c_13 rfl) ?_
                    refine HO.val (v := .bool false) (want_none) rfl (q_assign rfl) ?_
                    refine HO.nil (thenQ_normal (?_))
                    refine HW.ret (?_)
                    refine ⟨.inr rfl, .bool false, res1 rfl (rt rfl), ?_⟩
                    replace hS : St F_53 (fr) h_40 := St.perm (front := [Ow.box b_2 151 #[.map (some r_2), .slice none 0 0, .int .i64 a_all_11], Ow.map r_2 (fun (x : Int × Int × Int × Int) => .agg #[.int .i64 x.1, .int .i64 x.2.1, .int .i64 x.2.2.1, .int .i64 x.2.2.2]) kI am_11, Ow.own 112 5 e_api_Given vr_20 r_32, Ow.own 3 1 encI vr_19 r_31]) (fr := fr) hS [] 4 rfl (by decide) [] rfl
                    exact ⟨F_53, false, rfl, hK, hS, hL_x, hL_y, hL_q_Want, hM⟩
                · replace hM := hM.2 (of_decide_eq_false c_12)
                  refine HO.past (past_by rfl rfl c_12) rfl ?_
                  refine HO.past (past_by rfl rfl c_12) rfl ?_
                  refine HO.past (past_by rfl rfl c_12) rfl ?_
                  refine HO.val (v := .bool false) (want_none) rfl (q_pickK false rfl c_12 rfl) ?_
                  refine HO.val (v := .bool false) (want_none) rfl (q_move rfl) ?_
                  refine HO.past (past_some rfl rfl) rfl ?_
                  refine HO.val (v := .bool false) (want_none) rfl (q_pick rfl rfl) ?_
                  refine HO.val (v := .bool false) (want_none) rfl (q_assign rfl) ?_
                  refine HO.nil (thenQ_normal (?_))
                  refine HW.ret (?_)
                  refine ⟨.inr rfl, .bool false, res1 rfl (rt rfl), ?_⟩
                  replace hS : St F_52 (fr) h_39 := St.perm (front := [Ow.own 112 5 e_api_Given vr_20 r_32, Ow.box b_2 151 #[.map (some r_2), v_10, .int .i64 a_all_10], Ow.map r_2 (fun (x : Int × Int × Int × Int) => .agg #[.int .i64 x.1, .int .i64 x.2.1, .int .i64 x.2.2.1, .int .i64 x.2.2.2]) kI am_10, Ow.own 112 5 e_api_Given v_10 a_twice_9, Ow.own 3 1 encI vr_19 r_31]) (fr := fr) hS [] 5 rfl (by decide) [] rfl
                  exact ⟨F_52, false, rfl, hK, hS, hL_x, hL_y, hL_q_Want, hM⟩
              · replace hM := hM.2 (of_decide_eq_false c_11)
                refine HO.past (past_by rfl rfl c_11) rfl ?_
                refine HO.past (past_by rfl rfl c_11) rfl ?_
                refine HO.past (past_by rfl rfl c_11) rfl ?_
                refine HO.past (past_by rfl rfl c_11) rfl ?_
                refine HO.val (v := .bool false) (want_none) rfl (q_pickK false rfl c_11 rfl) ?_
                refine HO.val (v := .bool false) (want_none) rfl (q_move rfl) ?_
                refine HO.past (past_some rfl rfl) rfl ?_
                refine HO.past (past_some rfl rfl) rfl ?_
                refine HO.past (past_some rfl rfl) rfl ?_
                refine HO.val (v := .bool false) (want_none) rfl (q_pick rfl rfl) ?_
                refine HO.val (v := .bool false) (want_none) rfl (q_move rfl) ?_
                refine HO.past (past_some rfl rfl) rfl ?_
                refine HO.val (v := .bool false) (want_none) rfl (q_pick rfl rfl) ?_
                refine HO.val (v := .bool false) (want_none) rfl (q_assign rfl) ?_
                refine HO.nil (thenQ_normal (?_))
                refine HW.ret (?_)
                refine ⟨.inr rfl, .bool false, res1 rfl (rt rfl), ?_⟩
                replace hS : St F_51 (fr) h_38 := St.perm (front := [Ow.own 3 1 encI vr_19 r_31, Ow.box b_2 151 #[.map (some r_2), v_9, .int .i64 a_all_9], Ow.map r_2 (fun (x : Int × Int × Int × Int) => .agg #[.int .i64 x.1, .int .i64 x.2.1, .int .i64 x.2.2.1, .int .i64 x.2.2.2]) kI am_9, Ow.own 112 5 e_api_Given v_9 a_twice_8]) (fr := fr) hS [] 4 rfl (by decide) [] rfl
                exact ⟨F_51, false, rfl, hK, hS, hL_x, hL_y, hL_q_Want, hM⟩
            · replace hM := hM.2 (of_decide_eq_false c_10)
              refine HO.past (past_by rfl rfl c_10) rfl ?_
              refine HO.past (past_by rfl rfl c_10) rfl ?_
              refine HO.past (past_by rfl rfl c_10) rfl ?_
              refine HO.past (past_by rfl rfl c_10) rfl ?_
              refine HO.val (v := .bool false) (want_none) rfl (q_pickK false rfl c_10 rfl) ?_
              refine HO.val (v := .bool false) (want_none) rfl (q_move rfl) ?_
              refine HO.past (past_some rfl rfl) rfl ?_
              refine HO.past (past_some rfl rfl) rfl ?_
              refine HO.past (past_some rfl rfl) rfl ?_
              refine HO.past (past_some rfl rfl) rfl ?_
              refine HO.val (v := .bool false) (want_none) rfl (q_pick rfl rfl) ?_
              refine HO.val (v := .bool false) (want_none) rfl (q_move rfl) ?_
              refine HO.past (past_some rfl rfl) rfl ?_
              refine HO.past (past_some rfl rfl) rfl ?_
              refine HO.past (past_some rfl rfl) rfl ?_
              refine HO.val (v := .bool false) (want_none) rfl (q_pick rfl rfl) ?_
              refine HO.val (v := .bool false) (want_none) rfl (q_move rfl) ?_
              refine HO.past (past_some rfl rfl) rfl ?_
              refine HO.val (v := .bool false) (want_none) rfl (q_pick rfl rfl) ?_
              refine HO.val (v := .bool false) (want_none) rfl (q_assign rfl) ?_
              refine HO.nil (thenQ_normal (?_))
              refine HW.ret (?_)
              refine ⟨.inr rfl, .bool false, res1 rfl (rt rfl), ?_⟩
              replace hS : St F_50 (fr) h_37 := St.perm (front := [Ow.box b_2 151 #[.map (some r_2), .slice none 0 0, .int .i64 a_all_8], Ow.map r_2 (fun (x : Int × Int × Int × Int) => .agg #[.int .i64 x.1, .int .i64 x.2.1, .int .i64 x.2.2.1, .int .i64 x.2.2.2]) kI am_8]) (fr := fr) hS [] 2 rfl (by decide) [] rfl
              exact ⟨F_50, false, rfl, hK, hS, hL_x, hL_y, hL_q_Want, hM⟩
end Go.Wk
