/- Walks of RoutePlays. -/
import Derived.Test.YtolmcabcmphkpaaRouW1
set_option linter.unusedSimpArgs false
set_option linter.unusedVariables false
set_option linter.unusedSectionVars false
namespace Go.Wk
open Go.HL
open Go.Proofs hiding encI
variable [DM]

def law23_RoutePlays_j3 (acts : List T_acequiaref23_Act) (Q : Bool → Prop) (now_1 : Int) (i_1 : Int) (K_1 : Int → (List (Int × Int)) → (List Bool) → Int → (List T_acequiaref23_One) → Int → Int → Prop) (a_1_1 : Int) (r_0_2 : Int) (r_1_0_2 : List (Int × Int)) (r_2_2 : List Bool) (x_0_2 : Int) (x_1_2 : List T_acequiaref23_One) : Prop :=
  ref23_R_Settle_W x_0_2 x_1_2 (now_1 + a_1_1) (fun r_Now_4 r_L_4 => route_Routes_Next_W r_0_2 r_1_0_2 r_2_2 (now_1 + a_1_1) (fun r0_1 r1_1 r_now_4 rm_4 r_fixed_4 => ref23_R_Next_W r_Now_4 r_L_4 (fun r0_2 r1_2 => route_Routes_Ports_W r_now_4 rm_4 r_fixed_4 (now_1 + a_1_1) (fun r_12 r_now_5 rm_5 r_fixed_5 => ref23_R_Ports_W r_Now_4 r_L_4 (fun r_13 => ref23_Same_W r_12 r_13 (fun r_14 => ((!r_14) = true → Q false) ∧ ((!r_14) = false → route_Routes_Is_W r_now_5 rm_5 r_fixed_5 (now_1 + a_1_1) ((gi acts i_1).2.2.1) (fun r_15 r_now_6 rm_6 r_fixed_6 => ref23_R_Is_W r_Now_4 r_L_4 ((gi acts i_1).2.2.1) (fun r_16 => ((!(r_15 == r_16)) = true → Q false) ∧ ((!(r_15 == r_16)) = false → route_Routes_Left_W r_now_6 rm_6 r_fixed_6 (now_1 + a_1_1) ((gi acts i_1).2.2.1) (fun r_17 r_now_7 rm_7 r_fixed_7 => ref23_R_Left_W r_Now_4 r_L_4 ((gi acts i_1).2.2.1) (fun r_18 => (¬ (r_17 = r_18) → Q false) ∧ (r_17 = r_18 → (¬ (r0_1 = r0_2) → Q false) ∧ (r0_1 = r0_2 → ((!(r1_1 == r1_2)) = true → Q false) ∧ ((!(r1_1 == r1_2)) = false → (I64 (i_1 + 1)) ∧ (K_1 r_now_7 rm_7 r_fixed_7 r_Now_4 r_L_4 (now_1 + a_1_1) (i_1 + 1)))))))))))))))))
def law23_RoutePlays_j2 (t : T_api_Tune) (acts : List T_acequiaref23_Act) (Q : Bool → Prop) (r_0_1 : Int) (r_1_0_1 : List (Int × Int)) (r_2_1 : List Bool) (x_0_1 : Int) (x_1_1 : List T_acequiaref23_One) (now_1 : Int) (i_1 : Int) (K_1 : Int → (List (Int × Int)) → (List Bool) → Int → (List T_acequiaref23_One) → Int → Int → Prop) (a_1_1 : Int) : Prop :=
  (I64 (now_1 + a_1_1)) ∧ ((((gi acts i_1).1) = 0 → route_Routes_Hear_W r_0_1 r_1_0_1 r_2_1 (now_1 + a_1_1) t ((gi acts i_1).2.2.1) (fun r_6 r_now_1 rm_1 r_fixed_1 => ref23_R_Hear_W x_0_1 x_1_1 (now_1 + a_1_1) t ((gi acts i_1).2.2.1) (fun r_7 r_Now_1 r_L_1 => ((!(r_6 == r_7)) = true → Q false) ∧ ((!(r_6 == r_7)) = false → (((gi acts i_1).1) = 1 → route_Routes_Fix_W r_now_1 rm_1 r_fixed_1 ((gi acts i_1).2.2.1) ((gi acts i_1).2.2.2) (fun r_8 r_now_2 rm_2 r_fixed_2 => ref23_R_Fix_W r_Now_1 r_L_1 ((gi acts i_1).2.2.1) ((gi acts i_1).2.2.2) (fun r_9 r_Now_2 r_L_2 => ((!(r_8 == r_9)) = true → Q false) ∧ ((!(r_8 == r_9)) = false → law23_RoutePlays_j3 acts Q now_1 i_1 K_1 a_1_1 r_now_2 rm_2 r_fixed_2 r_Now_2 r_L_2)))) ∧ (¬ (((gi acts i_1).1) = 1) → law23_RoutePlays_j3 acts Q now_1 i_1 K_1 a_1_1 r_now_1 rm_1 r_fixed_1 r_Now_1 r_L_1))))) ∧ (¬ (((gi acts i_1).1) = 0) → (((gi acts i_1).1) = 1 → route_Routes_Fix_W r_0_1 r_1_0_1 r_2_1 ((gi acts i_1).2.2.1) ((gi acts i_1).2.2.2) (fun r_10 r_now_3 rm_3 r_fixed_3 => ref23_R_Fix_W x_0_1 x_1_1 ((gi acts i_1).2.2.1) ((gi acts i_1).2.2.2) (fun r_11 r_Now_3 r_L_3 => ((!(r_10 == r_11)) = true → Q false) ∧ ((!(r_10 == r_11)) = false → law23_RoutePlays_j3 acts Q now_1 i_1 K_1 a_1_1 r_now_3 rm_3 r_fixed_3 r_Now_3 r_L_3)))) ∧ (¬ (((gi acts i_1).1) = 1) → law23_RoutePlays_j3 acts Q now_1 i_1 K_1 a_1_1 r_0_1 r_1_0_1 r_2_1 x_0_1 x_1_1)))
def law23_RoutePlays_j1 (t : T_api_Tune) (acts : List T_acequiaref23_Act) (Q : Bool → Prop) (r_0_1 : Int) (r_1_0_1 : List (Int × Int)) (r_2_1 : List Bool) (x_0_1 : Int) (x_1_1 : List T_acequiaref23_One) (now_1 : Int) (i_1 : Int) (K_1 : Int → (List (Int × Int)) → (List Bool) → Int → (List T_acequiaref23_One) → Int → Int → Prop) (b_5 : Bool) : Prop :=
  (b_5 = true → ((0 : Int) ≤ i_1 ∧ i_1 < (acts.length : Int)) ∧ ((1000000 < ((gi acts i_1).2.1) → law23_RoutePlays_j2 t acts Q r_0_1 r_1_0_1 r_2_1 x_0_1 x_1_1 now_1 i_1 K_1 1) ∧ (¬ (1000000 < ((gi acts i_1).2.1)) → (((gi acts i_1).2.1) < (-1000000) → law23_RoutePlays_j2 t acts Q r_0_1 r_1_0_1 r_2_1 x_0_1 x_1_1 now_1 i_1 K_1 1) ∧ (¬ (((gi acts i_1).2.1) < (-1000000)) → law23_RoutePlays_j2 t acts Q r_0_1 r_1_0_1 r_2_1 x_0_1 x_1_1 now_1 i_1 K_1 ((gi acts i_1).2.1))))) ∧ (b_5 = false → law23_lives_W  (fun r_19 => Q r_19))
def law23_RoutePlays_l1 (t : T_api_Tune) (acts : List T_acequiaref23_Act) (Q : Bool → Prop) (K_1 : Int → (List (Int × Int)) → (List Bool) → Int → (List T_acequiaref23_One) → Int → Int → Prop) (r_0_1 : Int) (r_1_0_1 : List (Int × Int)) (r_2_1 : List Bool) (x_0_1 : Int) (x_1_1 : List T_acequiaref23_One) (now_1 : Int) (i_1 : Int) : Prop :=
  (i_1 < (acts.length : Int) → law23_RoutePlays_j1 t acts Q r_0_1 r_1_0_1 r_2_1 x_0_1 x_1_1 now_1 i_1 K_1 (decide (i_1 < 20))) ∧ (¬ (i_1 < (acts.length : Int)) → law23_RoutePlays_j1 t acts Q r_0_1 r_1_0_1 r_2_1 x_0_1 x_1_1 now_1 i_1 K_1 false)
def law23_RoutePlays_W (n : Int) (t : T_api_Tune) (acts : List T_acequiaref23_Act) (Q : Bool → Prop) : Prop :=
  ref14_Good_W t (fun r_2 => ((!r_2) = true → law23_lives_W  (fun r_3 => Q r_3)) ∧ ((!r_2) = false → route_New_W n (ref23_New_W n (fun r_1_1 => route_Routes_Len_W 0 [] (List.replicate (min (max n 0) 32 : Int).toNat (default : Bool)) (fun r_5 => (¬ (r_5 = (r_1_1.length : Int)) → Q false) ∧ (r_5 = (r_1_1.length : Int) → loopW (fun (K_1 : (Int × (List (Int × Int)) × List Bool × Int × List T_acequiaref23_One × Int × Int) → Prop) (s : Int × (List (Int × Int)) × List Bool × Int × List T_acequiaref23_One × Int × Int) => law23_RoutePlays_l1 t acts Q (fun r_0_1 r_1_0_1 r_2_1 x_0_1 x_1_1 now_1 i_1 => K_1 (r_0_1, r_1_0_1, r_2_1, x_0_1, x_1_1, now_1, i_1)) s.1 s.2.1 s.2.2.1 s.2.2.2.1 s.2.2.2.2.1 s.2.2.2.2.2.1 s.2.2.2.2.2.2) (0, [], List.replicate (min (max n 0) 32 : Int).toNat (default : Bool), 0, r_1_1, 0, 0)))))))
set_option maxHeartbeats 40000000 in
set_option maxRecDepth 100000 in
theorem law23_RoutePlays_walk {F : Fz} {fr : List Ow} {h0 : Heap} (n : Int) (t : T_api_Tune) (acts : List T_acequiaref23_Act) (vacts : Value) (hS : St F (fr) h0) (hL_acts : SliceF F h0 4 e_acequiaref23_Act vacts acts) {Q : Bool → Prop} (hM : law23_RoutePlays_W n t acts Q) :
    HC Try.prog 6 #[.int .i64 n, .agg (e_api_Tune t).toArray, vacts] h0 fun u h' => ∃ (F' : Fz) (r_1 : Bool), u = .bool r_1 ∧ Kp F h0 F' h' ∧ St F' (fr) h' ∧ (SliceF F' h' 4 e_acequiaref23_Act vacts acts) ∧ Q r_1 := by
  unfold law23_RoutePlays_W at hM
  have hK := Kp.refl F h0
  refine HC.of_HW (n := 153) Try.func6 rfl rfl (Nat.le_of_ble_eq_true rfl) ?_
  refine HW.seq ?_
  refine HW.region ?_
  refine HO.eff (want_none) rfl (st_box (c := (e_api_Tune t).toArray) (k' := 5) hS rfl rfl) ?_
  rintro _ h_1 ⟨b_1, rfl, hS, hk⟩
  replace hK := hK.trans hk
  replace hL_acts := hL_acts.kp hk
  refine HO.val (v := .bool false) (want_none) rfl (q_assign rfl) ?_
  refine HO.nil (thenQ_normal (?_))
  refine HW.seq ?_
  refine HW.seq ?_
  refine HW.region ?_
  refine HO.val (v := .agg (e_api_Tune t).toArray) (want_none) rfl (q_loadAgg (cs := (e_api_Tune t)) ta_50 rfl rfl (Blk.cells (k := 5) (hS.box 0 rfl) rfl)) ?_
  refine HO.call (want_none) rfl (ec en_26 rfl rfl) (ref14_Good_walk (fr := (Ow.box b_1 50 (e_api_Tune t).toArray :: fr)) t hS hM) ?_
  rintro _ h_2 ⟨F_1, r_2, rfl, hk, hS, hM⟩
  replace hK := hK.trans hk
  replace hL_acts := hL_acts.kp hk
  refine HO.val (v := .bool (!r_2)) (want_none) rfl (q_not rfl) ?_
  refine HO.nil (thenQ_normal (?_))
  refine HW.cond (!r_2) rfl (fun c_1 => ?_) (fun c_1 => ?_)
  · replace hM := hM.1 c_1
    refine HW.seq ?_
    refine HW.region ?_
    refine HO.call (want_none) rfl (ec en_27 rfl rfl) (law23_lives_walk (fr := (Ow.box b_1 50 (e_api_Tune t).toArray :: fr))  hS hM) ?_
    rintro _ h_3 ⟨F_2, r_3, rfl, hk, hS, hM⟩
    replace hK := hK.trans hk
    replace hL_acts := hL_acts.kp hk
    refine HO.val (v := .bool r_3) (want_none) rfl (q_assign rfl) ?_
    refine HO.nil (thenQ_normal (?_))
    refine HW.ret (thenQ_ret (?_))
    refine ⟨.inr rfl, .bool r_3, res1 rfl (rt rfl), ?_⟩
    replace hS : St F_2 (fr) h_3 := hS.perm2 [] 1 rfl rfl
    exact ⟨F_2, r_3, rfl, hK, hS, hL_acts, hM⟩
  · replace hM := hM.2 c_1
    refine HW.skip (thenQ_normal (?_))
    refine HW.seq ?_
    refine HW.region ?_
    refine HO.val (v := .int .i64 n) (want_none) rfl (q_move rfl) ?_
    refine HO.call (want_none) rfl (ec en_28 rfl rfl) (route_New_walk (fr := (Ow.box b_1 50 (e_api_Tune t).toArray :: fr)) n hS hM) ?_
    rintro _ h_4 ⟨F_3, b_2, b_3, r_4, vr_2_1, rfl, hk, hS, hM⟩
    replace hK := hK.trans hk
    replace hL_acts := hL_acts.kp hk
    refine HO.val (v := .int .i64 n) (want_none) rfl (q_move rfl) ?_
    refine HO.call (want_none) rfl (ec en_29 rfl rfl) (ref23_New_walk (fr := (Ow.box b_2 94 #[.int .i64 0, .pointer (some ⟨b_3, 0, none⟩), vr_2_1] :: Ow.box b_3 106 #[.map (some r_4)] :: Ow.map r_4 kI kI ([] : List (Int × Int)) :: Ow.own 4 1 encB vr_2_1 (List.replicate (min (max n 0) 32 : Int).toNat (default : Bool)) :: Ow.box b_1 50 (e_api_Tune t).toArray :: fr)) n hS hM) ?_
    rintro _ h_5 ⟨F_4, r_1_1, b_4, vr_1_1, rfl, hk, hS, hM⟩
    replace hK := hK.trans hk
    replace hL_acts := hL_acts.kp hk
    refine HO.val (v := .pointer (some ⟨b_2, 0, none⟩)) (want_none) rfl (q_assign rfl) ?_
    refine HO.val (v := .pointer (some ⟨b_4, 0, none⟩)) (want_none) rfl (q_assign rfl) ?_
    refine HO.val (v := .int .i64 0) (want_none) rfl (q_assign rfl) ?_
    refine HO.nil (thenQ_normal (?_))
    refine HW.seq ?_
    refine HW.seq ?_
    refine HW.regionA 8 mixed (fun h => (Blk h b_4 (.cells #[.int .i64 0, vr_1_1] 59 (0, 0))) ∧ (OwnIs h 0 98 2 e_acequiaref23_One vr_1_1 r_1_1)) [] (by kernel_rfl) ?_
    refine HA.val (k := 0) (v := .pointer (some ⟨b_2, 0, none⟩)) rfl rfl (by kernel_rfl) (by kernel_rfl) (want_none) rfl (fun _ ⟨c206, c207⟩ => q_move rfl) ?_
    refine HA.val (k := 2) (v := .pointer (some ⟨b_4, 0, none⟩)) rfl rfl (by kernel_rfl) (by kernel_rfl) (want_none) rfl (fun _ ⟨c206, c207⟩ => q_move rfl) ?_
    refine HA.val (k := 3) (v := .pointer (some ⟨b_4, 0, none⟩)) rfl rfl (by kernel_rfl) (by kernel_rfl) (want_none) rfl (fun _ ⟨c206, c207⟩ => q_nilCheck rfl) ?_
    refine HA.val (k := 4) (v := .pointer (some ⟨b_4, 1, none⟩)) rfl rfl (by kernel_rfl) (by kernel_rfl) (want_none) rfl (fun _ ⟨c206, c207⟩ => q_fieldAddr fa_59_1 rfl rfl) ?_
    refine HA.val (k := 5) (v := vr_1_1) rfl rfl (by kernel_rfl) (by kernel_rfl) (want_none) rfl (fun _ ⟨c206, c207⟩ => q_load to_57 rfl (Blk.cell c206 rfl)) ?_
    refine HA.val (k := 6) (v := .int .i64 (r_1_1.length : Int)) rfl rfl (by kernel_rfl) (by kernel_rfl) (want_none) rfl (fun _ ⟨c206, c207⟩ => q_len ts_57 (shp c207.slice) rfl rfl) ?_
    refine HA.one (k := 1) ⟨⟨(hS.box 0 rfl), (hS.own 1 rfl)⟩, (Go.Wk.at_nil _ _)⟩ (by kernel_rfl) ?_
    replace hS : St F_4 (Ow.box b_2 94 #[.int .i64 0, .pointer (some ⟨b_3, 0, none⟩), vr_2_1] :: Ow.box b_4 59 #[.int .i64 0, vr_1_1] :: Ow.own 98 2 e_acequiaref23_One vr_1_1 r_1_1 :: Ow.box b_3 106 #[.map (some r_4)] :: Ow.map r_4 kI kI ([] : List (Int × Int)) :: Ow.own 4 1 encB vr_2_1 (List.replicate (min (max n 0) 32 : Int).toNat (default : Bool)) :: Ow.box b_1 50 (e_api_Tune t).toArray :: fr) h_5 := hS.perm2 [2, 0, 1, 3, 4, 5, 6] 7 rfl rfl
    have hZ_1 := hS
    have hkz_1 := (hS.freeze).2
    replace hS := hS.freeze.1
    have hL_1 := hZ_1.lent
    replace hS : St (fun b => F_4 b ∨ (Ow.box b_2 94 #[.int .i64 0, .pointer (some ⟨b_3, 0, none⟩), vr_2_1]).foot b) (Ow.box b_3 106 #[.map (some r_4)] :: Ow.box b_4 59 #[.int .i64 0, vr_1_1] :: Ow.own 98 2 e_acequiaref23_One vr_1_1 r_1_1 :: Ow.map r_4 kI kI ([] : List (Int × Int)) :: Ow.own 4 1 encB vr_2_1 (List.replicate (min (max n 0) 32 : Int).toNat (default : Bool)) :: Ow.box b_1 50 (e_api_Tune t).toArray :: fr) h_5 := hS.perm2 [2, 0, 1, 3, 4, 5] 6 rfl rfl
    have hZ_2 := hS
    have hkz_2 := (hS.freeze).2
    replace hS := hS.freeze.1
    have hL_2 := hZ_2.lent
    replace hS : St (fun b => (fun b => F_4 b ∨ (Ow.box b_2 94 #[.int .i64 0, .pointer (some ⟨b_3, 0, none⟩), vr_2_1]).foot b) b ∨ (Ow.box b_3 106 #[.map (some r_4)]).foot b) (Ow.map r_4 kI kI ([] : List (Int × Int)) :: Ow.box b_4 59 #[.int .i64 0, vr_1_1] :: Ow.own 98 2 e_acequiaref23_One vr_1_1 r_1_1 :: Ow.own 4 1 encB vr_2_1 (List.replicate (min (max n 0) 32 : Int).toNat (default : Bool)) :: Ow.box b_1 50 (e_api_Tune t).toArray :: fr) h_5 := hS.perm2 [2, 0, 1, 3, 4] 5 rfl rfl
    have hZ_3 := hS
    have hkz_3 := (hS.freeze).2
    replace hS := hS.freeze.1
    have hL_3 := hZ_3.lent
    replace hS : St (fun b => (fun b => (fun b => F_4 b ∨ (Ow.box b_2 94 #[.int .i64 0, .pointer (some ⟨b_3, 0, none⟩), vr_2_1]).foot b) b ∨ (Ow.box b_3 106 #[.map (some r_4)]).foot b) b ∨ (Ow.map r_4 kI kI ([] : List (Int × Int))).foot b) (Ow.own 4 1 encB vr_2_1 (List.replicate (min (max n 0) 32 : Int).toNat (default : Bool)) :: Ow.box b_4 59 #[.int .i64 0, vr_1_1] :: Ow.own 98 2 e_acequiaref23_One vr_1_1 r_1_1 :: Ow.box b_1 50 (e_api_Tune t).toArray :: fr) h_5 := hS.perm2 [2, 0, 1, 3] 4 rfl rfl
    have hZ_4 := hS
    have hkz_4 := (hS.freeze).2
    replace hS := hS.freeze.1
    have hL_4 : SliceF (fun b => (fun b => (fun b => (fun b => F_4 b ∨ (Ow.box b_2 94 #[.int .i64 0, .pointer (some ⟨b_3, 0, none⟩), vr_2_1]).foot b) b ∨ (Ow.box b_3 106 #[.map (some r_4)]).foot b) b ∨ (Ow.map r_4 kI kI ([] : List (Int × Int))).foot b) b ∨ (Ow.own 4 1 encB vr_2_1 (List.replicate (min (max n 0) 32 : Int).toNat (default : Bool))).foot b) h_5 1 encB vr_2_1 (List.replicate (min (max n 0) 32 : Int).toNat (default : Bool)) := ⟨(hZ_4.own 0 rfl).slice, fun _ b hb => .inr hb⟩
    refine HS.call rfl (want_none) rfl (ec en_30 rfl rfl) (route_Routes_Len_walk (fr := (Ow.box b_4 59 #[.int .i64 0, vr_1_1] :: Ow.own 98 2 e_acequiaref23_One vr_1_1 r_1_1 :: Ow.box b_1 50 (e_api_Tune t).toArray :: fr)) 0 [] (List.replicate (min (max n 0) 32 : Int).toNat (default : Bool)) b_2 b_3 r_4 vr_2_1 hS (hL_3.kp hkz_4) ((hL_2.kp hkz_3).kp hkz_4) hL_4 (((hL_1.kp hkz_2).kp hkz_3).kp hkz_4) hM) ?_
    rintro _ h_6 ⟨F_5, r_5, rfl, hk, hS, _, _, _, _, hM⟩
    obtain ⟨hS, hk⟩ := hZ_4.back hk hS
    obtain ⟨hS, hk⟩ := hZ_3.back hk hS
    obtain ⟨hS, hk⟩ := hZ_2.back hk hS
    obtain ⟨hS, hk⟩ := hZ_1.back hk hS
    generalize (fun b => (fun b => (fun b => (fun b => F_5 b ∧ ¬ (Ow.own 4 1 encB vr_2_1 (List.replicate (min (max n 0) 32 : Int).toNat (default : Bool))).foot b) b ∧ ¬ (Ow.map r_4 kI kI ([] : List (Int × Int))).foot b) b ∧ ¬ (Ow.box b_3 106 #[.map (some r_4)]).foot b) b ∧ ¬ (Ow.box b_2 94 #[.int .i64 0, .pointer (some ⟨b_3, 0, none⟩), vr_2_1]).foot b) = F_6 at hS hk
    replace hK := hK.trans hk
    replace hL_acts := hL_acts.kp hk
    refine HA.val (k := 7) (v := .bool (!decide (r_5 = (r_1_1.length : Int)))) rfl rfl (by kernel_rfl) (by kernel_rfl) (want_none) rfl (fun _ ⟨c206, c207⟩ => q_neq rfl rfl) ?_
    refine HA.nil ⟨⟨(hS.box 4 rfl), (hS.own 5 rfl)⟩, (Go.Wk.at_nil _ _)⟩ (by kernel_rfl) (thenQ_normal (?_))
    refine HW.cond (!decide (r_5 = (r_1_1.length : Int))) rfl (fun c_2 => ?_) (fun c_2 => ?_)
    · replace hM := hM.1 (nd_true c_2)
      refine HW.seq ?_
      refine HW.region ?_
      refine HO.val (v := .bool false) (want_none) rfl (q_assign rfl) ?_
      refine HO.nil (thenQ_normal (?_))
      refine HW.ret (thenQ_ret (?_))
      refine ⟨.inr rfl, .bool false, res1 rfl (rt rfl), ?_⟩
      replace hS : St F_6 (fr) h_6 := hS.perm2 [] 7 rfl rfl
      exact ⟨F_6, false, rfl, hK, hS, hL_acts, hM⟩
    · replace hM := hM.2 (nd_false c_2)
      refine HW.skip (thenQ_normal (?_))
      refine HW.seq ?_
      refine HW.seq ?_
      refine HW.region ?_
      refine HO.val (v := .int .i64 0) (want_none) rfl (q_assign rfl) ?_
      refine HO.nil (thenQ_normal (?_))
      refine HW.block ?_
      obtain ⟨I_1, m_1, hI_1, hR_1⟩ := hM
      replace hS : St F_6 (Ow.box b_1 50 (e_api_Tune t).toArray :: Ow.box b_2 94 #[.int .i64 0, .pointer (some ⟨b_3, 0, none⟩), vr_2_1] :: Ow.box b_3 106 #[.map (some r_4)] :: Ow.map r_4 kI kI ([] : List (Int × Int)) :: Ow.own 4 1 encB vr_2_1 (List.replicate (min (max n 0) 32 : Int).toNat (default : Bool)) :: Ow.box b_4 59 #[.int .i64 0, vr_1_1] :: Ow.own 98 2 e_acequiaref23_One vr_1_1 r_1_1 :: fr) h_6 := hS.perm2 [6, 0, 1, 2, 3, 4, 5] 7 rfl rfl
      refine HW.loop (S := Int × (List (Int × Int)) × List Bool × Int × List T_acequiaref23_One × Int × Int) (fun s f h => match s with | (r_0_1, r_1_0_1, r_2_1, x_0_1, x_1_1, now_1, i_1) => ∃ (F' : Fz) (vr_2_2 : Value) (vx_1_1 : Value), f 2 = vacts ∧ f 4 = .pointer (some ⟨b_1, 0, none⟩) ∧ f 6 = .bool false ∧ f 7 = .pointer (some ⟨b_2, 0, none⟩) ∧ f 8 = .pointer (some ⟨b_4, 0, none⟩) ∧ f 9 = .int .i64 now_1 ∧ f 10 = .int .i64 i_1 ∧ Kp F h0 F' h ∧ St F' (Ow.box b_1 50 (e_api_Tune t).toArray :: Ow.box b_2 94 #[.int .i64 r_0_1, .pointer (some ⟨b_3, 0, none⟩), vr_2_2] :: Ow.box b_3 106 #[.map (some r_4)] :: Ow.map r_4 kI kI r_1_0_1 :: Ow.own 4 1 encB vr_2_2 r_2_1 :: Ow.box b_4 59 #[.int .i64 x_0_1, vx_1_1] :: Ow.own 98 2 e_acequiaref23_One vx_1_1 x_1_1 :: fr) h ∧ (SliceF F' h 4 e_acequiaref23_Act vacts acts) ∧ I_1 (r_0_1, r_1_0_1, r_2_1, x_0_1, x_1_1, now_1, i_1)) m_1 (0, [], List.replicate (min (max n 0) 32 : Int).toNat (default : Bool), 0, r_1_1, 0, 0) ⟨F_6, vr_2_1, vr_1_1, rfl, rfl, rfl, rfl, rfl, rfl, rfl, hK, hS, hL_acts, hI_1⟩ ?_
      rintro ⟨r_0_1, r_1_0_1, r_2_1, x_0_1, x_1_1, now_1, i_1⟩ f_1 h_7 ⟨F_7, vr_2_2, vx_1_1, e2, e4, e6, e7, e8, e9, e10, hK, hS, hL_acts, hI0⟩
      obtain ⟨K_1, hKe_1⟩ : ∃ K : Int → (List (Int × Int)) → (List Bool) → Int → (List T_acequiaref23_One) → Int → Int → Prop, K = fun r_0_1' r_1_0_1' r_2_1' x_0_1' x_1_1' now_1' i_1' => I_1 (r_0_1', r_1_0_1', r_2_1', x_0_1', x_1_1', now_1', i_1') ∧ m_1 (r_0_1', r_1_0_1', r_2_1', x_0_1', x_1_1', now_1', i_1') < m_1 (r_0_1, r_1_0_1, r_2_1, x_0_1, x_1_1, now_1, i_1) := ⟨_, rfl⟩
      have hM : law23_RoutePlays_l1 t acts Q K_1 r_0_1 r_1_0_1 r_2_1 x_0_1 x_1_1 now_1 i_1 := by rw [hKe_1]; exact hR_1 (r_0_1, r_1_0_1, r_2_1, x_0_1, x_1_1, now_1, i_1) hI0
      unfold law23_RoutePlays_l1 at hM
      refine HW.fr [(2, vacts), (4, .pointer (some ⟨b_1, 0, none⟩)), (6, .bool false), (7, .pointer (some ⟨b_2, 0, none⟩)), (8, .pointer (some ⟨b_4, 0, none⟩)), (9, .int .i64 now_1), (10, .int .i64 i_1)] ⟨e2, e4, e6, e7, e8, e9, e10, trivial⟩ ?_
      refine HW.seq ?_
      refine HW.seq_mid (fun f h => ∃ (F' : Fz) (b_5 : Bool), f 2 = vacts ∧ f 4 = .pointer (some ⟨b_1, 0, none⟩) ∧ f 6 = .bool false ∧ f 7 = .pointer (some ⟨b_2, 0, none⟩) ∧ f 8 = .pointer (some ⟨b_4, 0, none⟩) ∧ f 9 = .int .i64 now_1 ∧ f 10 = .int .i64 i_1 ∧ f 39 = .bool b_5 ∧ Kp F h0 F' h ∧ St F' (Ow.box b_1 50 (e_api_Tune t).toArray :: Ow.box b_2 94 #[.int .i64 r_0_1, .pointer (some ⟨b_3, 0, none⟩), vr_2_2] :: Ow.box b_3 106 #[.map (some r_4)] :: Ow.map r_4 kI kI r_1_0_1 :: Ow.own 4 1 encB vr_2_2 r_2_1 :: Ow.box b_4 59 #[.int .i64 x_0_1, vx_1_1] :: Ow.own 98 2 e_acequiaref23_One vx_1_1 x_1_1 :: fr) h ∧ (SliceF F' h 4 e_acequiaref23_Act vacts acts) ∧ law23_RoutePlays_j1 t acts Q r_0_1 r_1_0_1 r_2_1 x_0_1 x_1_1 now_1 i_1 K_1 b_5) ?_ ?_
      · refine HW.region ?_
        refine HO.val (v := .int .i64 i_1) (want_none) rfl (q_move rfl) ?_
        refine HO.val (v := vacts) (want_none) rfl (q_move rfl) ?_
        refine HO.val (v := .int .i64 (acts.length : Int)) (want_none) rfl (q_len ts_51 (shp hL_acts.is) rfl rfl) ?_
        refine HO.val (v := .bool (decide (i_1 < (acts.length : Int)))) (want_none) rfl (q_lss rfl rfl) ?_
        refine HO.val (v := .bool (decide (i_1 < (acts.length : Int)))) (want_none) rfl (q_move rfl) ?_
        rcases Bool.eq_false_or_eq_true (decide (i_1 < (acts.length : Int))) with c_3 | c_3
        · replace hM := hM.1 (of_decide_eq_true c_3)
          refine HO.val (v := .int .i64 i_1) (want_by rfl rfl c_3) rfl (q_move rfl) ?_
          refine HO.val (v := .bool (decide (i_1 < 20))) (want_by rfl rfl c_3) rfl (q_lss rfl rfl) ?_
          refine HO.val (v := .bool (decide (i_1 < 20))) (want_none) rfl (q_pickK true rfl c_3 rfl) ?_
          refine HO.nil (thenQ_normal (?_))
          exact ⟨F_7, decide (i_1 < 20), rfl, rfl, rfl, rfl, rfl, rfl, rfl, rfl, hK, hS, hL_acts, hM⟩
        · replace hM := hM.2 (of_decide_eq_false c_3)
          refine HO.past (past_by rfl rfl c_3) rfl ?_
          refine HO.past (past_by rfl rfl c_3) rfl ?_
          refine HO.val (v := .bool false) (want_none) rfl (q_pickK false rfl c_3 rfl) ?_
          refine HO.nil (thenQ_normal (?_))
          exact ⟨F_7, false, rfl, rfl, rfl, rfl, rfl, rfl, rfl, rfl, hK, hS, hL_acts, hM⟩
      · rintro f_2 h_8 ⟨F_8, b_5, e2, e4, e6, e7, e8, e9, e10, e39, hK, hS, hL_acts, hM⟩
        unfold law23_RoutePlays_j1 at hM
        refine HW.fr [(2, vacts), (4, .pointer (some ⟨b_1, 0, none⟩)), (6, .bool false), (7, .pointer (some ⟨b_2, 0, none⟩)), (8, .pointer (some ⟨b_4, 0, none⟩)), (9, .int .i64 now_1), (10, .int .i64 i_1), (39, .bool b_5)] ⟨e2, e4, e6, e7, e8, e9, e10, e39, trivial⟩ ?_
        refine HW.cond b_5 rfl (fun c_4 => ?_) (fun c_4 => ?_)
        · replace hM := hM.1 c_4
          refine HW.skip (thenQ_normal (?_))
          refine HW.seq ?_
          refine HW.block ?_
          refine HW.seq ?_
          refine HW.region ?_
          refine HO.val (v := vacts) (want_none) rfl (q_move rfl) ?_
          refine HO.val (v := .int .i64 i_1) (want_none) rfl (q_move rfl) ?_
          obtain ⟨ho_1, hM⟩ := hM
          refine HO.val (v := elemPtr 4 vacts (i_1).toNat) (want_none) rfl (q_idx ts_51 hL_acts.is rfl rfl ho_1) ?_
          refine HO.val (v := .agg #[.int .i64 ((gi acts i_1).1), .int .i64 ((gi acts i_1).2.1), .int .i64 ((gi acts i_1).2.2.1), .bool ((gi acts i_1).2.2.2)]) (want_none) rfl (q_ldElemAgg (cs := [.int .i64 ((gi acts i_1).1), .int .i64 ((gi acts i_1).2.1), .int .i64 ((gi acts i_1).2.2.1), .bool ((gi acts i_1).2.2.2)]) ta_61 hL_acts.is rfl ho_1 rfl) ?_
          refine HO.eff (want_none) rfl (st_alloc (c := #[.int .i64 0, .int .i64 0, .int .i64 0, .bool false]) hS tz_61 rfl) ?_
          rintro _ h_9 ⟨b_6, rfl, hS, hk⟩
          replace hK := hK.trans hk
          replace hL_acts := hL_acts.kp hk
          refine HO.sto (want_none) rfl (st_storeAgg (c' := #[.int .i64 ((gi acts i_1).1), .int .i64 ((gi acts i_1).2.1), .int .i64 ((gi acts i_1).2.2.1), .bool ((gi acts i_1).2.2.2)]) hS (i := 0) rfl ta_61 rfl rfl rfl (by simp [Value.oneCell']) (Nat.le_of_ble_eq_true rfl) rfl) ?_
          rintro h_10 ⟨hS, hk⟩
          replace hS : St F_8 (Ow.box b_6 61 #[.int .i64 ((gi acts i_1).1), .int .i64 ((gi acts i_1).2.1), .int .i64 ((gi acts i_1).2.2.1), .bool ((gi acts i_1).2.2.2)] :: Ow.box b_1 50 (e_api_Tune t).toArray :: Ow.box b_2 94 #[.int .i64 r_0_1, .pointer (some ⟨b_3, 0, none⟩), vr_2_2] :: Ow.box b_3 106 #[.map (some r_4)] :: Ow.map r_4 kI kI r_1_0_1 :: Ow.own 4 1 encB vr_2_2 r_2_1 :: Ow.box b_4 59 #[.int .i64 x_0_1, vx_1_1] :: Ow.own 98 2 e_acequiaref23_One vx_1_1 x_1_1 :: fr) h_10 := hS
          replace hK := hK.trans hk
          replace hL_acts := hL_acts.kp hk
          refine HO.nil (thenQ_normal (?_))
          refine HW.seq_mid (fun f h => ∃ (F' : Fz) (a_1_1 : Int), f 2 = vacts ∧ f 4 = .pointer (some ⟨b_1, 0, none⟩) ∧ f 6 = .bool false ∧ f 7 = .pointer (some ⟨b_2, 0, none⟩) ∧ f 8 = .pointer (some ⟨b_4, 0, none⟩) ∧ f 9 = .int .i64 now_1 ∧ f 10 = .int .i64 i_1 ∧ f 11 = .pointer (some ⟨b_6, 0, none⟩) ∧ Kp F h0 F' h ∧ St F' (Ow.box b_1 50 (e_api_Tune t).toArray :: Ow.box b_2 94 #[.int .i64 r_0_1, .pointer (some ⟨b_3, 0, none⟩), vr_2_2] :: Ow.box b_3 106 #[.map (some r_4)] :: Ow.map r_4 kI kI r_1_0_1 :: Ow.own 4 1 encB vr_2_2 r_2_1 :: Ow.box b_4 59 #[.int .i64 x_0_1, vx_1_1] :: Ow.own 98 2 e_acequiaref23_One vx_1_1 x_1_1 :: Ow.box b_6 61 #[.int .i64 ((gi acts i_1).1), .int .i64 a_1_1, .int .i64 ((gi acts i_1).2.2.1), .bool ((gi acts i_1).2.2.2)] :: fr) h ∧ (SliceF F' h 4 e_acequiaref23_Act vacts acts) ∧ law23_RoutePlays_j2 t acts Q r_0_1 r_1_0_1 r_2_1 x_0_1 x_1_1 now_1 i_1 K_1 a_1_1) ?_ ?_
          · refine HW.seq ?_
            refine HW.region ?_
            refine HO.val (v := .pointer (some ⟨b_6, 1, none⟩)) (want_none) rfl (q_fieldAddr fa_61_1 rfl rfl) ?_
            refine HO.val (v := .int .i64 ((gi acts i_1).2.1)) (want_none) rfl (q_load to_3 rfl (Blk.cell (hS.box 0 rfl) rfl)) ?_
            refine HO.val (v := .bool (decide (1000000 < ((gi acts i_1).2.1)))) (want_none) rfl (q_gtr rfl rfl) ?_
            refine HO.val (v := .bool (decide (1000000 < ((gi acts i_1).2.1)))) (want_none) rfl (q_move rfl) ?_
            rcases Bool.eq_false_or_eq_true (decide (1000000 < ((gi acts i_1).2.1))) with c_5 | c_5
            · replace hM := hM.1 (of_decide_eq_true c_5)
              refine HO.past (past_by rfl rfl c_5) rfl ?_
              refine HO.past (past_by rfl rfl c_5) rfl ?_
              refine HO.past (past_by rfl rfl c_5) rfl ?_
              refine HO.val (v := .bool true) (want_none) rfl (q_pickK true rfl c_5 rfl) ?_
              refine HO.nil (thenQ_normal (?_))
              refine HW.condT rfl ?_
              refine HW.region ?_
              refine HO.val (v := .pointer (some ⟨b_6, 1, none⟩)) (want_none) rfl (q_fieldAddr fa_61_1 rfl rfl) ?_
              refine HO.sto (want_none) rfl (st_store (c' := #[.int .i64 ((gi acts i_1).1), .int .i64 1, .int .i64 ((gi acts i_1).2.2.1), .bool ((gi acts i_1).2.2.2)]) hS (i := 0) rfl to_3 rfl rfl rfl rfl (Nat.le_of_ble_eq_true rfl) rfl) ?_
              rintro h_11 ⟨hS, hk⟩
              replace hS : St F_8 (Ow.box b_6 61 #[.int .i64 ((gi acts i_1).1), .int .i64 1, .int .i64 ((gi acts i_1).2.2.1), .bool ((gi acts i_1).2.2.2)] :: Ow.box b_1 50 (e_api_Tune t).toArray :: Ow.box b_2 94 #[.int .i64 r_0_1, .pointer (some ⟨b_3, 0, none⟩), vr_2_2] :: Ow.box b_3 106 #[.map (some r_4)] :: Ow.map r_4 kI kI r_1_0_1 :: Ow.own 4 1 encB vr_2_2 r_2_1 :: Ow.box b_4 59 #[.int .i64 x_0_1, vx_1_1] :: Ow.own 98 2 e_acequiaref23_One vx_1_1 x_1_1 :: fr) h_11 := hS
              replace hK := hK.trans hk
              replace hL_acts := hL_acts.kp hk
              refine HO.nil (thenQ_normal (?_))
              replace hS : St F_8 (Ow.box b_1 50 (e_api_Tune t).toArray :: Ow.box b_2 94 #[.int .i64 r_0_1, .pointer (some ⟨b_3, 0, none⟩), vr_2_2] :: Ow.box b_3 106 #[.map (some r_4)] :: Ow.map r_4 kI kI r_1_0_1 :: Ow.own 4 1 encB vr_2_2 r_2_1 :: Ow.box b_4 59 #[.int .i64 x_0_1, vx_1_1] :: Ow.own 98 2 e_acequiaref23_One vx_1_1 x_1_1 :: Ow.box b_6 61 #[.int .i64 ((gi acts i_1).1), .int .i64 1, .int .i64 ((gi acts i_1).2.2.1), .bool ((gi acts i_1).2.2.2)] :: fr) h_11 := hS.perm2 [1, 2, 3, 4, 5, 6, 7, 0] 8 rfl rfl
              exact ⟨F_8, 1, rfl, rfl, rfl, rfl, rfl, rfl, rfl, rfl, hK, hS, hL_acts, hM⟩
            · replace hM := hM.2 (of_decide_eq_false c_5)
              refine HO.val (v := .pointer (some ⟨b_6, 1, none⟩)) (want_by rfl rfl c_5) rfl (q_fieldAddr fa_61_1 rfl rfl) ?_
              refine HO.val (v := .int .i64 ((gi acts i_1).2.1)) (want_by rfl rfl c_5) rfl (q_load to_3 rfl (Blk.cell (hS.box 0 rfl) rfl)) ?_
              refine HO.val (v := .bool (decide (((gi acts i_1).2.1) < (-1000000)))) (want_by rfl rfl c_5) rfl (q_lss rfl rfl) ?_
              refine HO.val (v := .bool (decide (((gi acts i_1).2.1) < (-1000000)))) (want_none) rfl (q_pickK false rfl c_5 rfl) ?_
              refine HO.nil (thenQ_normal (?_))
              refine HW.cond (decide (((gi acts i_1).2.1) < (-1000000))) rfl (fun c_6 => ?_) (fun c_6 => ?_)
              · replace hM := hM.1 (of_decide_eq_true c_6)
                refine HW.region ?_
                refine HO.val (v := .pointer (some ⟨b_6, 1, none⟩)) (want_none) rfl (q_fieldAddr fa_61_1 rfl rfl) ?_
                refine HO.sto (want_none) rfl (st_store (c' := #[.int .i64 ((gi acts i_1).1), .int .i64 1, .int .i64 ((gi acts i_1).2.2.1), .bool ((gi acts i_1).2.2.2)]) hS (i := 0) rfl to_3 rfl rfl rfl rfl (Nat.le_of_ble_eq_true rfl) rfl) ?_
                rintro h_12 ⟨hS, hk⟩
                replace hS : St F_8 (Ow.box b_6 61 #[.int .i64 ((gi acts i_1).1), .int .i64 1, .int .i64 ((gi acts i_1).2.2.1), .bool ((gi acts i_1).2.2.2)] :: Ow.box b_1 50 (e_api_Tune t).toArray :: Ow.box b_2 94 #[.int .i64 r_0_1, .pointer (some ⟨b_3, 0, none⟩), vr_2_2] :: Ow.box b_3 106 #[.map (some r_4)] :: Ow.map r_4 kI kI r_1_0_1 :: Ow.own 4 1 encB vr_2_2 r_2_1 :: Ow.box b_4 59 #[.int .i64 x_0_1, vx_1_1] :: Ow.own 98 2 e_acequiaref23_One vx_1_1 x_1_1 :: fr) h_12 := hS
                replace hK := hK.trans hk
                replace hL_acts := hL_acts.kp hk
                refine HO.nil (thenQ_normal (?_))
                replace hS : St F_8 (Ow.box b_1 50 (e_api_Tune t).toArray :: Ow.box b_2 94 #[.int .i64 r_0_1, .pointer (some ⟨b_3, 0, none⟩), vr_2_2] :: Ow.box b_3 106 #[.map (some r_4)] :: Ow.map r_4 kI kI r_1_0_1 :: Ow.own 4 1 encB vr_2_2 r_2_1 :: Ow.box b_4 59 #[.int .i64 x_0_1, vx_1_1] :: Ow.own 98 2 e_acequiaref23_One vx_1_1 x_1_1 :: Ow.box b_6 61 #[.int .i64 ((gi acts i_1).1), .int .i64 1, .int .i64 ((gi acts i_1).2.2.1), .bool ((gi acts i_1).2.2.2)] :: fr) h_12 := hS.perm2 [1, 2, 3, 4, 5, 6, 7, 0] 8 rfl rfl
                exact ⟨F_8, 1, rfl, rfl, rfl, rfl, rfl, rfl, rfl, rfl, hK, hS, hL_acts, hM⟩
              · replace hM := hM.2 (of_decide_eq_false c_6)
                refine HW.skip (thenQ_normal (?_))
                replace hS : St F_8 (Ow.box b_1 50 (e_api_Tune t).toArray :: Ow.box b_2 94 #[.int .i64 r_0_1, .pointer (some ⟨b_3, 0, none⟩), vr_2_2] :: Ow.box b_3 106 #[.map (some r_4)] :: Ow.map r_4 kI kI r_1_0_1 :: Ow.own 4 1 encB vr_2_2 r_2_1 :: Ow.box b_4 59 #[.int .i64 x_0_1, vx_1_1] :: Ow.own 98 2 e_acequiaref23_One vx_1_1 x_1_1 :: Ow.box b_6 61 #[.int .i64 ((gi acts i_1).1), .int .i64 ((gi acts i_1).2.1), .int .i64 ((gi acts i_1).2.2.1), .bool ((gi acts i_1).2.2.2)] :: fr) h_10 := hS.perm2 [1, 2, 3, 4, 5, 6, 7, 0] 8 rfl rfl
                exact ⟨F_8, (gi acts i_1).2.1, rfl, rfl, rfl, rfl, rfl, rfl, rfl, rfl, hK, hS, hL_acts, hM⟩
          · rintro f_3 h_13 ⟨F_9, a_1_1, e2, e4, e6, e7, e8, e9, e10, e11, hK, hS, hL_acts, hM⟩
            unfold law23_RoutePlays_j2 at hM
            refine HW.fr [(2, vacts), (4, .pointer (some ⟨b_1, 0, none⟩)), (6, .bool false), (7, .pointer (some ⟨b_2, 0, none⟩)), (8, .pointer (some ⟨b_4, 0, none⟩)), (9, .int .i64 now_1), (10, .int .i64 i_1), (11, .pointer (some ⟨b_6, 0, none⟩))] ⟨e2, e4, e6, e7, e8, e9, e10, e11, trivial⟩ ?_
            refine HW.seq ?_
            refine HW.region ?_
            refine HO.val (v := .int .i64 now_1) (want_none) rfl (q_move rfl) ?_
            refine HO.val (v := .pointer (some ⟨b_6, 1, none⟩)) (want_none) rfl (q_fieldAddr fa_61_1 rfl rfl) ?_
            refine HO.val (v := .int .i64 a_1_1) (want_none) rfl (q_load to_3 rfl (Blk.cell (hS.box 7 rfl) rfl)) ?_
            obtain ⟨ho_2, hM⟩ := hM
            refine HO.val (v := .int .i64 (now_1 + a_1_1)) (want_none) rfl (q_addN _ rfl rfl rfl ho_2.1 ho_2.2) ?_
            refine HO.val (v := .int .i64 (now_1 + a_1_1)) (want_none) rfl (q_assign rfl) ?_
            refine HO.nil (thenQ_normal (?_))
            refine HW.seq_mid (fun f h => ∃ (F' : Fz) (r_0_2 : Int) (r_1_0_2 : List (Int × Int)) (r_2_2 : List Bool) (x_0_2 : Int) (x_1_2 : List T_acequiaref23_One) (vr_2_3 : Value) (vx_1_2 : Value), f 2 = vacts ∧ f 4 = .pointer (some ⟨b_1, 0, none⟩) ∧ f 6 = .bool false ∧ f 7 = .pointer (some ⟨b_2, 0, none⟩) ∧ f 8 = .pointer (some ⟨b_4, 0, none⟩) ∧ f 9 = .int .i64 (now_1 + a_1_1) ∧ f 10 = .int .i64 i_1 ∧ f 11 = .pointer (some ⟨b_6, 0, none⟩) ∧ Kp F h0 F' h ∧ St F' (Ow.box b_1 50 (e_api_Tune t).toArray :: Ow.box b_2 94 #[.int .i64 r_0_2, .pointer (some ⟨b_3, 0, none⟩), vr_2_3] :: Ow.box b_3 106 #[.map (some r_4)] :: Ow.map r_4 kI kI r_1_0_2 :: Ow.own 4 1 encB vr_2_3 r_2_2 :: Ow.box b_4 59 #[.int .i64 x_0_2, vx_1_2] :: Ow.own 98 2 e_acequiaref23_One vx_1_2 x_1_2 :: Ow.box b_6 61 #[.int .i64 ((gi acts i_1).1), .int .i64 a_1_1, .int .i64 ((gi acts i_1).2.2.1), .bool ((gi acts i_1).2.2.2)] :: fr) h ∧ (SliceF F' h 4 e_acequiaref23_Act vacts acts) ∧ law23_RoutePlays_j3 acts Q now_1 i_1 K_1 a_1_1 r_0_2 r_1_0_2 r_2_2 x_0_2 x_1_2) ?_ ?_
            · refine HW.seq ?_
              refine HW.regionA 38 mixed (fun h => (Blk h b_1 (.cells (e_api_Tune t).toArray 50 (0, 0))) ∧ (Blk h b_6 (.cells #[.int .i64 ((gi acts i_1).1), .int .i64 a_1_1, .int .i64 ((gi acts i_1).2.2.1), .bool ((gi acts i_1).2.2.2)] 61 (0, 0)))) [] (by kernel_rfl) ?_
              refine HA.val (k := 0) (v := .pointer (some ⟨b_6, 0, none⟩)) rfl rfl (by kernel_rfl) (by kernel_rfl) (want_none) rfl (fun _ ⟨c427, c434⟩ => q_fieldAddr fa_61_0 rfl rfl) ?_
              refine HA.val (k := 1) (v := .int .i64 ((gi acts i_1).1)) rfl rfl (by kernel_rfl) (by kernel_rfl) (want_none) rfl (fun _ ⟨c427, c434⟩ => q_load to_3 rfl (Blk.cell c434 rfl)) ?_
              refine HA.val (k := 2) (v := .bool (decide (((gi acts i_1).1) = 0))) rfl rfl (by kernel_rfl) (by kernel_rfl) (want_none) rfl (fun _ ⟨c427, c434⟩ => q_eql rfl rfl) ?_
              refine HA.val (k := 3) (v := .bool (decide (((gi acts i_1).1) = 0))) rfl rfl (by kernel_rfl) (by kernel_rfl) (want_none) rfl (fun _ ⟨c427, c434⟩ => q_move rfl) ?_
              rcases Bool.eq_false_or_eq_true (decide (((gi acts i_1).1) = 0)) with c_7 | c_7
              · replace hM := hM.1 (of_decide_eq_true c_7)
                refine HA.val (k := 4) (v := .pointer (some ⟨b_2, 0, none⟩)) rfl rfl (by kernel_rfl) (by kernel_rfl) (want_by rfl rfl c_7) rfl (fun _ ⟨c427, c434⟩ => q_move rfl) ?_
                refine HA.val (k := 5) (v := .int .i64 (now_1 + a_1_1)) rfl rfl (by kernel_rfl) (by kernel_rfl) (want_by rfl rfl c_7) rfl (fun _ ⟨c427, c434⟩ => q_move rfl) ?_
                refine HA.val (k := 6) (v := .agg (e_api_Tune t).toArray) rfl rfl (by kernel_rfl) (by kernel_rfl) (want_by rfl rfl c_7) rfl (fun _ ⟨c427, c434⟩ => q_loadAgg (cs := (e_api_Tune t)) ta_50 rfl rfl (Blk.cells (k := 5) c427 rfl)) ?_
                refine HA.val (k := 7) (v := .pointer (some ⟨b_6, 2, none⟩)) rfl rfl (by kernel_rfl) (by kernel_rfl) (want_by rfl rfl c_7) rfl (fun _ ⟨c427, c434⟩ => q_fieldAddr fa_61_2 rfl rfl) ?_
                refine HA.val (k := 8) (v := .int .i64 ((gi acts i_1).2.2.1)) rfl rfl (by kernel_rfl) (by kernel_rfl) (want_by rfl rfl c_7) rfl (fun _ ⟨c427, c434⟩ => q_load to_3 rfl (Blk.cell c434 rfl)) ?_
                refine HA.val (k := 10) (v := .pointer (some ⟨b_4, 0, none⟩)) rfl rfl (by kernel_rfl) (by kernel_rfl) (want_by rfl rfl c_7) rfl (fun _ ⟨c427, c434⟩ => q_move rfl) ?_
                refine HA.val (k := 11) (v := .int .i64 (now_1 + a_1_1)) rfl rfl (by kernel_rfl) (by kernel_rfl) (want_by rfl rfl c_7) rfl (fun _ ⟨c427, c434⟩ => q_move rfl) ?_
                refine HA.val (k := 12) (v := .agg (e_api_Tune t).toArray) rfl rfl (by kernel_rfl) (by kernel_rfl) (want_by rfl rfl c_7) rfl (fun _ ⟨c427, c434⟩ => q_loadAgg (cs := (e_api_Tune t)) ta_50 rfl rfl (Blk.cells (k := 5) c427 rfl)) ?_
                refine HA.val (k := 13) (v := .pointer (some ⟨b_6, 2, none⟩)) rfl rfl (by kernel_rfl) (by kernel_rfl) (want_by rfl rfl c_7) rfl (fun _ ⟨c427, c434⟩ => q_fieldAddr fa_61_2 rfl rfl) ?_
                refine HA.val (k := 14) (v := .int .i64 ((gi acts i_1).2.2.1)) rfl rfl (by kernel_rfl) (by kernel_rfl) (want_by rfl rfl c_7) rfl (fun _ ⟨c427, c434⟩ => q_load to_3 rfl (Blk.cell c434 rfl)) ?_
                refine HA.one (k := 9) ⟨⟨(hS.box 0 rfl), (hS.box 7 rfl)⟩, (Go.Wk.at_nil _ _)⟩ (by kernel_rfl) ?_
                replace hS : St F_9 (Ow.box b_2 94 #[.int .i64 r_0_1, .pointer (some ⟨b_3, 0, none⟩), vr_2_2] :: Ow.box b_3 106 #[.map (some r_4)] :: Ow.map r_4 kI kI r_1_0_1 :: Ow.own 4 1 encB vr_2_2 r_2_1 :: Ow.box b_1 50 (e_api_Tune t).toArray :: Ow.box b_4 59 #[.int .i64 x_0_1, vx_1_1] :: Ow.own 98 2 e_acequiaref23_One vx_1_1 x_1_1 :: Ow.box b_6 61 #[.int .i64 ((gi acts i_1).1), .int .i64 a_1_1, .int .i64 ((gi acts i_1).2.2.1), .bool ((gi acts i_1).2.2.2)] :: fr) h_13 := hS.perm2 [1, 2, 3, 4, 0, 5, 6, 7] 8 rfl rfl
                refine HS.call rfl (want_by rfl rfl c_7) rfl (ec en_31 rfl rfl) (route_Routes_Hear_walk (fr := (Ow.box b_1 50 (e_api_Tune t).toArray :: Ow.box b_4 59 #[.int .i64 x_0_1, vx_1_1] :: Ow.own 98 2 e_acequiaref23_One vx_1_1 x_1_1 :: Ow.box b_6 61 #[.int .i64 ((gi acts i_1).1), .int .i64 a_1_1, .int .i64 ((gi acts i_1).2.2.1), .bool ((gi acts i_1).2.2.2)] :: fr)) r_0_1 r_1_0_1 r_2_1 (now_1 + a_1_1) t ((gi acts i_1).2.2.1) b_2 b_3 r_4 vr_2_2 hS hM) ?_
                rintro _ h_14 ⟨F_10, r_6, r_now_1, rm_1, r_fixed_1, v_1, rfl, hk, hS, hM⟩
                replace hK := hK.trans hk
                replace hL_acts := hL_acts.kp hk
                refine HA.one (k := 15) ⟨⟨(hS.box 4 rfl), (hS.box 7 rfl)⟩, (Go.Wk.at_nil _ _)⟩ (by kernel_rfl) ?_
                replace hS : St F_10 (Ow.box b_4 59 #[.int .i64 x_0_1, vx_1_1] :: Ow.own 98 2 e_acequiaref23_One vx_1_1 x_1_1 :: Ow.box b_2 94 #[.int .i64 r_now_1, .pointer (some ⟨b_3, 0, none⟩), v_1] :: Ow.box b_3 106 #[.map (some r_4)] :: Ow.map r_4 kI kI rm_1 :: Ow.own 4 1 encB v_1 r_fixed_1 :: Ow.box b_1 50 (e_api_Tune t).toArray :: Ow.box b_6 61 #[.int .i64 ((gi acts i_1).1), .int .i64 a_1_1, .int .i64 ((gi acts i_1).2.2.1), .bool ((gi acts i_1).2.2.2)] :: fr) h_14 := hS.perm2 [5, 6, 0, 1, 2, 3, 4, 7] 8 rfl rfl
                refine HS.call rfl (want_by rfl rfl c_7) rfl (ec en_32 rfl rfl) (ref23_R_Hear_walk (fr := (Ow.box b_2 94 #[.int .i64 r_now_1, .pointer (some ⟨b_3, 0, none⟩), v_1] :: Ow.box b_3 106 #[.map (some r_4)] :: Ow.map r_4 kI kI rm_1 :: Ow.own 4 1 encB v_1 r_fixed_1 :: Ow.box b_1 50 (e_api_Tune t).toArray :: Ow.box b_6 61 #[.int .i64 ((gi acts i_1).1), .int .i64 a_1_1, .int .i64 ((gi acts i_1).2.2.1), .bool ((gi acts i_1).2.2.2)] :: fr)) x_0_1 x_1_1 (now_1 + a_1_1) t ((gi acts i_1).2.2.1) b_4 vx_1_1 hS hM) ?_
                rintro _ h_15 ⟨F_11, r_7, r_Now_1, r_L_1, v_2, rfl, hk, hS, hM⟩
                replace hK := hK.trans hk
                replace hL_acts := hL_acts.kp hk
                refine HA.val (k := 16) (v := .bool (!(r_6 == r_7))) rfl rfl (by kernel_rfl) (by kernel_rfl) (want_by rfl rfl c_7) rfl (fun _ ⟨c427, c434⟩ => q_neqB Try.underlying4 rfl rfl) ?_
                refine HA.val (k := 17) (v := .bool (!(r_6 == r_7))) rfl rfl (by kernel_rfl) (by kernel_rfl) (want_none) rfl (fun _ ⟨c427, c434⟩ => q_pickK true rfl c_7 rfl) ?_
                refine HA.val (k := 18) (v := .bool (!(r_6 == r_7))) rfl rfl (by kernel_rfl) (by kernel_rfl) (want_none) rfl (fun _ ⟨c427, c434⟩ => q_move rfl) ?_
                rcases Bool.eq_false_or_eq_true (!(r_6 == r_7)) with c_8 | c_8
                · replace hM := hM.1 c_8
                  refine HA.past (k := 19) rfl rfl (by kernel_rfl) (by kernel_rfl) (past_by rfl rfl c_8) rfl ?_
                  refine HA.past (k := 20) rfl rfl (by kernel_rfl) (by kernel_rfl) (past_by rfl rfl c_8) rfl ?_
                  refine HA.past (k := 21) rfl rfl (by kernel_rfl) (by kernel_rfl) (past_by rfl rfl c_8) rfl ?_
                  refine HA.past (k := 22) rfl rfl (by kernel_rfl) (by kernel_rfl) (past_by rfl rfl c_8) rfl ?_
                  refine HA.past (k := 23) rfl rfl (by kernel_rfl) (by kernel_rfl) (past_undef rfl rfl) rfl ?_
                  refine HA.past (k := 24) rfl rfl (by kernel_rfl) (by kernel_rfl) (past_undef rfl rfl) rfl ?_
                  refine HA.past (k := 25) rfl rfl (by kernel_rfl) (by kernel_rfl) (past_undef rfl rfl) rfl ?_
                  refine HA.past (k := 26) rfl rfl (by kernel_rfl) (by kernel_rfl) (past_undef rfl rfl) rfl ?_
                  refine HA.past (k := 27) rfl rfl (by kernel_rfl) (by kernel_rfl) (past_undef rfl rfl) rfl ?_
                  refine HA.past (k := 29) rfl rfl (by kernel_rfl) (by kernel_rfl) (past_undef rfl rfl) rfl ?_
                  refine HA.past (k := 30) rfl rfl (by kernel_rfl) (by kernel_rfl) (past_undef rfl rfl) rfl ?_
                  refine HA.past (k := 31) rfl rfl (by kernel_rfl) (by kernel_rfl) (past_undef rfl rfl) rfl ?_
                  refine HA.past (k := 32) rfl rfl (by kernel_rfl) (by kernel_rfl) (past_undef rfl rfl) rfl ?_
                  refine HA.past (k := 33) rfl rfl (by kernel_rfl) (by kernel_rfl) (past_undef rfl rfl) rfl ?_
                  refine HA.one (k := 28) ⟨⟨(hS.box 6 rfl), (hS.box 7 rfl)⟩, (Go.Wk.at_nil _ _)⟩ (by kernel_rfl) ?_
                  refine HS.past rfl (past_undef rfl rfl) rfl ?_
                  refine HA.one (k := 34) ⟨⟨(hS.box 6 rfl), (hS.box 7 rfl)⟩, (Go.Wk.at_nil _ _)⟩ (by kernel_rfl) ?_
                  refine HS.past rfl (past_undef rfl rfl) rfl ?_
                  refine HA.past (k := 35) rfl rfl (by kernel_rfl) (by kernel_rfl) (past_undef rfl rfl) rfl ?_
                  refine HA.past (k := 36) rfl rfl (by kernel_rfl) (by kernel_rfl) (past_by rfl rfl c_8) rfl ?_
                  refine HA.val (k := 37) (v := .bool true) rfl rfl (by kernel_rfl) (by kernel_rfl) (want_none) rfl (fun _ ⟨c427, c434⟩ => q_pickK true rfl c_8 rfl) ?_
                  refine HA.nil ⟨⟨(hS.box 6 rfl), (hS.box 7 rfl)⟩, (Go.Wk.at_nil _ _)⟩ (by kernel_rfl) (thenQ_normal (?_))
                  refine HW.condT rfl ?_
                  refine HW.seq ?_
                  refine HW.region ?_
                  refine HO.val (v := .bool false) (want_none) rfl (q_assign rfl) ?_
                  refine HO.nil (thenQ_normal (?_))
                  refine HW.ret (thenQ_ret (blockQ_ret (thenQ_ret (thenQ_ret (blockQ_ret (thenQ_ret (?_)))))))
                  refine ⟨.inr rfl, .bool false, res1 rfl (rt rfl), ?_⟩
                  replace hS : St F_11 (fr) h_15 := hS.perm2 [] 8 rfl rfl
                  exact ⟨F_11, false, rfl, hK, hS, hL_acts, hM⟩
                · replace hM := hM.2 c_8
                  refine HA.val (k := 19) (v := .pointer (some ⟨b_6, 0, none⟩)) rfl rfl (by kernel_rfl) (by kernel_rfl) (want_by rfl rfl c_8) rfl (fun _ ⟨c427, c434⟩ => q_fieldAddr fa_61_0 rfl rfl) ?_
                  refine HA.val (k := 20) (v := .int .i64 ((gi acts i_1).1)) rfl rfl (by kernel_rfl) (by kernel_rfl) (want_by rfl rfl c_8) rfl (fun _ ⟨c427, c434⟩ => q_load to_3 rfl (Blk.cell c434 rfl)) ?_
                  refine HA.val (k := 21) (v := .bool (decide (((gi acts i_1).1) = 1))) rfl rfl (by kernel_rfl) (by kernel_rfl) (want_by rfl rfl c_8) rfl (fun _ ⟨c427, c434⟩ => q_eql rfl rfl) ?_
                  refine HA.val (k := 22) (v := .bool (decide (((gi acts i_1).1) = 1))) rfl rfl (by kernel_rfl) (by kernel_rfl) (want_by rfl rfl c_8) rfl (fun _ ⟨c427, c434⟩ => q_move rfl) ?_
                  rcases Bool.eq_false_or_eq_true (decide (((gi acts i_1).1) = 1)) with c_9 | c_9
                  · replace hM := hM.1 (of_decide_eq_true c_9)
                    refine HA.val (k := 23) (v := .pointer (some ⟨b_2, 0, none⟩)) rfl rfl (by kernel_rfl) (by kernel_rfl) (want_by rfl rfl c_9) rfl (fun _ ⟨c427, c434⟩ => q_move rfl) ?_
                    refine HA.val (k := 24) (v := .pointer (some ⟨b_6, 2, none⟩)) rfl rfl (by kernel_rfl) (by kernel_rfl) (want_by rfl rfl c_9) rfl (fun _ ⟨c427, c434⟩ => q_fieldAddr fa_61_2 rfl rfl) ?_
                    refine HA.val (k := 25) (v := .int .i64 ((gi acts i_1).2.2.1)) rfl rfl (by kernel_rfl) (by kernel_rfl) (want_by rfl rfl c_9) rfl (fun _ ⟨c427, c434⟩ => q_load to_3 rfl (Blk.cell c434 rfl)) ?_
                    refine HA.val (k := 26) (v := .pointer (some ⟨b_6, 3, none⟩)) rfl rfl (by kernel_rfl) (by kernel_rfl) (want_by rfl rfl c_9) rfl (fun _ ⟨c427, c434⟩ => q_fieldAddr fa_61_3 rfl rfl) ?_
                    refine HA.val (k := 27) (v := .bool ((gi acts i_1).2.2.2)) rfl rfl (by kernel_rfl) (by kernel_rfl) (want_by rfl rfl c_9) rfl (fun _ ⟨c427, c434⟩ => q_load to_4 rfl (Blk.cell c434 rfl)) ?_
                    refine HA.val (k := 29) (v := .pointer (some ⟨b_4, 0, none⟩)) rfl rfl (by kernel_rfl) (by kernel_rfl) (want_by rfl rfl c_9) rfl (fun _ ⟨c427, c434⟩ => q_move rfl) ?_
                    refine HA.val (k := 30) (v := .pointer (some ⟨b_6, 2, none⟩)) rfl rfl (by kernel_rfl) (by kernel_rfl) (want_by rfl rfl c_9) rfl (fun _ ⟨c427, c434⟩ => q_fieldAddr fa_61_2 rfl rfl) ?_
                    refine HA.val (k := 31) (v := .int .i64 ((gi acts i_1).2.2.1)) rfl rfl (by kernel_rfl) (by kernel_rfl) (want_by rfl rfl c_9) rfl (fun _ ⟨c427, c434⟩ => q_load to_3 rfl (Blk.cell c434 rfl)) ?_
                    refine HA.val (k := 32) (v := .pointer (some ⟨b_6, 3, none⟩)) rfl rfl (by kernel_rfl) (by kernel_rfl) (want_by rfl rfl c_9) rfl (fun _ ⟨c427, c434⟩ => q_fieldAddr fa_61_3 rfl rfl) ?_
                    refine HA.val (k := 33) (v := .bool ((gi acts i_1).2.2.2)) rfl rfl (by kernel_rfl) (by kernel_rfl) (want_by rfl rfl c_9) rfl (fun _ ⟨c427, c434⟩ => q_load to_4 rfl (Blk.cell c434 rfl)) ?_
                    refine HA.one (k := 28) ⟨⟨(hS.box 6 rfl), (hS.box 7 rfl)⟩, (Go.Wk.at_nil _ _)⟩ (by kernel_rfl) ?_
                    replace hS : St F_11 (Ow.box b_2 94 #[.int .i64 r_now_1, .pointer (some ⟨b_3, 0, none⟩), v_1] :: Ow.box b_3 106 #[.map (some r_4)] :: Ow.map r_4 kI kI rm_1 :: Ow.own 4 1 encB v_1 r_fixed_1 :: Ow.box b_4 59 #[.int .i64 r_Now_1, v_2] :: Ow.own 98 2 e_acequiaref23_One v_2 r_L_1 :: Ow.box b_1 50 (e_api_Tune t).toArray :: Ow.box b_6 61 #[.int .i64 ((gi acts i_1).1), .int .i64 a_1_1, .int .i64 ((gi acts i_1).2.2.1), .bool ((gi acts i_1).2.2.2)] :: fr) h_15 := hS.perm2 [2, 3, 4, 5, 0, 1, 6, 7] 8 rfl rfl
                    refine HS.call rfl (want_by rfl rfl c_9) rfl (ec en_33 rfl rfl) (route_Routes_Fix_walk (fr := (Ow.box b_4 59 #[.int .i64 r_Now_1, v_2] :: Ow.own 98 2 e_acequiaref23_One v_2 r_L_1 :: Ow.box b_1 50 (e_api_Tune t).toArray :: Ow.box b_6 61 #[.int .i64 ((gi acts i_1).1), .int .i64 a_1_1, .int .i64 ((gi acts i_1).2.2.1), .bool ((gi acts i_1).2.2.2)] :: fr)) r_now_1 rm_1 r_fixed_1 ((gi acts i_1).2.2.1) ((gi acts i_1).2.2.2) b_2 b_3 r_4 v_1 hS hM) ?_
                    rintro _ h_16 ⟨F_12, r_8, r_now_2, rm_2, r_fixed_2, v_3, rfl, hk, hS, hM⟩
                    replace hK := hK.trans hk
                    replace hL_acts := hL_acts.kp hk
                    refine HA.one (k := 34) ⟨⟨(hS.box 6 rfl), (hS.box 7 rfl)⟩, (Go.Wk.at_nil _ _)⟩ (by kernel_rfl) ?_
                    replace hS : St F_12 (Ow.box b_4 59 #[.int .i64 r_Now_1, v_2] :: Ow.own 98 2 e_acequiaref23_One v_2 r_L_1 :: Ow.box b_2 94 #[.int .i64 r_now_2, .pointer (some ⟨b_3, 0, none⟩), v_3] :: Ow.box b_3 106 #[.map (some r_4)] :: Ow.map r_4 kI kI rm_2 :: Ow.own 4 1 encB v_3 r_fixed_2 :: Ow.box b_1 50 (e_api_Tune t).toArray :: Ow.box b_6 61 #[.int .i64 ((gi acts i_1).1), .int .i64 a_1_1, .int .i64 ((gi acts i_1).2.2.1), .bool ((gi acts i_1).2.2.2)] :: fr) h_16 := hS.perm2 [4, 5, 0, 1, 2, 3, 6, 7] 8 rfl rfl
                    refine HS.call rfl (want_by rfl rfl c_9) rfl (ec en_34 rfl rfl) (ref23_R_Fix_walk (fr := (Ow.box b_2 94 #[.int .i64 r_now_2, .pointer (some ⟨b_3, 0, none⟩), v_3] :: Ow.box b_3 106 #[.map (some r_4)] :: Ow.map r_4 kI kI rm_2 :: Ow.own 4 1 encB v_3 r_fixed_2 :: Ow.box b_1 50 (e_api_Tune t).toArray :: Ow.box b_6 61 #[.int .i64 ((gi acts i_1).1), .int .i64 a_1_1, .int .i64 ((gi acts i_1).2.2.1), .bool ((gi acts i_1).2.2.2)] :: fr)) r_Now_1 r_L_1 ((gi acts i_1).2.2.1) ((gi acts i_1).2.2.2) b_4 v_2 hS hM) ?_
                    rintro _ h_17 ⟨F_13, r_9, r_Now_2, r_L_2, v_4, rfl, hk, hS, hM⟩
                    replace hK := hK.trans hk
                    replace hL_acts := hL_acts.kp hk
                    refine HA.val (k := 35) (v := .bool (!(r_8 == r_9))) rfl rfl (by kernel_rfl) (by kernel_rfl) (want_by rfl rfl c_9) rfl (fun _ ⟨c427, c434⟩ => q_neqB Try.underlying4 rfl rfl) ?_
                    refine HA.val (k := 36) (v := .bool (!(r_8 == r_9))) rfl rfl (by kernel_rfl) (by kernel_rfl) (want_by rfl rfl c_8) rfl (fun _ ⟨c427, c434⟩ => q_pickK true rfl c_9 rfl) ?_
                    refine HA.val (k := 37) (v := .bool (!(r_8 == r_9))) rfl rfl (by kernel_rfl) (by kernel_rfl) (want_none) rfl (fun _ ⟨c427, c434⟩ => q_pickK false rfl c_8 rfl) ?_
                    refine HA.nil ⟨⟨(hS.box 6 rfl), (hS.box 7 rfl)⟩, (Go.Wk.at_nil _ _)⟩ (by kernel_rfl) (thenQ_normal (?_))
                    refine HW.cond (!(r_8 == r_9)) rfl (fun c_10 => ?_) (fun c_10 => ?_)
                    · replace hM := hM.1 c_10
                      refine HW.seq ?_
                      refine HW.region ?_
                      refine HO.val (v := .bool false) (want_none) rfl (q_assign rfl) ?_
                      refine HO.nil (thenQ_normal (?_))
                      refine HW.ret (thenQ_ret (blockQ_ret (thenQ_ret (thenQ_ret (blockQ_ret (thenQ_ret (?_)))))))
                      refine ⟨.inr rfl, .bool false, res1 rfl (rt rfl), ?_⟩
                      replace hS : St F_13 (fr) h_17 := hS.perm2 [] 8 rfl rfl
                      exact ⟨F_13, false, rfl, hK, hS, hL_acts, hM⟩
                    · replace hM := hM.2 c_10
                      refine HW.skip (thenQ_normal (?_))
                      replace hS : St F_13 (Ow.box b_1 50 (e_api_Tune t).toArray :: Ow.box b_2 94 #[.int .i64 r_now_2, .pointer (some ⟨b_3, 0, none⟩), v_3] :: Ow.box b_3 106 #[.map (some r_4)] :: Ow.map r_4 kI kI rm_2 :: Ow.own 4 1 encB v_3 r_fixed_2 :: Ow.box b_4 59 #[.int .i64 r_Now_2, v_4] :: Ow.own 98 2 e_acequiaref23_One v_4 r_L_2 :: Ow.box b_6 61 #[.int .i64 ((gi acts i_1).1), .int .i64 a_1_1, .int .i64 ((gi acts i_1).2.2.1), .bool ((gi acts i_1).2.2.2)] :: fr) h_17 := hS.perm2 [6, 2, 3, 4, 5, 0, 1, 7] 8 rfl rfl
                      exact ⟨F_13, r_now_2, rm_2, r_fixed_2, r_Now_2, r_L_2, v_3, v_4, rfl, rfl, rfl, rfl, rfl, rfl, rfl, rfl, hK, hS, hL_acts, hM⟩
                  · replace hM := hM.2 (of_decide_eq_false c_9)
                    refine HA.past (k := 23) rfl rfl (by kernel_rfl) (by kernel_rfl) (past_by rfl rfl c_9) rfl ?_
                    refine HA.past (k := 24) rfl rfl (by kernel_rfl) (by kernel_rfl) (past_by rfl rfl c_9) rfl ?_
                    refine HA.past (k := 25) rfl rfl (by kernel_rfl) (by kernel_rfl) (past_by rfl rfl c_9) rfl ?_
                    refine HA.past (k := 26) rfl rfl (by kernel_rfl) (by kernel_rfl) (past_by rfl rfl c_9) rfl ?_
                    refine HA.past (k := 27) rfl rfl (by kernel_rfl) (by kernel_rfl) (past_by rfl rfl c_9) rfl ?_
                    refine HA.past (k := 29) rfl rfl (by kernel_rfl) (by kernel_rfl) (past_by rfl rfl c_9) rfl ?_
                    refine HA.past (k := 30) rfl rfl (by kernel_rfl) (by kernel_rfl) (past_by rfl rfl c_9) rfl ?_
                    refine HA.past (k := 31) rfl rfl (by kernel_rfl) (by kernel_rfl) (past_by rfl rfl c_9) rfl ?_
                    refine HA.past (k := 32) rfl rfl (by kernel_rfl) (by kernel_rfl) (past_by rfl rfl c_9) rfl ?_
                    refine HA.past (k := 33) rfl rfl (by kernel_rfl) (by kernel_rfl) (past_by rfl rfl c_9) rfl ?_
                    refine HA.one (k := 28) ⟨⟨(hS.box 6 rfl), (hS.box 7 rfl)⟩, (Go.Wk.at_nil _ _)⟩ (by kernel_rfl) ?_
                    refine HS.past rfl (past_by rfl rfl c_9) rfl ?_
                    refine HA.one (k := 34) ⟨⟨(hS.box 6 rfl), (hS.box 7 rfl)⟩, (Go.Wk.at_nil _ _)⟩ (by kernel_rfl) ?_
                    refine HS.past rfl (past_by rfl rfl c_9) rfl ?_
                    refine HA.past (k := 35) rfl rfl (by kernel_rfl) (by kernel_rfl) (past_by rfl rfl c_9) rfl ?_
                    refine HA.val (k := 36) (v := .bool false) rfl rfl (by kernel_rfl) (by kernel_rfl) (want_by rfl rfl c_8) rfl (fun _ ⟨c427, c434⟩ => q_pickK false rfl c_9 rfl) ?_
                    refine HA.val (k := 37) (v := .bool false) rfl rfl (by kernel_rfl) (by kernel_rfl) (want_none) rfl (fun _ ⟨c427, c434⟩ => q_pickK false rfl c_8 rfl) ?_
                    refine HA.nil ⟨⟨(hS.box 6 rfl), (hS.box 7 rfl)⟩, (Go.Wk.at_nil _ _)⟩ (by kernel_rfl) (thenQ_normal (?_))
                    refine HW.condF rfl ?_
                    refine HW.skip (thenQ_normal (?_))
                    replace hS : St F_11 (Ow.box b_1 50 (e_api_Tune t).toArray :: Ow.box b_2 94 #[.int .i64 r_now_1, .pointer (some ⟨b_3, 0, none⟩), v_1] :: Ow.box b_3 106 #[.map (some r_4)] :: Ow.map r_4 kI kI rm_1 :: Ow.own 4 1 encB v_1 r_fixed_1 :: Ow.box b_4 59 #[.int .i64 r_Now_1, v_2] :: Ow.own 98 2 e_acequiaref23_One v_2 r_L_1 :: Ow.box b_6 61 #[.int .i64 ((gi acts i_1).1), .int .i64 a_1_1, .int .i64 ((gi acts i_1).2.2.1), .bool ((gi acts i_1).2.2.2)] :: fr) h_15 := hS.perm2 [6, 2, 3, 4, 5, 0, 1, 7] 8 rfl rfl
                    exact ⟨F_11, r_now_1, rm_1, r_fixed_1, r_Now_1, r_L_1, v_1, v_2, rfl, rfl, rfl, rfl, rfl, rfl, rfl, rfl, hK, hS, hL_acts, hM⟩
              · replace hM := hM.2 (of_decide_eq_false c_7)
                refine HA.past (k := 4) rfl rfl (by kernel_rfl) (by kernel_rfl) (past_by rfl rfl c_7) rfl ?_
                refine HA.past (k := 5) rfl rfl (by kernel_rfl) (by kernel_rfl) (past_by rfl rfl c_7) rfl ?_
                refine HA.past (k := 6) rfl rfl (by kernel_rfl) (by kernel_rfl) (past_by rfl rfl c_7) rfl ?_
                refine HA.past (k := 7) rfl rfl (by kernel_rfl) (by kernel_rfl) (past_by rfl rfl c_7) rfl ?_
                refine HA.past (k := 8) rfl rfl (by kernel_rfl) (by kernel_rfl) (past_by rfl rfl c_7) rfl ?_
                refine HA.past (k := 10) rfl rfl (by kernel_rfl) (by kernel_rfl) (past_by rfl rfl c_7) rfl ?_
                refine HA.past (k := 11) rfl rfl (by kernel_rfl) (by kernel_rfl) (past_by rfl rfl c_7) rfl ?_
                refine HA.past (k := 12) rfl rfl (by kernel_rfl) (by kernel_rfl) (past_by rfl rfl c_7) rfl ?_
                refine HA.past (k := 13) rfl rfl (by kernel_rfl) (by kernel_rfl) (past_by rfl rfl c_7) rfl ?_
                refine HA.past (k := 14) rfl rfl (by kernel_rfl) (by kernel_rfl) (past_by rfl rfl c_7) rfl ?_
                refine HA.one (k := 9) ⟨⟨(hS.box 0 rfl), (hS.box 7 rfl)⟩, (Go.Wk.at_nil _ _)⟩ (by kernel_rfl) ?_
                refine HS.past rfl (past_by rfl rfl c_7) rfl ?_
                refine HA.one (k := 15) ⟨⟨(hS.box 0 rfl), (hS.box 7 rfl)⟩, (Go.Wk.at_nil _ _)⟩ (by kernel_rfl) ?_
                refine HS.past rfl (past_by rfl rfl c_7) rfl ?_
                refine HA.past (k := 16) rfl rfl (by kernel_rfl) (by kernel_rfl) (past_by rfl rfl c_7) rfl ?_
                refine HA.val (k := 17) (v := .bool false) rfl rfl (by kernel_rfl) (by kernel_rfl) (want_none) rfl (fun _ ⟨c427, c434⟩ => q_pickK false rfl c_7 rfl) ?_
                refine HA.val (k := 18) (v := .bool false) rfl rfl (by kernel_rfl) (by kernel_rfl) (want_none) rfl (fun _ ⟨c427, c434⟩ => q_move rfl) ?_
                refine HA.val (k := 19) (v := .pointer (some ⟨b_6, 0, none⟩)) rfl rfl (by kernel_rfl) (by kernel_rfl) (want_some rfl rfl) rfl (fun _ ⟨c427, c434⟩ => q_fieldAddr fa_61_0 rfl rfl) ?_
                refine HA.val (k := 20) (v := .int .i64 ((gi acts i_1).1)) rfl rfl (by kernel_rfl) (by kernel_rfl) (want_some rfl rfl) rfl (fun _ ⟨c427, c434⟩ => q_load to_3 rfl (Blk.cell c434 rfl)) ?_
                refine HA.val (k := 21) (v := .bool (decide (((gi acts i_1).1) = 1))) rfl rfl (by kernel_rfl) (by kernel_rfl) (want_some rfl rfl) rfl (fun _ ⟨c427, c434⟩ => q_eql rfl rfl) ?_
                refine HA.val (k := 22) (v := .bool (decide (((gi acts i_1).1) = 1))) rfl rfl (by kernel_rfl) (by kernel_rfl) (want_some rfl rfl) rfl (fun _ ⟨c427, c434⟩ => q_move rfl) ?_
                rcases Bool.eq_false_or_eq_true (decide (((gi acts i_1).1) = 1)) with c_11 | c_11
                · replace hM := hM.1 (of_decide_eq_true c_11)
                  refine HA.val (k := 23) (v := .pointer (some ⟨b_2, 0, none⟩)) rfl rfl (by kernel_rfl) (by kernel_rfl) (want_by rfl rfl c_11) rfl (fun _ ⟨c427, c434⟩ => q_move rfl) ?_
                  refine HA.val (k := 24) (v := .pointer (some ⟨b_6, 2, none⟩)) rfl rfl (by kernel_rfl) (by kernel_rfl) (want_by rfl rfl c_11) rfl (fun _ ⟨c427, c434⟩ => q_fieldAddr fa_61_2 rfl rfl) ?_
                  refine HA.val (k := 25) (v := .int .i64 ((gi acts i_1).2.2.1)) rfl rfl (by kernel_rfl) (by kernel_rfl) (want_by rfl rfl c_11) rfl (fun _ ⟨c427, c434⟩ => q_load to_3 rfl (Blk.cell c434 rfl)) ?_
                  refine HA.val (k := 26) (v := .pointer (some ⟨b_6, 3, none⟩)) rfl rfl (by kernel_rfl) (by kernel_rfl) (want_by rfl rfl c_11) rfl (fun _ ⟨c427, c434⟩ => q_fieldAddr fa_61_3 rfl rfl) ?_
                  refine HA.val (k := 27) (v := .bool ((gi acts i_1).2.2.2)) rfl rfl (by kernel_rfl) (by kernel_rfl) (want_by rfl rfl c_11) rfl (fun _ ⟨c427, c434⟩ => q_load to_4 rfl (Blk.cell c434 rfl)) ?_
                  refine HA.val (k := 29) (v := .pointer (some ⟨b_4, 0, none⟩)) rfl rfl (by kernel_rfl) (by kernel_rfl) (want_by rfl rfl c_11) rfl (fun _ ⟨c427, c434⟩ => q_move rfl) ?_
                  refine HA.val (k := 30) (v := .pointer (some ⟨b_6, 2, none⟩)) rfl rfl (by kernel_rfl) (by kernel_rfl) (want_by rfl rfl c_11) rfl (fun _ ⟨c427, c434⟩ => q_fieldAddr fa_61_2 rfl rfl) ?_
                  refine HA.val (k := 31) (v := .int .i64 ((gi acts i_1).2.2.1)) rfl rfl (by kernel_rfl) (by kernel_rfl) (want_by rfl rfl c_11) rfl (fun _ ⟨c427, c434⟩ => q_load to_3 rfl (Blk.cell c434 rfl)) ?_
                  refine HA.val (k := 32) (v := .pointer (some ⟨b_6, 3, none⟩)) rfl rfl (by kernel_rfl) (by kernel_rfl) (want_by rfl rfl c_11) rfl (fun _ ⟨c427, c434⟩ => q_fieldAddr fa_61_3 rfl rfl) ?_
                  refine HA.val (k := 33) (v := .bool ((gi acts i_1).2.2.2)) rfl rfl (by kernel_rfl) (by kernel_rfl) (want_by rfl rfl c_11) rfl (fun _ ⟨c427, c434⟩ => q_load to_4 rfl (Blk.cell c434 rfl)) ?_
                  refine HA.one (k := 28) ⟨⟨(hS.box 0 rfl), (hS.box 7 rfl)⟩, (Go.Wk.at_nil _ _)⟩ (by kernel_rfl) ?_
                  replace hS : St F_9 (Ow.box b_2 94 #[.int .i64 r_0_1, .pointer (some ⟨b_3, 0, none⟩), vr_2_2] :: Ow.box b_3 106 #[.map (some r_4)] :: Ow.map r_4 kI kI r_1_0_1 :: Ow.own 4 1 encB vr_2_2 r_2_1 :: Ow.box b_1 50 (e_api_Tune t).toArray :: Ow.box b_4 59 #[.int .i64 x_0_1, vx_1_1] :: Ow.own 98 2 e_acequiaref23_One vx_1_1 x_1_1 :: Ow.box b_6 61 #[.int .i64 ((gi acts i_1).1), .int .i64 a_1_1, .int .i64 ((gi acts i_1).2.2.1), .bool ((gi acts i_1).2.2.2)] :: fr) h_13 := hS.perm2 [1, 2, 3, 4, 0, 5, 6, 7] 8 rfl rfl
                  refine HS.call rfl (want_by rfl rfl c_11) rfl (ec en_33 rfl rfl) (route_Routes_Fix_walk (fr := (Ow.box b_1 50 (e_api_Tune t).toArray :: Ow.box b_4 59 #[.int .i64 x_0_1, vx_1_1] :: Ow.own 98 2 e_acequiaref23_One vx_1_1 x_1_1 :: Ow.box b_6 61 #[.int .i64 ((gi acts i_1).1), .int .i64 a_1_1, .int .i64 ((gi acts i_1).2.2.1), .bool ((gi acts i_1).2.2.2)] :: fr)) r_0_1 r_1_0_1 r_2_1 ((gi acts i_1).2.2.1) ((gi acts i_1).2.2.2) b_2 b_3 r_4 vr_2_2 hS hM) ?_
                  rintro _ h_18 ⟨F_14, r_10, r_now_3, rm_3, r_fixed_3, v_5, rfl, hk, hS, hM⟩
                  replace hK := hK.trans hk
                  replace hL_acts := hL_acts.kp hk
                  refine HA.one (k := 34) ⟨⟨(hS.box 4 rfl), (hS.box 7 rfl)⟩, (Go.Wk.at_nil _ _)⟩ (by kernel_rfl) ?_
                  replace hS : St F_14 (Ow.box b_4 59 #[.int .i64 x_0_1, vx_1_1] :: Ow.own 98 2 e_acequiaref23_One vx_1_1 x_1_1 :: Ow.box b_2 94 #[.int .i64 r_now_3, .pointer (some ⟨b_3, 0, none⟩), v_5] :: Ow.box b_3 106 #[.map (some r_4)] :: Ow.map r_4 kI kI rm_3 :: Ow.own 4 1 encB v_5 r_fixed_3 :: Ow.box b_1 50 (e_api_Tune t).toArray :: Ow.box b_6 61 #[.int .i64 ((gi acts i_1).1), .int .i64 a_1_1, .int .i64 ((gi acts i_1).2.2.1), .bool ((gi acts i_1).2.2.2)] :: fr) h_18 := hS.perm2 [5, 6, 0, 1, 2, 3, 4, 7] 8 rfl rfl
                  refine HS.call rfl (want_by rfl rfl c_11) rfl (ec en_34 rfl rfl) (ref23_R_Fix_walk (fr := (Ow.box b_2 94 #[.int .i64 r_now_3, .pointer (some ⟨b_3, 0, none⟩), v_5] :: Ow.box b_3 106 #[.map (some r_4)] :: Ow.map r_4 kI kI rm_3 :: Ow.own 4 1 encB v_5 r_fixed_3 :: Ow.box b_1 50 (e_api_Tune t).toArray :: Ow.box b_6 61 #[.int .i64 ((gi acts i_1).1), .int .i64 a_1_1, .int .i64 ((gi acts i_1).2.2.1), .bool ((gi acts i_1).2.2.2)] :: fr)) x_0_1 x_1_1 ((gi acts i_1).2.2.1) ((gi acts i_1).2.2.2) b_4 vx_1_1 hS hM) ?_
                  rintro _ h_19 ⟨F_15, r_11, r_Now_3, r_L_3, v_6, rfl, hk, hS, hM⟩
                  replace hK := hK.trans hk
                  replace hL_acts := hL_acts.kp hk
                  refine HA.val (k := 35) (v := .bool (!(r_10 == r_11))) rfl rfl (by kernel_rfl) (by kernel_rfl) (want_by rfl rfl c_11) rfl (fun _ ⟨c427, c434⟩ => q_neqB Try.underlying4 rfl rfl) ?_
                  refine HA.val (k := 36) (v := .bool (!(r_10 == r_11))) rfl rfl (by kernel_rfl) (by kernel_rfl) (want_some rfl rfl) rfl (fun _ ⟨c427, c434⟩ => q_pickK true rfl c_11 rfl) ?_
                  refine HA.val (k := 37) (v := .bool (!(r_10 == r_11))) rfl rfl (by kernel_rfl) (by kernel_rfl) (want_none) rfl (fun _ ⟨c427, c434⟩ => q_pick rfl rfl) ?_
                  refine HA.nil ⟨⟨(hS.box 6 rfl), (hS.box 7 rfl)⟩, (Go.Wk.at_nil _ _)⟩ (by kernel_rfl) (thenQ_normal (?_))
                  refine HW.cond (!(r_10 == r_11)) rfl (fun c_12 => ?_) (fun c_12 => ?_)
                  · replace hM := hM.1 c_12
                    refine HW.seq ?_
                    refine HW.region ?_
                    refine HO.val (v := .bool false) (want_none) rfl (q_assign rfl) ?_
                    refine HO.nil (thenQ_normal (?_))
                    refine HW.ret (thenQ_ret (blockQ_ret (thenQ_ret (thenQ_ret (blockQ_ret (thenQ_ret (?_)))))))
                    refine ⟨.inr rfl, .bool false, res1 rfl (rt rfl), ?_⟩
                    replace hS : St F_15 (fr) h_19 := hS.perm2 [] 8 rfl rfl
                    exact ⟨F_15, false, rfl, hK, hS, hL_acts, hM⟩
                  · replace hM := hM.2 c_12
                    refine HW.skip (thenQ_normal (?_))
                    replace hS : St F_15 (Ow.box b_1 50 (e_api_Tune t).toArray :: Ow.box b_2 94 #[.int .i64 r_now_3, .pointer (some ⟨b_3, 0, none⟩), v_5] :: Ow.box b_3 106 #[.map (some r_4)] :: Ow.map r_4 kI kI rm_3 :: Ow.own 4 1 encB v_5 r_fixed_3 :: Ow.box b_4 59 #[.int .i64 r_Now_3, v_6] :: Ow.own 98 2 e_acequiaref23_One v_6 r_L_3 :: Ow.box b_6 61 #[.int .i64 ((gi acts i_1).1), .int .i64 a_1_1, .int .i64 ((gi acts i_1).2.2.1), .bool ((gi acts i_1).2.2.2)] :: fr) h_19 := hS.perm2 [6, 2, 3, 4, 5, 0, 1, 7] 8 rfl rfl
                    exact ⟨F_15, r_now_3, rm_3, r_fixed_3, r_Now_3, r_L_3, v_5, v_6, rfl, rfl, rfl, rfl, rfl, rfl, rfl, rfl, hK, hS, hL_acts, hM⟩
                · replace hM := hM.2 (of_decide_eq_false c_11)
                  refine HA.past (k := 23) rfl rfl (by kernel_rfl) (by kernel_rfl) (past_by rfl rfl c_11) rfl ?_
                  refine HA.past (k := 24) rfl rfl (by kernel_rfl) (by kernel_rfl) (past_by rfl rfl c_11) rfl ?_
                  refine HA.past (k := 25) rfl rfl (by kernel_rfl) (by kernel_rfl) (past_by rfl rfl c_11) rfl ?_
                  refine HA.past (k := 26) rfl rfl (by kernel_rfl) (by kernel_rfl) (past_by rfl rfl c_11) rfl ?_
                  refine HA.past (k := 27) rfl rfl (by kernel_rfl) (by kernel_rfl) (past_by rfl rfl c_11) rfl ?_
                  refine HA.past (k := 29) rfl rfl (by kernel_rfl) (by kernel_rfl) (past_by rfl rfl c_11) rfl ?_
                  refine HA.past (k := 30) rfl rfl (by kernel_rfl) (by kernel_rfl) (past_by rfl rfl c_11) rfl ?_
                  refine HA.past (k := 31) rfl rfl (by kernel_rfl) (by kernel_rfl) (past_by rfl rfl c_11) rfl ?_
                  refine HA.past (k := 32) rfl rfl (by kernel_rfl) (by kernel_rfl) (past_by rfl rfl c_11) rfl ?_
                  refine HA.past (k := 33) rfl rfl (by kernel_rfl) (by kernel_rfl) (past_by rfl rfl c_11) rfl ?_
                  refine HA.one (k := 28) ⟨⟨(hS.box 0 rfl), (hS.box 7 rfl)⟩, (Go.Wk.at_nil _ _)⟩ (by kernel_rfl) ?_
                  refine HS.past rfl (past_by rfl rfl c_11) rfl ?_
                  refine HA.one (k := 34) ⟨⟨(hS.box 0 rfl), (hS.box 7 rfl)⟩, (Go.Wk.at_nil _ _)⟩ (by kernel_rfl) ?_
                  refine HS.past rfl (past_by rfl rfl c_11) rfl ?_
                  refine HA.past (k := 35) rfl rfl (by kernel_rfl) (by kernel_rfl) (past_by rfl rfl c_11) rfl ?_
                  refine HA.val (k := 36) (v := .bool false) rfl rfl (by kernel_rfl) (by kernel_rfl) (want_some rfl rfl) rfl (fun _ ⟨c427, c434⟩ => q_pickK false rfl c_11 rfl) ?_
                  refine HA.val (k := 37) (v := .bool false) rfl rfl (by kernel_rfl) (by kernel_rfl) (want_none) rfl (fun _ ⟨c427, c434⟩ => q_pick rfl rfl) ?_
                  refine HA.nil ⟨⟨(hS.box 0 rfl), (hS.box 7 rfl)⟩, (Go.Wk.at_nil _ _)⟩ (by kernel_rfl) (thenQ_normal (?_))
                  refine HW.condF rfl ?_
                  refine HW.skip (thenQ_normal (?_))
                  exact ⟨F_9, r_0_1, r_1_0_1, r_2_1, x_0_1, x_1_1, vr_2_2, vx_1_1, rfl, rfl, rfl, rfl, rfl, rfl, rfl, rfl, hK, hS, hL_acts, hM⟩
            · rintro f_4 h_20 ⟨F_16, r_0_2, r_1_0_2, r_2_2, x_0_2, x_1_2, vr_2_3, vx_1_2, e2, e4, e6, e7, e8, e9, e10, e11, hK, hS, hL_acts, hM⟩
              unfold law23_RoutePlays_j3 at hM
              refine HW.fr [(2, vacts), (4, .pointer (some ⟨b_1, 0, none⟩)), (6, .bool false), (7, .pointer (some ⟨b_2, 0, none⟩)), (8, .pointer (some ⟨b_4, 0, none⟩)), (9, .int .i64 (now_1 + a_1_1)), (10, .int .i64 i_1), (11, .pointer (some ⟨b_6, 0, none⟩))] ⟨e2, e4, e6, e7, e8, e9, e10, e11, trivial⟩ ?_
              refine HW.seq ?_
              refine HW.region ?_
              refine HO.val (v := .pointer (some ⟨b_4, 0, none⟩)) (want_none) rfl (q_move rfl) ?_
              refine HO.val (v := .int .i64 (now_1 + a_1_1)) (want_none) rfl (q_move rfl) ?_
              replace hS : St F_16 (Ow.box b_4 59 #[.int .i64 x_0_2, vx_1_2] :: Ow.own 98 2 e_acequiaref23_One vx_1_2 x_1_2 :: Ow.box b_1 50 (e_api_Tune t).toArray :: Ow.box b_2 94 #[.int .i64 r_0_2, .pointer (some ⟨b_3, 0, none⟩), vr_2_3] :: Ow.box b_3 106 #[.map (some r_4)] :: Ow.map r_4 kI kI r_1_0_2 :: Ow.own 4 1 encB vr_2_3 r_2_2 :: Ow.box b_6 61 #[.int .i64 ((gi acts i_1).1), .int .i64 a_1_1, .int .i64 ((gi acts i_1).2.2.1), .bool ((gi acts i_1).2.2.2)] :: fr) h_20 := hS.perm2 [5, 6, 0, 1, 2, 3, 4, 7] 8 rfl rfl
              refine HO.call (want_none) rfl (ec en_35 rfl rfl) (ref23_R_Settle_walk (fr := (Ow.box b_1 50 (e_api_Tune t).toArray :: Ow.box b_2 94 #[.int .i64 r_0_2, .pointer (some ⟨b_3, 0, none⟩), vr_2_3] :: Ow.box b_3 106 #[.map (some r_4)] :: Ow.map r_4 kI kI r_1_0_2 :: Ow.own 4 1 encB vr_2_3 r_2_2 :: Ow.box b_6 61 #[.int .i64 ((gi acts i_1).1), .int .i64 a_1_1, .int .i64 ((gi acts i_1).2.2.1), .bool ((gi acts i_1).2.2.2)] :: fr)) x_0_2 x_1_2 (now_1 + a_1_1) b_4 vx_1_2 hS hM) ?_
              rintro _ h_21 ⟨F_17, r_Now_4, r_L_4, v_7, rfl, hk, hS, hM⟩
              replace hK := hK.trans hk
              replace hL_acts := hL_acts.kp hk
              refine HO.nil (thenQ_normal (?_))
              refine HW.seq ?_
              refine HW.region ?_
              refine HO.val (v := .pointer (some ⟨b_2, 0, none⟩)) (want_none) rfl (q_move rfl) ?_
              refine HO.val (v := .int .i64 (now_1 + a_1_1)) (want_none) rfl (q_move rfl) ?_
              replace hS : St F_17 (Ow.box b_2 94 #[.int .i64 r_0_2, .pointer (some ⟨b_3, 0, none⟩), vr_2_3] :: Ow.box b_3 106 #[.map (some r_4)] :: Ow.map r_4 kI kI r_1_0_2 :: Ow.own 4 1 encB vr_2_3 r_2_2 :: Ow.box b_4 59 #[.int .i64 r_Now_4, v_7] :: Ow.own 98 2 e_acequiaref23_One v_7 r_L_4 :: Ow.box b_1 50 (e_api_Tune t).toArray :: Ow.box b_6 61 #[.int .i64 ((gi acts i_1).1), .int .i64 a_1_1, .int .i64 ((gi acts i_1).2.2.1), .bool ((gi acts i_1).2.2.2)] :: fr) h_21 := hS.perm2 [3, 4, 5, 6, 0, 1, 2, 7] 8 rfl rfl
              refine HO.call (want_none) rfl (ec en_36 rfl rfl) (route_Routes_Next_walk (fr := (Ow.box b_4 59 #[.int .i64 r_Now_4, v_7] :: Ow.own 98 2 e_acequiaref23_One v_7 r_L_4 :: Ow.box b_1 50 (e_api_Tune t).toArray :: Ow.box b_6 61 #[.int .i64 ((gi acts i_1).1), .int .i64 a_1_1, .int .i64 ((gi acts i_1).2.2.1), .bool ((gi acts i_1).2.2.2)] :: fr)) r_0_2 r_1_0_2 r_2_2 (now_1 + a_1_1) b_2 b_3 r_4 vr_2_3 hS hM) ?_
              rintro _ h_22 ⟨F_18, r0_1, r1_1, r_now_4, rm_4, r_fixed_4, v_8, rfl, hk, hS, hM⟩
              replace hK := hK.trans hk
              replace hL_acts := hL_acts.kp hk
              refine HO.val (v := .tuple #[.int .i64 r0_1, .bool r1_1]) (want_none) rfl (q_move rfl) ?_
              refine HO.val (v := .int .i64 r0_1) (want_none) rfl (q_extract rfl rfl) ?_
              refine HO.val (v := .bool r1_1) (want_none) rfl (q_extract rfl rfl) ?_
              refine HO.val (v := .int .i64 r0_1) (want_none) rfl (q_assign rfl) ?_
              refine HO.val (v := .bool r1_1) (want_none) rfl (q_assign rfl) ?_
              refine HO.nil (thenQ_normal (?_))
              refine HW.seq ?_
              refine HW.region ?_
              refine HO.val (v := .pointer (some ⟨b_4, 0, none⟩)) (want_none) rfl (q_move rfl) ?_
              replace hS : St F_18 (Ow.box b_4 59 #[.int .i64 r_Now_4, v_7] :: Ow.box b_2 94 #[.int .i64 r_now_4, .pointer (some ⟨b_3, 0, none⟩), v_8] :: Ow.box b_3 106 #[.map (some r_4)] :: Ow.map r_4 kI kI rm_4 :: Ow.own 4 1 encB v_8 r_fixed_4 :: Ow.own 98 2 e_acequiaref23_One v_7 r_L_4 :: Ow.box b_1 50 (e_api_Tune t).toArray :: Ow.box b_6 61 #[.int .i64 ((gi acts i_1).1), .int .i64 a_1_1, .int .i64 ((gi acts i_1).2.2.1), .bool ((gi acts i_1).2.2.2)] :: fr) h_22 := hS.perm2 [4, 0, 1, 2, 3, 5, 6, 7] 8 rfl rfl
              have hZ_5 := hS
              have hkz_5 := (hS.freeze).2
              replace hS := hS.freeze.1
              have hL_5 := hZ_5.lent
              replace hS : St (fun b => F_18 b ∨ (Ow.box b_4 59 #[.int .i64 r_Now_4, v_7]).foot b) (Ow.own 98 2 e_acequiaref23_One v_7 r_L_4 :: Ow.box b_2 94 #[.int .i64 r_now_4, .pointer (some ⟨b_3, 0, none⟩), v_8] :: Ow.box b_3 106 #[.map (some r_4)] :: Ow.map r_4 kI kI rm_4 :: Ow.own 4 1 encB v_8 r_fixed_4 :: Ow.box b_1 50 (e_api_Tune t).toArray :: Ow.box b_6 61 #[.int .i64 ((gi acts i_1).1), .int .i64 a_1_1, .int .i64 ((gi acts i_1).2.2.1), .bool ((gi acts i_1).2.2.2)] :: fr) h_22 := hS.perm2 [4, 0, 1, 2, 3, 5, 6] 7 rfl rfl
              have hZ_6 := hS
              have hkz_6 := (hS.freeze).2
              replace hS := hS.freeze.1
              have hL_6 : SliceF (fun b => (fun b => F_18 b ∨ (Ow.box b_4 59 #[.int .i64 r_Now_4, v_7]).foot b) b ∨ (Ow.own 98 2 e_acequiaref23_One v_7 r_L_4).foot b) h_22 2 e_acequiaref23_One v_7 r_L_4 := ⟨(hZ_6.own 0 rfl).slice, fun _ b hb => .inr hb⟩
              refine HO.call (want_none) rfl (ec en_37 rfl rfl) (ref23_R_Next_walk (fr := (Ow.box b_2 94 #[.int .i64 r_now_4, .pointer (some ⟨b_3, 0, none⟩), v_8] :: Ow.box b_3 106 #[.map (some r_4)] :: Ow.map r_4 kI kI rm_4 :: Ow.own 4 1 encB v_8 r_fixed_4 :: Ow.box b_1 50 (e_api_Tune t).toArray :: Ow.box b_6 61 #[.int .i64 ((gi acts i_1).1), .int .i64 a_1_1, .int .i64 ((gi acts i_1).2.2.1), .bool ((gi acts i_1).2.2.2)] :: fr)) r_Now_4 r_L_4 b_4 v_7 hS hL_6 (hL_5.kp hkz_6) hM) ?_
              rintro _ h_23 ⟨F_19, r0_2, r1_2, rfl, hk, hS, _, _, hM⟩
              obtain ⟨hS, hk⟩ := hZ_6.back hk hS
              obtain ⟨hS, hk⟩ := hZ_5.back hk hS
              generalize (fun b => (fun b => F_19 b ∧ ¬ (Ow.own 98 2 e_acequiaref23_One v_7 r_L_4).foot b) b ∧ ¬ (Ow.box b_4 59 #[.int .i64 r_Now_4, v_7]).foot b) = F_20 at hS hk
              replace hK := hK.trans hk
              replace hL_acts := hL_acts.kp hk
              refine HO.val (v := .tuple #[.int .i64 r0_2, .bool r1_2]) (want_none) rfl (q_move rfl) ?_
              refine HO.val (v := .int .i64 r0_2) (want_none) rfl (q_extract rfl rfl) ?_
              refine HO.val (v := .bool r1_2) (want_none) rfl (q_extract rfl rfl) ?_
              refine HO.val (v := .int .i64 r0_2) (want_none) rfl (q_assign rfl) ?_
              refine HO.val (v := .bool r1_2) (want_none) rfl (q_assign rfl) ?_
              refine HO.nil (thenQ_normal (?_))
              refine HW.seq ?_
              refine HW.regionA 41 mixed (fun h => (Blk h b_6 (.cells #[.int .i64 ((gi acts i_1).1), .int .i64 a_1_1, .int .i64 ((gi acts i_1).2.2.1), .bool ((gi acts i_1).2.2.2)] 61 (0, 0)))) [] (by kernel_rfl) ?_
              refine HA.val (k := 0) (v := .pointer (some ⟨b_2, 0, none⟩)) rfl rfl (by kernel_rfl) (by kernel_rfl) (want_none) rfl (fun _ c442 => q_move rfl) ?_
              refine HA.val (k := 1) (v := .int .i64 (now_1 + a_1_1)) rfl rfl (by kernel_rfl) (by kernel_rfl) (want_none) rfl (fun _ c442 => q_move rfl) ?_
              refine HA.val (k := 3) (v := .pointer (some ⟨b_4, 0, none⟩)) rfl rfl (by kernel_rfl) (by kernel_rfl) (want_none) rfl (fun _ c442 => q_move rfl) ?_
              refine HA.one (k := 2) ⟨(hS.box 7 rfl), (Go.Wk.at_nil _ _)⟩ (by kernel_rfl) ?_
              replace hS : St F_20 (Ow.box b_2 94 #[.int .i64 r_now_4, .pointer (some ⟨b_3, 0, none⟩), v_8] :: Ow.box b_3 106 #[.map (some r_4)] :: Ow.map r_4 kI kI rm_4 :: Ow.own 4 1 encB v_8 r_fixed_4 :: Ow.box b_4 59 #[.int .i64 r_Now_4, v_7] :: Ow.own 98 2 e_acequiaref23_One v_7 r_L_4 :: Ow.box b_1 50 (e_api_Tune t).toArray :: Ow.box b_6 61 #[.int .i64 ((gi acts i_1).1), .int .i64 a_1_1, .int .i64 ((gi acts i_1).2.2.1), .bool ((gi acts i_1).2.2.2)] :: fr) h_23 := hS.perm2 [2, 3, 4, 5, 0, 1, 6, 7] 8 rfl rfl
              refine HS.call rfl (want_none) rfl (ec en_39 rfl rfl) (route_Routes_Ports_walk (fr := (Ow.box b_4 59 #[.int .i64 r_Now_4, v_7] :: Ow.own 98 2 e_acequiaref23_One v_7 r_L_4 :: Ow.box b_1 50 (e_api_Tune t).toArray :: Ow.box b_6 61 #[.int .i64 ((gi acts i_1).1), .int .i64 a_1_1, .int .i64 ((gi acts i_1).2.2.1), .bool ((gi acts i_1).2.2.2)] :: fr)) r_now_4 rm_4 r_fixed_4 (now_1 + a_1_1) b_2 b_3 r_4 v_8 hS hM) ?_
              rintro vr_1 h_24 ⟨F_21, r_12, r_now_5, rm_5, r_fixed_5, _, v_9, rfl, hk, hS, hM⟩
              replace hK := hK.trans hk
              replace hL_acts := hL_acts.kp hk
              refine HA.one (k := 4) ⟨(hS.box 8 rfl), (Go.Wk.at_nil _ _)⟩ (by kernel_rfl) ?_
              replace hS : St F_21 (Ow.box b_4 59 #[.int .i64 r_Now_4, v_7] :: Ow.own 3 1 encI vr_1 r_12 :: Ow.box b_2 94 #[.int .i64 r_now_5, .pointer (some ⟨b_3, 0, none⟩), v_9] :: Ow.box b_3 106 #[.map (some r_4)] :: Ow.map r_4 kI kI rm_5 :: Ow.own 4 1 encB v_9 r_fixed_5 :: Ow.own 98 2 e_acequiaref23_One v_7 r_L_4 :: Ow.box b_1 50 (e_api_Tune t).toArray :: Ow.box b_6 61 #[.int .i64 ((gi acts i_1).1), .int .i64 a_1_1, .int .i64 ((gi acts i_1).2.2.1), .bool ((gi acts i_1).2.2.2)] :: fr) h_24 := hS.perm2 [5, 0, 1, 2, 3, 4, 6, 7, 8] 9 rfl rfl
              have hZ_7 := hS
              have hkz_7 := (hS.freeze).2
              replace hS := hS.freeze.1
              have hL_7 := hZ_7.lent
              replace hS : St (fun b => F_21 b ∨ (Ow.box b_4 59 #[.int .i64 r_Now_4, v_7]).foot b) (Ow.own 98 2 e_acequiaref23_One v_7 r_L_4 :: Ow.own 3 1 encI vr_1 r_12 :: Ow.box b_2 94 #[.int .i64 r_now_5, .pointer (some ⟨b_3, 0, none⟩), v_9] :: Ow.box b_3 106 #[.map (some r_4)] :: Ow.map r_4 kI kI rm_5 :: Ow.own 4 1 encB v_9 r_fixed_5 :: Ow.box b_1 50 (e_api_Tune t).toArray :: Ow.box b_6 61 #[.int .i64 ((gi acts i_1).1), .int .i64 a_1_1, .int .i64 ((gi acts i_1).2.2.1), .bool ((gi acts i_1).2.2.2)] :: fr) h_24 := hS.perm2 [5, 0, 1, 2, 3, 4, 6, 7] 8 rfl rfl
              have hZ_8 := hS
              have hkz_8 := (hS.freeze).2
              replace hS := hS.freeze.1
              have hL_8 : SliceF (fun b => (fun b => F_21 b ∨ (Ow.box b_4 59 #[.int .i64 r_Now_4, v_7]).foot b) b ∨ (Ow.own 98 2 e_acequiaref23_One v_7 r_L_4).foot b) h_24 2 e_acequiaref23_One v_7 r_L_4 := ⟨(hZ_8.own 0 rfl).slice, fun _ b hb => .inr hb⟩
              refine HS.call rfl (want_none) rfl (ec en_40 rfl rfl) (ref23_R_Ports_walk (fr := (Ow.own 3 1 encI vr_1 r_12 :: Ow.box b_2 94 #[.int .i64 r_now_5, .pointer (some ⟨b_3, 0, none⟩), v_9] :: Ow.box b_3 106 #[.map (some r_4)] :: Ow.map r_4 kI kI rm_5 :: Ow.own 4 1 encB v_9 r_fixed_5 :: Ow.box b_1 50 (e_api_Tune t).toArray :: Ow.box b_6 61 #[.int .i64 ((gi acts i_1).1), .int .i64 a_1_1, .int .i64 ((gi acts i_1).2.2.1), .bool ((gi acts i_1).2.2.2)] :: fr)) r_Now_4 r_L_4 b_4 v_7 hS hL_8 (hL_7.kp hkz_8) hM) ?_
              rintro vr_2 h_25 ⟨F_22, r_13, _, rfl, hk, hS, _, _, hM⟩
              obtain ⟨hS, hk⟩ := hZ_8.back hk hS
              obtain ⟨hS, hk⟩ := hZ_7.back hk hS
              generalize (fun b => (fun b => F_22 b ∧ ¬ (Ow.own 98 2 e_acequiaref23_One v_7 r_L_4).foot b) b ∧ ¬ (Ow.box b_4 59 #[.int .i64 r_Now_4, v_7]).foot b) = F_23 at hS hk
              replace hK := hK.trans hk
              replace hL_acts := hL_acts.kp hk
              refine HA.one (k := 5) ⟨(hS.box 9 rfl), (Go.Wk.at_nil _ _)⟩ (by kernel_rfl) ?_
              replace hS : St F_23 (Ow.own 3 1 encI vr_1 r_12 :: Ow.box b_4 59 #[.int .i64 r_Now_4, v_7] :: Ow.own 98 2 e_acequiaref23_One v_7 r_L_4 :: Ow.own 3 1 encI vr_2 r_13 :: Ow.box b_2 94 #[.int .i64 r_now_5, .pointer (some ⟨b_3, 0, none⟩), v_9] :: Ow.box b_3 106 #[.map (some r_4)] :: Ow.map r_4 kI kI rm_5 :: Ow.own 4 1 encB v_9 r_fixed_5 :: Ow.box b_1 50 (e_api_Tune t).toArray :: Ow.box b_6 61 #[.int .i64 ((gi acts i_1).1), .int .i64 a_1_1, .int .i64 ((gi acts i_1).2.2.1), .bool ((gi acts i_1).2.2.2)] :: fr) h_25 := hS.perm2 [3, 0, 1, 2, 4, 5, 6, 7, 8, 9] 10 rfl rfl
              have hZ_9 := hS
              have hkz_9 := (hS.freeze).2
              replace hS := hS.freeze.1
              have hL_9 : SliceF (fun b => F_23 b ∨ (Ow.own 3 1 encI vr_1 r_12).foot b) h_25 1 encI vr_1 r_12 := ⟨(hZ_9.own 0 rfl).slice, fun _ b hb => .inr hb⟩
              replace hS : St (fun b => F_23 b ∨ (Ow.own 3 1 encI vr_1 r_12).foot b) (Ow.own 3 1 encI vr_2 r_13 :: Ow.box b_4 59 #[.int .i64 r_Now_4, v_7] :: Ow.own 98 2 e_acequiaref23_One v_7 r_L_4 :: Ow.box b_2 94 #[.int .i64 r_now_5, .pointer (some ⟨b_3, 0, none⟩), v_9] :: Ow.box b_3 106 #[.map (some r_4)] :: Ow.map r_4 kI kI rm_5 :: Ow.own 4 1 encB v_9 r_fixed_5 :: Ow.box b_1 50 (e_api_Tune t).toArray :: Ow.box b_6 61 #[.int .i64 ((gi acts i_1).1), .int .i64 a_1_1, .int .i64 ((gi acts i_1).2.2.1), .bool ((gi acts i_1).2.2.2)] :: fr) h_25 := hS.perm2 [2, 0, 1, 3, 4, 5, 6, 7, 8] 9 rfl rfl
              have hZ_10 := hS
              have hkz_10 := (hS.freeze).2
              replace hS := hS.freeze.1
              have hL_10 : SliceF (fun b => (fun b => F_23 b ∨ (Ow.own 3 1 encI vr_1 r_12).foot b) b ∨ (Ow.own 3 1 encI vr_2 r_13).foot b) h_25 1 encI vr_2 r_13 := ⟨(hZ_10.own 0 rfl).slice, fun _ b hb => .inr hb⟩
              refine HS.call rfl (want_none) rfl (ec en_38 rfl rfl) (ref23_Same_walk (fr := (Ow.box b_4 59 #[.int .i64 r_Now_4, v_7] :: Ow.own 98 2 e_acequiaref23_One v_7 r_L_4 :: Ow.box b_2 94 #[.int .i64 r_now_5, .pointer (some ⟨b_3, 0, none⟩), v_9] :: Ow.box b_3 106 #[.map (some r_4)] :: Ow.map r_4 kI kI rm_5 :: Ow.own 4 1 encB v_9 r_fixed_5 :: Ow.box b_1 50 (e_api_Tune t).toArray :: Ow.box b_6 61 #[.int .i64 ((gi acts i_1).1), .int .i64 a_1_1, .int .i64 ((gi acts i_1).2.2.1), .bool ((gi acts i_1).2.2.2)] :: fr)) r_12 r_13 vr_1 vr_2 hS (hL_9.kp hkz_10) hL_10 hM) ?_
              rintro _ h_26 ⟨F_24, r_14, rfl, hk, hS, _, _, hM⟩
              obtain ⟨hS, hk⟩ := hZ_10.back hk hS
              obtain ⟨hS, hk⟩ := hZ_9.back hk hS
              generalize (fun b => (fun b => F_24 b ∧ ¬ (Ow.own 3 1 encI vr_2 r_13).foot b) b ∧ ¬ (Ow.own 3 1 encI vr_1 r_12).foot b) = F_25 at hS hk
              replace hK := hK.trans hk
              replace hL_acts := hL_acts.kp hk
              refine HA.val (k := 6) (v := .bool (!r_14)) rfl rfl (by kernel_rfl) (by kernel_rfl) (want_none) rfl (fun _ c442 => q_not rfl) ?_
              refine HA.val (k := 7) (v := .bool (!r_14)) rfl rfl (by kernel_rfl) (by kernel_rfl) (want_none) rfl (fun _ c442 => q_move rfl) ?_
              rcases Bool.eq_false_or_eq_true (!r_14) with c_13 | c_13
              · replace hM := hM.1 c_13
                refine HA.past (k := 8) rfl rfl (by kernel_rfl) (by kernel_rfl) (past_by rfl rfl c_13) rfl ?_
                refine HA.past (k := 9) rfl rfl (by kernel_rfl) (by kernel_rfl) (past_by rfl rfl c_13) rfl ?_
                refine HA.past (k := 10) rfl rfl (by kernel_rfl) (by kernel_rfl) (past_by rfl rfl c_13) rfl ?_
                refine HA.past (k := 11) rfl rfl (by kernel_rfl) (by kernel_rfl) (past_by rfl rfl c_13) rfl ?_
                refine HA.past (k := 13) rfl rfl (by kernel_rfl) (by kernel_rfl) (past_by rfl rfl c_13) rfl ?_
                refine HA.past (k := 14) rfl rfl (by kernel_rfl) (by kernel_rfl) (past_by rfl rfl c_13) rfl ?_
                refine HA.past (k := 15) rfl rfl (by kernel_rfl) (by kernel_rfl) (past_by rfl rfl c_13) rfl ?_
                refine HA.one (k := 12) ⟨(hS.box 9 rfl), (Go.Wk.at_nil _ _)⟩ (by kernel_rfl) ?_
                refine HS.past rfl (past_by rfl rfl c_13) rfl ?_
                refine HA.one (k := 16) ⟨(hS.box 9 rfl), (Go.Wk.at_nil _ _)⟩ (by kernel_rfl) ?_
                refine HS.past rfl (past_by rfl rfl c_13) rfl ?_
                refine HA.past (k := 17) rfl rfl (by kernel_rfl) (by kernel_rfl) (past_by rfl rfl c_13) rfl ?_
                refine HA.val (k := 18) (v := .bool true) rfl rfl (by kernel_rfl) (by kernel_rfl) (want_none) rfl (fun _ c442 => q_pickK true rfl c_13 rfl) ?_
                refine HA.val (k := 19) (v := .bool true) rfl rfl (by kernel_rfl) (by kernel_rfl) (want_none) rfl (fun _ c442 => q_move rfl) ?_
                refine HA.past (k := 20) rfl rfl (by kernel_rfl) (by kernel_rfl) (past_some rfl rfl) rfl ?_
                refine HA.past (k := 21) rfl rfl (by kernel_rfl) (by kernel_rfl) (past_some rfl rfl) rfl ?_
                refine HA.past (k := 22) rfl rfl (by kernel_rfl) (by kernel_rfl) (past_some rfl rfl) rfl ?_
                refine HA.past (k := 23) rfl rfl (by kernel_rfl) (by kernel_rfl) (past_some rfl rfl) rfl ?_
                refine HA.past (k := 25) rfl rfl (by kernel_rfl) (by kernel_rfl) (past_some rfl rfl) rfl ?_
                refine HA.past (k := 26) rfl rfl (by kernel_rfl) (by kernel_rfl) (past_some rfl rfl) rfl ?_
                refine HA.past (k := 27) rfl rfl (by kernel_rfl) (by kernel_rfl) (past_some rfl rfl) rfl ?_
                refine HA.one (k := 24) ⟨(hS.box 9 rfl), (Go.Wk.at_nil _ _)⟩ (by kernel_rfl) ?_
                refine HS.past rfl (past_some rfl rfl) rfl ?_
                refine HA.one (k := 28) ⟨(hS.box 9 rfl), (Go.Wk.at_nil _ _)⟩ (by kernel_rfl) ?_
                refine HS.past rfl (past_some rfl rfl) rfl ?_
                refine HA.past (k := 29) rfl rfl (by kernel_rfl) (by kernel_rfl) (past_some rfl rfl) rfl ?_
                refine HA.val (k := 30) (v := .bool true) rfl rfl (by kernel_rfl) (by kernel_rfl) (want_none) rfl (fun _ c442 => q_pick rfl rfl) ?_
                refine HA.val (k := 31) (v := .bool true) rfl rfl (by kernel_rfl) (by kernel_rfl) (want_none) rfl (fun _ c442 => q_move rfl) ?_
                refine HA.past (k := 32) rfl rfl (by kernel_rfl) (by kernel_rfl) (past_some rfl rfl) rfl ?_
                refine HA.past (k := 33) rfl rfl (by kernel_rfl) (by kernel_rfl) (past_some rfl rfl) rfl ?_
                refine HA.past (k := 34) rfl rfl (by kernel_rfl) (by kernel_rfl) (past_some rfl rfl) rfl ?_
                refine HA.val (k := 35) (v := .bool true) rfl rfl (by kernel_rfl) (by kernel_rfl) (want_none) rfl (fun _ c442 => q_pick rfl rfl) ?_
                refine HA.val (k := 36) (v := .bool true) rfl rfl (by kernel_rfl) (by kernel_rfl) (want_none) rfl (fun _ c442 => q_move rfl) ?_
                refine HA.past (k := 37) rfl rfl (by kernel_rfl) (by kernel_rfl) (past_some rfl rfl) rfl ?_
                refine HA.past (k := 38) rfl rfl (by kernel_rfl) (by kernel_rfl) (past_some rfl rfl) rfl ?_
                refine HA.past (k := 39) rfl rfl (by kernel_rfl) (by kernel_rfl) (past_some rfl rfl) rfl ?_
                refine HA.val (k := 40) (v := .bool true) rfl rfl (by kernel_rfl) (by kernel_rfl) (want_none) rfl (fun _ c442 => q_pick rfl rfl) ?_
                refine HA.nil ⟨(hS.box 9 rfl), (Go.Wk.at_nil _ _)⟩ (by kernel_rfl) (thenQ_normal (?_))
                refine HW.condT rfl ?_
                refine HW.seq ?_
                refine HW.region ?_
                refine HO.val (v := .bool false) (want_none) rfl (q_assign rfl) ?_
                refine HO.nil (thenQ_normal (?_))
                refine HW.ret (blockQ_ret (thenQ_ret (thenQ_ret (blockQ_ret (thenQ_ret (?_))))))
                refine ⟨.inr rfl, .bool false, res1 rfl (rt rfl), ?_⟩
                replace hS : St F_25 (fr) h_26 := hS.perm2 [] 10 rfl rfl
                exact ⟨F_25, false, rfl, hK, hS, hL_acts, hM⟩
              · replace hM := hM.2 c_13
                refine HA.val (k := 8) (v := .pointer (some ⟨b_2, 0, none⟩)) rfl rfl (by kernel_rfl) (by kernel_rfl) (want_by rfl rfl c_13) rfl (fun _ c442 => q_move rfl) ?_
                refine HA.val (k := 9) (v := .int .i64 (now_1 + a_1_1)) rfl rfl (by kernel_rfl) (by kernel_rfl) (want_by rfl rfl c_13) rfl (fun _ c442 => q_move rfl) ?_
                refine HA.val (k := 10) (v := .pointer (some ⟨b_6, 2, none⟩)) rfl rfl (by kernel_rfl) (by kernel_rfl) (want_by rfl rfl c_13) rfl (fun _ c442 => q_fieldAddr fa_61_2 rfl rfl) ?_
                refine HA.val (k := 11) (v := .int .i64 ((gi acts i_1).2.2.1)) rfl rfl (by kernel_rfl) (by kernel_rfl) (want_by rfl rfl c_13) rfl (fun _ c442 => q_load to_3 rfl (Blk.cell c442 rfl)) ?_
                refine HA.val (k := 13) (v := .pointer (some ⟨b_4, 0, none⟩)) rfl rfl (by kernel_rfl) (by kernel_rfl) (want_by rfl rfl c_13) rfl (fun _ c442 => q_move rfl) ?_
                refine HA.val (k := 14) (v := .pointer (some ⟨b_6, 2, none⟩)) rfl rfl (by kernel_rfl) (by kernel_rfl) (want_by rfl rfl c_13) rfl (fun _ c442 => q_fieldAddr fa_61_2 rfl rfl) ?_
                refine HA.val (k := 15) (v := .int .i64 ((gi acts i_1).2.2.1)) rfl rfl (by kernel_rfl) (by kernel_rfl) (want_by rfl rfl c_13) rfl (fun _ c442 => q_load to_3 rfl (Blk.cell c442 rfl)) ?_
                refine HA.one (k := 12) ⟨(hS.box 9 rfl), (Go.Wk.at_nil _ _)⟩ (by kernel_rfl) ?_
                replace hS : St F_25 (Ow.box b_2 94 #[.int .i64 r_now_5, .pointer (some ⟨b_3, 0, none⟩), v_9] :: Ow.box b_3 106 #[.map (some r_4)] :: Ow.map r_4 kI kI rm_5 :: Ow.own 4 1 encB v_9 r_fixed_5 :: Ow.own 3 1 encI vr_1 r_12 :: Ow.own 3 1 encI vr_2 r_13 :: Ow.box b_4 59 #[.int .i64 r_Now_4, v_7] :: Ow.own 98 2 e_acequiaref23_One v_7 r_L_4 :: Ow.box b_1 50 (e_api_Tune t).toArray :: Ow.box b_6 61 #[.int .i64 ((gi acts i_1).1), .int .i64 a_1_1, .int .i64 ((gi acts i_1).2.2.1), .bool ((gi acts i_1).2.2.2)] :: fr) h_26 := hS.perm2 [4, 5, 6, 7, 0, 1, 2, 3, 8, 9] 10 rfl rfl
                refine HS.call rfl (want_by rfl rfl c_13) rfl (ec en_41 rfl rfl) (route_Routes_Is_walk (fr := (Ow.own 3 1 encI vr_1 r_12 :: Ow.own 3 1 encI vr_2 r_13 :: Ow.box b_4 59 #[.int .i64 r_Now_4, v_7] :: Ow.own 98 2 e_acequiaref23_One v_7 r_L_4 :: Ow.box b_1 50 (e_api_Tune t).toArray :: Ow.box b_6 61 #[.int .i64 ((gi acts i_1).1), .int .i64 a_1_1, .int .i64 ((gi acts i_1).2.2.1), .bool ((gi acts i_1).2.2.2)] :: fr)) r_now_5 rm_5 r_fixed_5 (now_1 + a_1_1) ((gi acts i_1).2.2.1) b_2 b_3 r_4 v_9 hS hM) ?_
                rintro _ h_27 ⟨F_26, r_15, r_now_6, rm_6, r_fixed_6, v_10, rfl, hk, hS, hM⟩
                replace hK := hK.trans hk
                replace hL_acts := hL_acts.kp hk
                refine HA.one (k := 16) ⟨(hS.box 9 rfl), (Go.Wk.at_nil _ _)⟩ (by kernel_rfl) ?_
                replace hS : St F_26 (Ow.box b_4 59 #[.int .i64 r_Now_4, v_7] :: Ow.box b_2 94 #[.int .i64 r_now_6, .pointer (some ⟨b_3, 0, none⟩), v_10] :: Ow.box b_3 106 #[.map (some r_4)] :: Ow.map r_4 kI kI rm_6 :: Ow.own 4 1 encB v_10 r_fixed_6 :: Ow.own 3 1 encI vr_1 r_12 :: Ow.own 3 1 encI vr_2 r_13 :: Ow.own 98 2 e_acequiaref23_One v_7 r_L_4 :: Ow.box b_1 50 (e_api_Tune t).toArray :: Ow.box b_6 61 #[.int .i64 ((gi acts i_1).1), .int .i64 a_1_1, .int .i64 ((gi acts i_1).2.2.1), .bool ((gi acts i_1).2.2.2)] :: fr) h_27 := hS.perm2 [6, 0, 1, 2, 3, 4, 5, 7, 8, 9] 10 rfl rfl
                have hZ_11 := hS
                have hkz_11 := (hS.freeze).2
                replace hS := hS.freeze.1
                have hL_11 := hZ_11.lent
                replace hS : St (fun b => F_26 b ∨ (Ow.box b_4 59 #[.int .i64 r_Now_4, v_7]).foot b) (Ow.own 98 2 e_acequiaref23_One v_7 r_L_4 :: Ow.box b_2 94 #[.int .i64 r_now_6, .pointer (some ⟨b_3, 0, none⟩), v_10] :: Ow.box b_3 106 #[.map (some r_4)] :: Ow.map r_4 kI kI rm_6 :: Ow.own 4 1 encB v_10 r_fixed_6 :: Ow.own 3 1 encI vr_1 r_12 :: Ow.own 3 1 encI vr_2 r_13 :: Ow.box b_1 50 (e_api_Tune t).toArray :: Ow.box b_6 61 #[.int .i64 ((gi acts i_1).1), .int .i64 a_1_1, .int .i64 ((gi acts i_1).2.2.1), .bool ((gi acts i_1).2.2.2)] :: fr) h_27 := hS.perm2 [6, 0, 1, 2, 3, 4, 5, 7, 8] 9 rfl rfl
                have hZ_12 := hS
                have hkz_12 := (hS.freeze).2
                replace hS := hS.freeze.1
                have hL_12 : SliceF (fun b => (fun b => F_26 b ∨ (Ow.box b_4 59 #[.int .i64 r_Now_4, v_7]).foot b) b ∨ (Ow.own 98 2 e_acequiaref23_One v_7 r_L_4).foot b) h_27 2 e_acequiaref23_One v_7 r_L_4 := ⟨(hZ_12.own 0 rfl).slice, fun _ b hb => .inr hb⟩
                refine HS.call rfl (want_by rfl rfl c_13) rfl (ec en_42 rfl rfl) (ref23_R_Is_walk (fr := (Ow.box b_2 94 #[.int .i64 r_now_6, .pointer (some ⟨b_3, 0, none⟩), v_10] :: Ow.box b_3 106 #[.map (some r_4)] :: Ow.map r_4 kI kI rm_6 :: Ow.own 4 1 encB v_10 r_fixed_6 :: Ow.own 3 1 encI vr_1 r_12 :: Ow.own 3 1 encI vr_2 r_13 :: Ow.box b_1 50 (e_api_Tune t).toArray :: Ow.box b_6 61 #[.int .i64 ((gi acts i_1).1), .int .i64 a_1_1, .int .i64 ((gi acts i_1).2.2.1), .bool ((gi acts i_1).2.2.2)] :: fr)) r_Now_4 r_L_4 ((gi acts i_1).2.2.1) b_4 v_7 hS hL_12 (hL_11.kp hkz_12) hM) ?_
                rintro _ h_28 ⟨F_27, r_16, rfl, hk, hS, _, _, hM⟩
                obtain ⟨hS, hk⟩ := hZ_12.back hk hS
                obtain ⟨hS, hk⟩ := hZ_11.back hk hS
                generalize (fun b => (fun b => F_27 b ∧ ¬ (Ow.own 98 2 e_acequiaref23_One v_7 r_L_4).foot b) b ∧ ¬ (Ow.box b_4 59 #[.int .i64 r_Now_4, v_7]).foot b) = F_28 at hS hk
                replace hK := hK.trans hk
                replace hL_acts := hL_acts.kp hk
                refine HA.val (k := 17) (v := .bool (!(r_15 == r_16))) rfl rfl (by kernel_rfl) (by kernel_rfl) (want_by rfl rfl c_13) rfl (fun _ c442 => q_neqB Try.underlying4 rfl rfl) ?_
                refine HA.val (k := 18) (v := .bool (!(r_15 == r_16))) rfl rfl (by kernel_rfl) (by kernel_rfl) (want_none) rfl (fun _ c442 => q_pickK false rfl c_13 rfl) ?_
                refine HA.val (k := 19) (v := .bool (!(r_15 == r_16))) rfl rfl (by kernel_rfl) (by kernel_rfl) (want_none) rfl (fun _ c442 => q_move rfl) ?_
                rcases Bool.eq_false_or_eq_true (!(r_15 == r_16)) with c_14 | c_14
                · replace hM := hM.1 c_14
                  refine HA.past (k := 20) rfl rfl (by kernel_rfl) (by kernel_rfl) (past_by rfl rfl c_14) rfl ?_
                  refine HA.past (k := 21) rfl rfl (by kernel_rfl) (by kernel_rfl) (past_by rfl rfl c_14) rfl ?_
                  refine HA.past (k := 22) rfl rfl (by kernel_rfl) (by kernel_rfl) (past_by rfl rfl c_14) rfl ?_
                  refine HA.past (k := 23) rfl rfl (by kernel_rfl) (by kernel_rfl) (past_by rfl rfl c_14) rfl ?_
                  refine HA.past (k := 25) rfl rfl (by kernel_rfl) (by kernel_rfl) (past_by rfl rfl c_14) rfl ?_
                  refine HA.past (k := 26) rfl rfl (by kernel_rfl) (by kernel_rfl) (past_by rfl rfl c_14) rfl ?_
                  refine HA.past (k := 27) rfl rfl (by kernel_rfl) (by kernel_rfl) (past_by rfl rfl c_14) rfl ?_
                  refine HA.one (k := 24) ⟨(hS.box 9 rfl), (Go.Wk.at_nil _ _)⟩ (by kernel_rfl) ?_
                  refine HS.past rfl (past_by rfl rfl c_14) rfl ?_
                  refine HA.one (k := 28) ⟨(hS.box 9 rfl), (Go.Wk.at_nil _ _)⟩ (by kernel_rfl) ?_
                  refine HS.past rfl (past_by rfl rfl c_14) rfl ?_
                  refine HA.past (k := 29) rfl rfl (by kernel_rfl) (by kernel_rfl) (past_by rfl rfl c_14) rfl ?_
                  refine HA.val (k := 30) (v := .bool true) rfl rfl (by kernel_rfl) (by kernel_rfl) (want_none) rfl (fun _ c442 => q_pickK true rfl c_14 rfl) ?_
                  refine HA.val (k := 31) (v := .bool true) rfl rfl (by kernel_rfl) (by kernel_rfl) (want_none) rfl (fun _ c442 => q_move rfl) ?_
                  refine HA.past (k := 32) rfl rfl (by kernel_rfl) (by kernel_rfl) (past_some rfl rfl) rfl ?_
                  refine HA.past (k := 33) rfl rfl (by kernel_rfl) (by kernel_rfl) (past_some rfl rfl) rfl ?_
                  refine HA.past (k := 34) rfl rfl (by kernel_rfl) (by kernel_rfl) (past_some rfl rfl) rfl ?_
                  refine HA.val (k := 35) (v := .bool true) rfl rfl (by kernel_rfl) (by kernel_rfl) (want_none) rfl (fun _ c442 => q_pick rfl rfl) ?_
                  refine HA.val (k := 36) (v := .bool true) rfl rfl (by kernel_rfl) (by kernel_rfl) (want_none) rfl (fun _ c442 => q_move rfl) ?_
                  refine HA.past (k := 37) rfl rfl (by kernel_rfl) (by kernel_rfl) (past_some rfl rfl) rfl ?_
                  refine HA.past (k := 38) rfl rfl (by kernel_rfl) (by kernel_rfl) (past_some rfl rfl) rfl ?_
                  refine HA.past (k := 39) rfl rfl (by kernel_rfl) (by kernel_rfl) (past_some rfl rfl) rfl ?_
                  refine HA.val (k := 40) (v := .bool true) rfl rfl (by kernel_rfl) (by kernel_rfl) (want_none) rfl (fun _ c442 => q_pick rfl rfl) ?_
                  refine HA.nil ⟨(hS.box 9 rfl), (Go.Wk.at_nil _ _)⟩ (by kernel_rfl) (thenQ_normal (?_))
                  refine HW.condT rfl ?_
                  refine HW.seq ?_
                  refine HW.region ?_
                  refine HO.val (v := .bool false) (want_none) rfl (q_assign rfl) ?_
                  refine HO.nil (thenQ_normal (?_))
                  refine HW.ret (blockQ_ret (thenQ_ret (thenQ_ret (blockQ_ret (thenQ_ret (?_))))))
                  refine ⟨.inr rfl, .bool false, res1 rfl (rt rfl), ?_⟩
                  replace hS : St F_28 (fr) h_28 := hS.perm2 [] 10 rfl rfl
                  exact ⟨F_28, false, rfl, hK, hS, hL_acts, hM⟩
                · replace hM := hM.2 c_14
                  refine HA.val (k := 20) (v := .pointer (some ⟨b_2, 0, none⟩)) rfl rfl (by kernel_rfl) (by kernel_rfl) (want_by rfl rfl c_14) rfl (fun _ c442 => q_move rfl) ?_
                  refine HA.val (k := 21) (v := .int .i64 (now_1 + a_1_1)) rfl rfl (by kernel_rfl) (by kernel_rfl) (want_by rfl rfl c_14) rfl (fun _ c442 => q_move rfl) ?_
                  refine HA.val (k := 22) (v := .pointer (some ⟨b_6, 2, none⟩)) rfl rfl (by kernel_rfl) (by kernel_rfl) (want_by rfl rfl c_14) rfl (fun _ c442 => q_fieldAddr fa_61_2 rfl rfl) ?_
                  refine HA.val (k := 23) (v := .int .i64 ((gi acts i_1).2.2.1)) rfl rfl (by kernel_rfl) (by kernel_rfl) (want_by rfl rfl c_14) rfl (fun _ c442 => q_load to_3 rfl (Blk.cell c442 rfl)) ?_
                  refine HA.val (k := 25) (v := .pointer (some ⟨b_4, 0, none⟩)) rfl rfl (by kernel_rfl) (by kernel_rfl) (want_by rfl rfl c_14) rfl (fun _ c442 => q_move rfl) ?_
                  refine HA.val (k := 26) (v := .pointer (some ⟨b_6, 2, none⟩)) rfl rfl (by kernel_rfl) (by kernel_rfl) (want_by rfl rfl c_14) rfl (fun _ c442 => q_fieldAddr fa_61_2 rfl rfl) ?_
                  refine HA.val (k := 27) (v := .int .i64 ((gi acts i_1).2.2.1)) rfl rfl (by kernel_rfl) (by kernel_rfl) (want_by rfl rfl c_14) rfl (fun _ c442 => q_load to_3 rfl (Blk.cell c442 rfl)) ?_
                  refine HA.one (k := 24) ⟨(hS.box 9 rfl), (Go.Wk.at_nil _ _)⟩ (by kernel_rfl) ?_
                  replace hS : St F_28 (Ow.box b_2 94 #[.int .i64 r_now_6, .pointer (some ⟨b_3, 0, none⟩), v_10] :: Ow.box b_3 106 #[.map (some r_4)] :: Ow.map r_4 kI kI rm_6 :: Ow.own 4 1 encB v_10 r_fixed_6 :: Ow.box b_4 59 #[.int .i64 r_Now_4, v_7] :: Ow.own 98 2 e_acequiaref23_One v_7 r_L_4 :: Ow.own 3 1 encI vr_1 r_12 :: Ow.own 3 1 encI vr_2 r_13 :: Ow.box b_1 50 (e_api_Tune t).toArray :: Ow.box b_6 61 #[.int .i64 ((gi acts i_1).1), .int .i64 a_1_1, .int .i64 ((gi acts i_1).2.2.1), .bool ((gi acts i_1).2.2.2)] :: fr) h_28 := hS.perm2 [2, 3, 4, 5, 0, 1, 6, 7, 8, 9] 10 rfl rfl
                  refine HS.call rfl (want_by rfl rfl c_14) rfl (ec en_43 rfl rfl) (route_Routes_Left_walk (fr := (Ow.box b_4 59 #[.int .i64 r_Now_4, v_7] :: Ow.own 98 2 e_acequiaref23_One v_7 r_L_4 :: Ow.own 3 1 encI vr_1 r_12 :: Ow.own 3 1 encI vr_2 r_13 :: Ow.box b_1 50 (e_api_Tune t).toArray :: Ow.box b_6 61 #[.int .i64 ((gi acts i_1).1), .int .i64 a_1_1, .int .i64 ((gi acts i_1).2.2.1), .bool ((gi acts i_1).2.2.2)] :: fr)) r_now_6 rm_6 r_fixed_6 (now_1 + a_1_1) ((gi acts i_1).2.2.1) b_2 b_3 r_4 v_10 hS hM) ?_
                  rintro _ h_29 ⟨F_29, r_17, r_now_7, rm_7, r_fixed_7, v_11, rfl, hk, hS, hM⟩
                  replace hK := hK.trans hk
                  replace hL_acts := hL_acts.kp hk
                  refine HA.one (k := 28) ⟨(hS.box 9 rfl), (Go.Wk.at_nil _ _)⟩ (by kernel_rfl) ?_
                  replace hS : St F_29 (Ow.box b_4 59 #[.int .i64 r_Now_4, v_7] :: Ow.box b_2 94 #[.int .i64 r_now_7, .pointer (some ⟨b_3, 0, none⟩), v_11] :: Ow.box b_3 106 #[.map (some r_4)] :: Ow.map r_4 kI kI rm_7 :: Ow.own 4 1 encB v_11 r_fixed_7 :: Ow.own 98 2 e_acequiaref23_One v_7 r_L_4 :: Ow.own 3 1 encI vr_1 r_12 :: Ow.own 3 1 encI vr_2 r_13 :: Ow.box b_1 50 (e_api_Tune t).toArray :: Ow.box b_6 61 #[.int .i64 ((gi acts i_1).1), .int .i64 a_1_1, .int .i64 ((gi acts i_1).2.2.1), .bool ((gi acts i_1).2.2.2)] :: fr) h_29 := hS.perm2 [4, 0, 1, 2, 3, 5, 6, 7, 8, 9] 10 rfl rfl
                  have hZ_13 := hS
                  have hkz_13 := (hS.freeze).2
                  replace hS := hS.freeze.1
                  have hL_13 := hZ_13.lent
                  replace hS : St (fun b => F_29 b ∨ (Ow.box b_4 59 #[.int .i64 r_Now_4, v_7]).foot b) (Ow.own 98 2 e_acequiaref23_One v_7 r_L_4 :: Ow.box b_2 94 #[.int .i64 r_now_7, .pointer (some ⟨b_3, 0, none⟩), v_11] :: Ow.box b_3 106 #[.map (some r_4)] :: Ow.map r_4 kI kI rm_7 :: Ow.own 4 1 encB v_11 r_fixed_7 :: Ow.own 3 1 encI vr_1 r_12 :: Ow.own 3 1 encI vr_2 r_13 :: Ow.box b_1 50 (e_api_Tune t).toArray :: Ow.box b_6 61 #[.int .i64 ((gi acts i_1).1), .int .i64 a_1_1, .int .i64 ((gi acts i_1).2.2.1), .bool ((gi acts i_1).2.2.2)] :: fr) h_29 := hS.perm2 [4, 0, 1, 2, 3, 5, 6, 7, 8] 9 rfl rfl
                  have hZ_14 := hS
                  have hkz_14 := (hS.freeze).2
                  replace hS := hS.freeze.1
                  have hL_14 : SliceF (fun b => (fun b => F_29 b ∨ (Ow.box b_4 59 #[.int .i64 r_Now_4, v_7]).foot b) b ∨ (Ow.own 98 2 e_acequiaref23_One v_7 r_L_4).foot b) h_29 2 e_acequiaref23_One v_7 r_L_4 := ⟨(hZ_14.own 0 rfl).slice, fun _ b hb => .inr hb⟩
                  refine HS.call rfl (want_by rfl rfl c_14) rfl (ec en_44 rfl rfl) (ref23_R_Left_walk (fr := (Ow.box b_2 94 #[.int .i64 r_now_7, .pointer (some ⟨b_3, 0, none⟩), v_11] :: Ow.box b_3 106 #[.map (some r_4)] :: Ow.map r_4 kI kI rm_7 :: Ow.own 4 1 encB v_11 r_fixed_7 :: Ow.own 3 1 encI vr_1 r_12 :: Ow.own 3 1 encI vr_2 r_13 :: Ow.box b_1 50 (e_api_Tune t).toArray :: Ow.box b_6 61 #[.int .i64 ((gi acts i_1).1), .int .i64 a_1_1, .int .i64 ((gi acts i_1).2.2.1), .bool ((gi acts i_1).2.2.2)] :: fr)) r_Now_4 r_L_4 ((gi acts i_1).2.2.1) b_4 v_7 hS hL_14 (hL_13.kp hkz_14) hM) ?_
                  rintro _ h_30 ⟨F_30, r_18, rfl, hk, hS, _, _, hM⟩
                  obtain ⟨hS, hk⟩ := hZ_14.back hk hS
                  obtain ⟨hS, hk⟩ := hZ_13.back hk hS
                  generalize (fun b => (fun b => F_30 b ∧ ¬ (Ow.own 98 2 e_acequiaref23_One v_7 r_L_4).foot b) b ∧ ¬ (Ow.box b_4 59 #[.int .i64 r_Now_4, v_7]).foot b) = F_31 at hS hk
                  replace hK := hK.trans hk
                  replace hL_acts := hL_acts.kp hk
                  refine HA.val (k := 29) (v := .bool (!decide (r_17 = r_18))) rfl rfl (by kernel_rfl) (by kernel_rfl) (want_by rfl rfl c_14) rfl (fun _ c442 => q_neq rfl rfl) ?_
                  refine HA.val (k := 30) (v := .bool (!decide (r_17 = r_18))) rfl rfl (by kernel_rfl) (by kernel_rfl) (want_none) rfl (fun _ c442 => q_pickK false rfl c_14 rfl) ?_
                  refine HA.val (k := 31) (v := .bool (!decide (r_17 = r_18))) rfl rfl (by kernel_rfl) (by kernel_rfl) (want_none) rfl (fun _ c442 => q_move rfl) ?_
                  rcases Bool.eq_false_or_eq_true (!decide (r_17 = r_18)) with c_15 | c_15
                  · replace hM := hM.1 (nd_true c_15)
                    refine HA.past (k := 32) rfl rfl (by kernel_rfl) (by kernel_rfl) (past_by rfl rfl c_15) rfl ?_
                    refine HA.past (k := 33) rfl rfl (by kernel_rfl) (by kernel_rfl) (past_by rfl rfl c_15) rfl ?_
                    refine HA.past (k := 34) rfl rfl (by kernel_rfl) (by kernel_rfl) (past_by rfl rfl c_15) rfl ?_
                    refine HA.val (k := 35) (v := .bool true) rfl rfl (by kernel_rfl) (by kernel_rfl) (want_none) rfl (fun _ c442 => q_pickK true rfl c_15 rfl) ?_
                    refine HA.val (k := 36) (v := .bool true) rfl rfl (by kernel_rfl) (by kernel_rfl) (want_none) rfl (fun _ c442 => q_move rfl) ?_
                    refine HA.past (k := 37) rfl rfl (by kernel_rfl) (by kernel_rfl) (past_some rfl rfl) rfl ?_
                    refine HA.past (k := 38) rfl rfl (by kernel_rfl) (by kernel_rfl) (past_some rfl rfl) rfl ?_
                    refine HA.past (k := 39) rfl rfl (by kernel_rfl) (by kernel_rfl) (past_some rfl rfl) rfl ?_
                    refine HA.val (k := 40) (v := .bool true) rfl rfl (by kernel_rfl) (by kernel_rfl) (want_none) rfl (fun _ c442 => q_pick rfl rfl) ?_
                    refine HA.nil ⟨(hS.box 9 rfl), (Go.Wk.at_nil _ _)⟩ (by kernel_rfl) (thenQ_normal (?_))
                    refine HW.condT rfl ?_
                    refine HW.seq ?_
                    refine HW.region ?_
                    refine HO.val (v := .bool false) (want_none) rfl (q_assign rfl) ?_
                    refine HO.nil (thenQ_normal (?_))
                    refine HW.ret (blockQ_ret (thenQ_ret (thenQ_ret (blockQ_ret (thenQ_ret (?_))))))
                    refine ⟨.inr rfl, .bool false, res1 rfl (rt rfl), ?_⟩
                    replace hS : St F_31 (fr) h_30 := hS.perm2 [] 10 rfl rfl
                    exact ⟨F_31, false, rfl, hK, hS, hL_acts, hM⟩
                  · replace hM := hM.2 (nd_false c_15)
                    refine HA.val (k := 32) (v := .int .i64 r0_1) rfl rfl (by kernel_rfl) (by kernel_rfl) (want_by rfl rfl c_15) rfl (fun _ c442 => q_move rfl) ?_
                    refine HA.val (k := 33) (v := .int .i64 r0_2) rfl rfl (by kernel_rfl) (by kernel_rfl) (want_by rfl rfl c_15) rfl (fun _ c442 => q_move rfl) ?_
                    refine HA.val (k := 34) (v := .bool (!decide (r0_1 = r0_2))) rfl rfl (by kernel_rfl) (by kernel_rfl) (want_by rfl rfl c_15) rfl (fun _ c442 => q_neq rfl rfl) ?_
                    refine HA.val (k := 35) (v := .bool (!decide (r0_1 = r0_2))) rfl rfl (by kernel_rfl) (by kernel_rfl) (want_none) rfl (fun _ c442 => q_pickK false rfl c_15 rfl) ?_
                    refine HA.val (k := 36) (v := .bool (!decide (r0_1 = r0_2))) rfl rfl (by kernel_rfl) (by kernel_rfl) (want_none) rfl (fun _ c442 => q_move rfl) ?_
                    rcases Bool.eq_false_or_eq_true (!decide (r0_1 = r0_2)) with c_16 | c_16
                    · replace hM := hM.1 (nd_true c_16)
                      refine HA.past (k := 37) rfl rfl (by kernel_rfl) (by kernel_rfl) (past_by rfl rfl c_16) rfl ?_
                      refine HA.past (k := 38) rfl rfl (by kernel_rfl) (by kernel_rfl) (past_by rfl rfl c_16) rfl ?_
                      refine HA.past (k := 39) rfl rfl (by kernel_rfl) (by kernel_rfl) (past_by rfl rfl c_16) rfl ?_
                      refine HA.val (k := 40) (v := .bool true) rfl rfl (by kernel_rfl) (by kernel_rfl) (want_none) rfl (fun _ c442 => q_pickK true rfl c_16 rfl) ?_
                      refine HA.nil ⟨(hS.box 9 rfl), (Go.Wk.at_nil _ _)⟩ (by kernel_rfl) (thenQ_normal (?_))
                      refine HW.condT rfl ?_
                      refine HW.seq ?_
                      refine HW.region ?_
                      refine HO.val (v := .bool false) (want_none) rfl (q_assign rfl) ?_
                      refine HO.nil (thenQ_normal (?_))
                      refine HW.ret (blockQ_ret (thenQ_ret (thenQ_ret (blockQ_ret (thenQ_ret (?_))))))
                      refine ⟨.inr rfl, .bool false, res1 rfl (rt rfl), ?_⟩
                      replace hS : St F_31 (fr) h_30 := hS.perm2 [] 10 rfl rfl
                      exact ⟨F_31, false, rfl, hK, hS, hL_acts, hM⟩
                    · replace hM := hM.2 (nd_false c_16)
                      refine HA.val (k := 37) (v := .bool r1_1) rfl rfl (by kernel_rfl) (by kernel_rfl) (want_by rfl rfl c_16) rfl (fun _ c442 => q_move rfl) ?_
                      refine HA.val (k := 38) (v := .bool r1_2) rfl rfl (by kernel_rfl) (by kernel_rfl) (want_by rfl rfl c_16) rfl (fun _ c442 => q_move rfl) ?_
                      refine HA.val (k := 39) (v := .bool (!(r1_1 == r1_2))) rfl rfl (by kernel_rfl) (by kernel_rfl) (want_by rfl rfl c_16) rfl (fun _ c442 => q_neqB Try.underlying4 rfl rfl) ?_
                      refine HA.val (k := 40) (v := .bool (!(r1_1 == r1_2))) rfl rfl (by kernel_rfl) (by kernel_rfl) (want_none) rfl (fun _ c442 => q_pickK false rfl c_16 rfl) ?_
                      refine HA.nil ⟨(hS.box 9 rfl), (Go.Wk.at_nil _ _)⟩ (by kernel_rfl) (thenQ_normal (?_))
                      refine HW.cond (!(r1_1 == r1_2)) rfl (fun c_17 => ?_) (fun c_17 => ?_)
                      · replace hM := hM.1 c_17
                        refine HW.seq ?_
                        refine HW.region ?_
                        refine HO.val (v := .bool false) (want_none) rfl (q_assign rfl) ?_
                        refine HO.nil (thenQ_normal (?_))
                        refine HW.ret (blockQ_ret (thenQ_ret (thenQ_ret (blockQ_ret (thenQ_ret (?_))))))
                        refine ⟨.inr rfl, .bool false, res1 rfl (rt rfl), ?_⟩
                        replace hS : St F_31 (fr) h_30 := hS.perm2 [] 10 rfl rfl
                        exact ⟨F_31, false, rfl, hK, hS, hL_acts, hM⟩
                      · replace hM := hM.2 c_17
                        refine HW.skip (blockQ_normal (thenQ_normal (?_)))
                        refine HW.region ?_
                        refine HO.val (v := .int .i64 i_1) (want_none) rfl (q_move rfl) ?_
                        obtain ⟨ho_3, hM⟩ := hM
                        refine HO.val (v := .int .i64 (i_1 + 1)) (want_none) rfl (q_addN _ rfl rfl rfl ho_3.1 ho_3.2) ?_
                        refine HO.val (v := .int .i64 (i_1 + 1)) (want_none) rfl (q_assign rfl) ?_
                        refine HO.nil (thenQ_normal (?_))
                        replace hS : St F_31 (Ow.box b_1 50 (e_api_Tune t).toArray :: Ow.box b_2 94 #[.int .i64 r_now_7, .pointer (some ⟨b_3, 0, none⟩), v_11] :: Ow.box b_3 106 #[.map (some r_4)] :: Ow.map r_4 kI kI rm_7 :: Ow.own 4 1 encB v_11 r_fixed_7 :: Ow.box b_4 59 #[.int .i64 r_Now_4, v_7] :: Ow.own 98 2 e_acequiaref23_One v_7 r_L_4 :: fr) h_30 := hS.perm2 [8, 2, 3, 4, 5, 0, 1] 10 rfl rfl
                        rw [hKe_1] at hM
                        exact ⟨(r_now_7, rm_7, r_fixed_7, r_Now_4, r_L_4, now_1 + a_1_1, i_1 + 1), ⟨F_31, v_11, v_7, rfl, rfl, rfl, rfl, rfl, rfl, rfl, hK, hS, hL_acts, hM.1⟩, hM.2⟩
        · replace hM := hM.2 c_4
          refine HW.exit (thenQ_exit (thenQ_exit (blockQ_exit (thenQ_normal (?_)))))
          refine HW.seq ?_
          refine HW.region ?_
          refine HO.call (want_none) rfl (ec en_27 rfl rfl) (law23_lives_walk (fr := (Ow.box b_1 50 (e_api_Tune t).toArray :: Ow.box b_2 94 #[.int .i64 r_0_1, .pointer (some ⟨b_3, 0, none⟩), vr_2_2] :: Ow.box b_3 106 #[.map (some r_4)] :: Ow.map r_4 kI kI r_1_0_1 :: Ow.own 4 1 encB vr_2_2 r_2_1 :: Ow.box b_4 59 #[.int .i64 x_0_1, vx_1_1] :: Ow.own 98 2 e_acequiaref23_One vx_1_1 x_1_1 :: fr))  hS hM) ?_
          rintro _ h_31 ⟨F_32, r_19, rfl, hk, hS, hM⟩
          replace hK := hK.trans hk
          replace hL_acts := hL_acts.kp hk
          refine HO.val (v := .bool r_19) (want_none) rfl (q_assign rfl) ?_
          refine HO.nil (thenQ_normal (?_))
          refine HW.ret (?_)
          refine ⟨.inr rfl, .bool r_19, res1 rfl (rt rfl), ?_⟩
          replace hS : St F_32 (fr) h_31 := hS.perm2 [] 7 rfl rfl
          exact ⟨F_32, r_19, rfl, hK, hS, hL_acts, hM⟩
end Go.Wk
