/- The walk of PlanTurned. -/
import Derived.Test.YtjliljlmgepmpaaPlnB2
set_option linter.unusedSimpArgs false
set_option linter.unusedVariables false
set_option linter.unusedSectionVars false
namespace Go.Wk
open Go.HL
open Go.Proofs hiding encI
variable [DM]
theorem en_11 (args : Array Value) (w : World) : (callFunc 11 args).run Try.prog w = .ok (.enter 11 args) w := by kernel_rfl
theorem ta_39 : TAgg Try.prog 39 4 := ⟨Try.isAgg39, Try.sizeOf39⟩
theorem en_17 (args : Array Value) (w : World) : (callFunc 17 args).run Try.prog w = .ok (.enter 17 args) w := by kernel_rfl
theorem en_18 (args : Array Value) (w : World) : (callFunc 18 args).run Try.prog w = .ok (.enter 18 args) w := by kernel_rfl
theorem en_21 (args : Array Value) (w : World) : (callFunc 21 args).run Try.prog w = .ok (.enter 21 args) w := by kernel_rfl
theorem en_22 (args : Array Value) (w : World) : (callFunc 22 args).run Try.prog w = .ok (.enter 22 args) w := by kernel_rfl
theorem ts_40 : TSlice Try.prog 40 5 1 := ⟨Try.underlying40, Try.sizeOf5⟩
def law33_PlanTurned_j1 (turns : List UInt8) (Q : Bool → Prop) (r0_1 : Int) (r1_1 : List Int) (r2_1 : List Int) (r3_1 : Int) (x_1 : List Int) (i_1 : Int) (K_1 : (List Int) → Int → Prop) (b_2 : Bool) : Prop :=
 (b_2 = true → ((0 : Int) ≤ i_1 ∧ i_1 < (turns.length : Int)) ∧ ((I64 ((gi turns i_1).toNat : Int)) ∧ (((x_1.length : Int) ≠ 0) ∧ (((0 : Int) ≤ ((gi turns i_1).toNat : Int).tmod (x_1.length : Int) ∧ ((gi turns i_1).toNat : Int).tmod (x_1.length : Int) < (x_1.length : Int)) ∧ (((0 : Int) ≤ i_1 ∧ i_1 < (x_1.length : Int)) ∧ (((0 : Int) ≤ ((gi turns i_1).toNat : Int).tmod (x_1.length : Int) ∧ ((gi turns i_1).toNat : Int).tmod (x_1.length : Int) < ((x_1.set (i_1).toNat (gi x_1 (((gi turns i_1).toNat : Int).tmod (x_1.length : Int)))).length : Int)) ∧ ((I64 (i_1 + 1)) ∧ (K_1 ((x_1.set (i_1).toNat (gi x_1 (((gi turns i_1).toNat : Int).tmod (x_1.length : Int)))).set (((gi turns i_1).toNat : Int).tmod (x_1.length : Int)).toNat (gi x_1 i_1)) (i_1 + 1))))))))) ∧ (b_2 = false → law33_copied_W r1_1 (fun r_3 => law33_copied_W x_1 (fun r_4 => plan_Make_W r0_1 r_3 r_4 r3_1 (fun r_0_1 r_1_1 => ref33_Make_W r0_1 r1_1 x_1 r3_1 (fun r_0_2 r_1_2 => ref32_Same_W r_0_1 r_1_1 r_0_2 r_1_2 (fun r_5 => (r_5 = true → law33_copied_W r1_1 (fun r_6 => law33_copied_W r2_1 (fun r_7 => plan_Valid_W r_0_1 r_1_1 r0_1 r_6 r_7 r3_1 (fun r_8 => (r_8 = true → law33_lives_W  (fun r_9 => Q r_9)) ∧ (r_8 = false → Q false))))) ∧ (r_5 = false → Q false)))))))
def law33_PlanTurned_l1 (turns : List UInt8) (Q : Bool → Prop) (r0_1 : Int) (r1_1 : List Int) (r2_1 : List Int) (r3_1 : Int) (K_1 : (List Int) → Int → Prop) (x_1 : List Int) (i_1 : Int) : Prop :=
 (i_1 < (turns.length : Int) → law33_PlanTurned_j1 turns Q r0_1 r1_1 r2_1 r3_1 x_1 i_1 K_1 (decide (i_1 < (x_1.length : Int)))) ∧ (¬ (i_1 < (turns.length : Int)) → law33_PlanTurned_j1 turns Q r0_1 r1_1 r2_1 r3_1 x_1 i_1 K_1 false)
def law33_PlanTurned_W (a_Root : Int) (a_Members : List Int) (a_Services : List Int) (a_Fan : Int) (turns : List UInt8) (Q : Bool → Prop) : Prop :=
 law33_Ask_Own_W a_Root a_Members a_Services a_Fan (fun r0_1 r1_1 r2_1 r3_1 => law33_copied_W r2_1 (fun r_2 => loopW (fun (K_1 : (List Int × Int) → Prop) (s : List Int × Int) => law33_PlanTurned_l1 turns Q r0_1 r1_1 r2_1 r3_1 (fun x_1 i_1 => K_1 (x_1, i_1)) s.1 s.2) (r_2, 0)))
set_option maxHeartbeats 40000000 in
set_option maxRecDepth 100000 in
theorem law33_PlanTurned_walk {F : Fz} {fr : List Ow} {h0 : Heap} (a_Root : Int) (a_Members : List Int) (a_Services : List Int) (a_Fan : Int) (turns : List UInt8) (va_Members : Value) (va_Services : Value) (vturns : Value) (hS : St F (fr) h0) (hL_a_Members : SliceF F h0 1 encI va_Members a_Members) (hL_a_Services : SliceF F h0 1 encI va_Services a_Services) (hL_turns : SliceF F h0 1 enc8 vturns turns) (hD : DM.on = false) {Q : Bool → Prop} (hM : law33_PlanTurned_W a_Root a_Members a_Services a_Fan turns Q) :
  HC Try.prog 5 #[.agg #[.int .i64 a_Root, va_Members, va_Services, .int .u8 a_Fan], vturns] h0 fun u h' => ∃ (F' : Fz) (r_1 : Bool), u = .bool r_1 ∧ Kp F h0 F' h' ∧ St F' (fr) h' ∧ (SliceF F' h' 1 encI va_Members a_Members) ∧ (SliceF F' h' 1 encI va_Services a_Services) ∧ (SliceF F' h' 1 enc8 vturns turns) ∧ Q r_1 := by
 unfold law33_PlanTurned_W at hM
 have hK := Kp.refl F h0
 refine HC.of_HW (n := 83) Try.func5 rfl rfl (Nat.le_of_ble_eq_true rfl) ?_
 refine HW.seq ?_
 refine HW.region ?_
 refine HO.eff (want_none) rfl (st_box (c := #[.int .i64 a_Root, va_Members, va_Services, .int .u8 a_Fan]) (k' := 4) hS rfl rfl) ?_
 rintro _ h_1 ⟨b_1, rfl, hS, hk⟩
 replace hK := hK.trans hk
 replace hL_a_Members := hL_a_Members.kp hk
 replace hL_a_Services := hL_a_Services.kp hk
 replace hL_turns := hL_turns.kp hk
 refine oA (.bool false) rfl rfl ?_
 refine HO.nil (thenQ_normal (?_))
 refine HW.seq ?_
 refine HW.region ?_
 refine oV (.agg #[.int .i64 a_Root, va_Members, va_Services, .int .u8 a_Fan]) (q_loadAgg (cs := [.int .i64 a_Root, va_Members, va_Services, .int .u8 a_Fan]) ta_39 rfl rfl (Blk.cells (k := 4) (hS.box 0 rfl) rfl)) rfl ?_
 refine HO.call (want_none) rfl (ec en_17 rfl rfl) (law33_Ask_Own_walk (fr := (Ow.box b_1 39 #[.int .i64 a_Root, va_Members, va_Services, .int .u8 a_Fan] :: fr)) a_Root a_Members a_Services a_Fan va_Members va_Services hS hL_a_Members hL_a_Services hM) ?_
 rintro _ h_2 ⟨F_1, r0_1, r1_1, r2_1, r3_1, vr1_1, vr2_1, rfl, hk, hS, _, _, hM⟩
 replace hK := hK.trans hk
 replace hL_a_Members := hL_a_Members.kp hk
 replace hL_a_Services := hL_a_Services.kp hk
 replace hL_turns := hL_turns.kp hk
 refine oM (.tuple #[.int .i64 r0_1, vr1_1, vr2_1, .int .i64 r3_1]) rfl rfl ?_
 refine oV (.int .i64 r0_1) (q_extract rfl rfl) rfl ?_
 refine oV (vr1_1) (q_extract rfl rfl) rfl ?_
 refine oV (vr2_1) (q_extract rfl rfl) rfl ?_
 refine oV (.int .i64 r3_1) (q_extract rfl rfl) rfl ?_
 refine oA (.int .i64 r0_1) rfl rfl ?_
 refine oA (vr1_1) rfl rfl ?_
 refine oA (vr2_1) rfl rfl ?_
 refine oA (.int .i64 r3_1) rfl rfl ?_
 refine HO.nil (thenQ_normal (?_))
 refine HW.seq ?_
 refine HW.region ?_
 refine oM (vr2_1) rfl rfl ?_
 replace hS : St F_1 (Ow.own 3 1 encI vr2_1 r2_1 :: Ow.own 3 1 encI vr1_1 r1_1 :: Ow.box b_1 39 #[.int .i64 a_Root, va_Members, va_Services, .int .u8 a_Fan] :: fr) h_2 := hS.perm2 [1, 0, 2] 3 rfl rfl
 have hZ_1 := hS
 have hkz_1 := (hS.freeze).2
 replace hS := hS.freeze.1
 have hL_1 : SliceF (fun bz_ => F_1 bz_ ∨ (Ow.own 3 1 encI vr2_1 r2_1).foot bz_) h_2 1 encI vr2_1 r2_1 := ⟨(hZ_1.own 0 rfl).slice, fun _ b hb => .inr hb⟩
 refine HO.call (want_none) rfl (ec en_18 rfl rfl) (law33_copied_walk (fr := (Ow.own 3 1 encI vr1_1 r1_1 :: Ow.box b_1 39 #[.int .i64 a_Root, va_Members, va_Services, .int .u8 a_Fan] :: fr)) r2_1 vr2_1 hS hL_1 hM) ?_
 rintro vr_1 h_3 ⟨F_2, r_2, _, rfl, hk, hS, _, hM⟩
 obtain ⟨hS, hk⟩ := hZ_1.back hk hS
 generalize (fun bz_ => F_2 bz_ ∧ ¬ (Ow.own 3 1 encI vr2_1 r2_1).foot bz_) = F_3 at hS hk
 replace hK := hK.trans hk
 replace hL_a_Members := hL_a_Members.kp hk
 replace hL_a_Services := hL_a_Services.kp hk
 replace hL_turns := hL_turns.kp hk
 refine oA (vr_1) rfl rfl ?_
 refine HO.nil (thenQ_normal (?_))
 refine HW.seq ?_
 refine HW.seq ?_
 refine HW.region ?_
 refine oA (.int .i64 0) rfl rfl ?_
 refine HO.nil (thenQ_normal (?_))
 refine HW.block ?_
 obtain ⟨I_1, m_1, hI_1, hR_1⟩ := hM
 replace hS : St F_3 (Ow.own 3 1 encI vr1_1 r1_1 :: Ow.own 3 1 encI vr2_1 r2_1 :: Ow.own 3 1 encI vr_1 r_2 :: fr) h_3 := hS.perm2 [2, 0, 1] 4 rfl rfl
 refine HW.loop (S := List Int × Int) (fun s f h => match s with | (x_1, i_1) => ∃ (F' : Fz), f 1 = vturns ∧ f 4 = .bool false ∧ f 5 = .int .i64 r0_1 ∧ f 6 = vr1_1 ∧ f 7 = vr2_1 ∧ f 8 = .int .i64 r3_1 ∧ f 9 = vr_1 ∧ f 10 = .int .i64 i_1 ∧ Kp F h0 F' h ∧ St F' (Ow.own 3 1 encI vr1_1 r1_1 :: Ow.own 3 1 encI vr2_1 r2_1 :: Ow.own 3 1 encI vr_1 x_1 :: fr) h ∧ (SliceF F' h 1 encI va_Members a_Members) ∧ (SliceF F' h 1 encI va_Services a_Services) ∧ (SliceF F' h 1 enc8 vturns turns) ∧ I_1 (x_1, i_1)) m_1 (r_2, 0) ⟨F_3, rfl, rfl, rfl, rfl, rfl, rfl, rfl, rfl, hK, hS, hL_a_Members, hL_a_Services, hL_turns, hI_1⟩ ?_
 rintro ⟨x_1, i_1⟩ f_1 h_4 ⟨F_4, e1, e4, e5, e6, e7, e8, e9, e10, hK, hS, hL_a_Members, hL_a_Services, hL_turns, hI0⟩
 obtain ⟨K_1, hKe_1⟩ : ∃ K : (List Int) → Int → Prop, K = fun x_1' i_1' => I_1 (x_1', i_1') ∧ m_1 (x_1', i_1') < m_1 (x_1, i_1) := ⟨_, rfl⟩
 have hM : law33_PlanTurned_l1 turns Q r0_1 r1_1 r2_1 r3_1 K_1 x_1 i_1 := by rw [hKe_1]; exact hR_1 (x_1, i_1) hI0
 unfold law33_PlanTurned_l1 at hM
 refine HW.fr [(1, vturns), (4, .bool false), (5, .int .i64 r0_1), (6, vr1_1), (7, vr2_1), (8, .int .i64 r3_1), (9, vr_1), (10, .int .i64 i_1)] ⟨e1, e4, e5, e6, e7, e8, e9, e10, trivial⟩ ?_
 refine HW.seq ?_
 refine HW.seq_mid (fun f h => ∃ (F' : Fz) (b_2 : Bool), f 1 = vturns ∧ f 4 = .bool false ∧ f 5 = .int .i64 r0_1 ∧ f 6 = vr1_1 ∧ f 7 = vr2_1 ∧ f 8 = .int .i64 r3_1 ∧ f 9 = vr_1 ∧ f 10 = .int .i64 i_1 ∧ f 31 = .bool b_2 ∧ Kp F h0 F' h ∧ St F' (Ow.own 3 1 encI vr1_1 r1_1 :: Ow.own 3 1 encI vr2_1 r2_1 :: Ow.own 3 1 encI vr_1 x_1 :: fr) h ∧ (SliceF F' h 1 encI va_Members a_Members) ∧ (SliceF F' h 1 encI va_Services a_Services) ∧ (SliceF F' h 1 enc8 vturns turns) ∧ law33_PlanTurned_j1 turns Q r0_1 r1_1 r2_1 r3_1 x_1 i_1 K_1 b_2) ?_ ?_
 ·
  refine HW.region ?_
  refine oM (.int .i64 i_1) rfl rfl ?_
  refine oM (vturns) rfl rfl ?_
  refine oV (.int .i64 (turns.length : Int)) (q_len ts_40 (shp hL_turns.is) rfl rfl) rfl ?_
  refine oV (.bool (decide (i_1 < (turns.length : Int)))) (q_lss rfl rfl) rfl ?_
  refine oM (.bool (decide (i_1 < (turns.length : Int)))) rfl rfl ?_
  rcases Bool.eq_false_or_eq_true (decide (i_1 < (turns.length : Int))) with c_1 | c_1
  ·
   replace hM := hM.1 (of_decide_eq_true c_1)
   refine HO.val (v := .int .i64 i_1) (want_by rfl rfl c_1) rfl (q_move rfl) ?_
   refine HO.val (v := vr_1) (want_by rfl rfl c_1) rfl (q_move rfl) ?_
   refine HO.val (v := .int .i64 (x_1.length : Int)) (want_by rfl rfl c_1) rfl (q_len ts_31 (shp (hS.own 2 rfl).slice) rfl rfl) ?_
   refine HO.val (v := .bool (decide (i_1 < (x_1.length : Int)))) (want_by rfl rfl c_1) rfl (q_lss rfl rfl) ?_
   refine oV (.bool (decide (i_1 < (x_1.length : Int)))) (q_pickK true rfl c_1 rfl) rfl ?_
   refine HO.nil (thenQ_normal (?_))
   exact ⟨F_4, decide (i_1 < (x_1.length : Int)), rfl, rfl, rfl, rfl, rfl, rfl, rfl, rfl, rfl, hK, hS, hL_a_Members, hL_a_Services, hL_turns, hM⟩
  ·
   replace hM := hM.2 (of_decide_eq_false c_1)
   refine HO.past (past_by rfl rfl c_1) rfl ?_
   refine HO.past (past_by rfl rfl c_1) rfl ?_
   refine HO.past (past_by rfl rfl c_1) rfl ?_
   refine HO.past (past_by rfl rfl c_1) rfl ?_
   refine oV (.bool false) (q_pickK false rfl c_1 rfl) rfl ?_
   refine HO.nil (thenQ_normal (?_))
   exact ⟨F_4, false, rfl, rfl, rfl, rfl, rfl, rfl, rfl, rfl, rfl, hK, hS, hL_a_Members, hL_a_Services, hL_turns, hM⟩
 ·
  rintro f_2 h_5 ⟨F_5, b_2, e1, e4, e5, e6, e7, e8, e9, e10, e31, hK, hS, hL_a_Members, hL_a_Services, hL_turns, hM⟩
  unfold law33_PlanTurned_j1 at hM
  refine HW.fr [(1, vturns), (4, .bool false), (5, .int .i64 r0_1), (6, vr1_1), (7, vr2_1), (8, .int .i64 r3_1), (9, vr_1), (10, .int .i64 i_1), (31, .bool b_2)] ⟨e1, e4, e5, e6, e7, e8, e9, e10, e31, trivial⟩ ?_
  refine HW.cond b_2 rfl (fun c_2 => ?_) (fun c_2 => ?_)
  ·
   replace hM := hM.1 c_2
   refine HW.skip (thenQ_normal (?_))
   refine HW.seq ?_
   refine HW.block ?_
   refine HW.seq ?_
   refine HW.region ?_
   refine oM (vturns) rfl rfl ?_
   refine oM (.int .i64 i_1) rfl rfl ?_
   obtain ⟨ho_1, hM⟩ := hM
   refine oV (elemPtr 1 vturns (i_1).toNat) (q_idx ts_40 hL_turns.is rfl rfl ho_1) rfl ?_
   refine oV (.int .u8 ((gi turns i_1).toNat : Int)) (q_ldElem to_5 hL_turns.is rfl ho_1 rfl) rfl ?_
   obtain ⟨ho_2, hM⟩ := hM
   refine oV (.int .i64 ((gi turns i_1).toNat : Int)) (q_convInt Try.underlying5 Try.underlying3 rfl (wrap_i64 ho_2.1 ho_2.2)) rfl ?_
   refine oM (vr_1) rfl rfl ?_
   refine oV (.int .i64 (x_1.length : Int)) (q_len ts_31 (shp (hS.own 2 rfl).slice) rfl rfl) rfl ?_
   obtain ⟨ho_3, hM⟩ := hM
   refine oV (.int .i64 (((gi turns i_1).toNat : Int).tmod (x_1.length : Int))) (q_rem rfl rfl ho_3) rfl ?_
   refine oA (.int .i64 (((gi turns i_1).toNat : Int).tmod (x_1.length : Int))) rfl rfl ?_
   refine HO.nil (thenQ_normal (?_))
   refine HW.regionA 16 mixed (fun h => True) [(13, fun h => (OwnIs h 0 3 1 encI vr_1 x_1))] (by kernel_rfl) ?_
   refine HA.val (k := 0) (v := vr_1) rfl rfl (by kernel_rfl) (by kernel_rfl) (want_none) rfl (fun _ _ => q_move rfl) ?_
   refine HA.val (k := 1) (v := .int .i64 i_1) rfl rfl (by kernel_rfl) (by kernel_rfl) (want_none) rfl (fun _ _ => q_move rfl) ?_
   refine HA.val (k := 2) (v := vr_1) rfl rfl (by kernel_rfl) (by kernel_rfl) (want_none) rfl (fun _ _ => q_move rfl) ?_
   refine HA.val (k := 3) (v := .int .i64 (((gi turns i_1).toNat : Int).tmod (x_1.length : Int))) rfl rfl (by kernel_rfl) (by kernel_rfl) (want_none) rfl (fun _ _ => q_move rfl) ?_
   refine HA.val (k := 4) (v := vr_1) rfl rfl (by kernel_rfl) (by kernel_rfl) (want_none) rfl (fun _ _ => q_move rfl) ?_
   refine HA.val (k := 5) (v := .int .i64 (((gi turns i_1).toNat : Int).tmod (x_1.length : Int))) rfl rfl (by kernel_rfl) (by kernel_rfl) (want_none) rfl (fun _ _ => q_move rfl) ?_
   obtain ⟨ho_4, hM⟩ := hM
   refine Go.Wk.HA.valN (k := 6) (v := elemPtr 1 vr_1 (((gi turns i_1).toNat : Int).tmod (x_1.length : Int)).toNat) 0 13 (fun h => (OwnIs h 0 3 1 encI vr_1 x_1)) rfl rfl (by kernel_rfl) (by kernel_rfl) (want_none) rfl rfl (by kernel_rfl) (fun _ _ c360 => q_idx ts_31 c360.slice rfl rfl ho_4) ?_
   refine Go.Wk.HA.valN (k := 7) (v := .int .i64 (gi x_1 (((gi turns i_1).toNat : Int).tmod (x_1.length : Int)))) 0 13 (fun h => (OwnIs h 0 3 1 encI vr_1 x_1)) rfl rfl (by kernel_rfl) (by kernel_rfl) (want_none) rfl rfl (by kernel_rfl) (fun _ _ c360 => q_ldElem to_3 c360.slice rfl ho_4 rfl) ?_
   refine HA.val (k := 8) (v := vr_1) rfl rfl (by kernel_rfl) (by kernel_rfl) (want_none) rfl (fun _ _ => q_move rfl) ?_
   refine HA.val (k := 9) (v := .int .i64 i_1) rfl rfl (by kernel_rfl) (by kernel_rfl) (want_none) rfl (fun _ _ => q_move rfl) ?_
   obtain ⟨ho_5, hM⟩ := hM
   refine Go.Wk.HA.valN (k := 10) (v := elemPtr 1 vr_1 (i_1).toNat) 0 13 (fun h => (OwnIs h 0 3 1 encI vr_1 x_1)) rfl rfl (by kernel_rfl) (by kernel_rfl) (want_none) rfl rfl (by kernel_rfl) (fun _ _ c360 => q_idx ts_31 c360.slice rfl rfl ho_5) ?_
   refine Go.Wk.HA.valN (k := 11) (v := .int .i64 (gi x_1 i_1)) 0 13 (fun h => (OwnIs h 0 3 1 encI vr_1 x_1)) rfl rfl (by kernel_rfl) (by kernel_rfl) (want_none) rfl rfl (by kernel_rfl) (fun _ _ c360 => q_ldElem to_3 c360.slice rfl ho_5 rfl) ?_
   refine Go.Wk.HA.valN (k := 12) (v := elemPtr 1 vr_1 (i_1).toNat) 0 13 (fun h => (OwnIs h 0 3 1 encI vr_1 x_1)) rfl rfl (by kernel_rfl) (by kernel_rfl) (want_none) rfl rfl (by kernel_rfl) (fun _ _ c360 => q_idx ts_31 c360.slice rfl rfl ho_5) ?_
   refine HA.one (k := 13) ⟨trivial, (at_now (hS.own 2 rfl) (Go.Wk.at_nil _ _))⟩ (by kernel_rfl) ?_
   refine HS.sto rfl (want_none) rfl (st_storeField (a := (gi x_1 (((gi turns i_1).toNat : Int).tmod (x_1.length : Int)))) (n := (i_1).toNat) (j := 0) hS (i := 2) rfl to_3 (elem_field _ _ _) (by omega) (by decide) rfl (by rw [← gi_lt ho_5.1 ho_5.2]; rfl) rfl rfl) ?_
   rintro h_6 ⟨hS, hk⟩
   replace hS : St F_5 (Ow.own 3 1 encI vr1_1 r1_1 :: Ow.own 3 1 encI vr2_1 r2_1 :: Ow.own 3 1 encI vr_1 (x_1.set (i_1).toNat (gi x_1 (((gi turns i_1).toNat : Int).tmod (x_1.length : Int)))) :: fr) h_6 := hS
   replace hK := hK.trans hk
   replace hL_a_Members := hL_a_Members.kp hk
   replace hL_a_Services := hL_a_Services.kp hk
   replace hL_turns := hL_turns.kp hk
   refine Go.Wk.HA.re (fun h => True) [(15, fun h => (OwnIs h 0 3 1 encI vr_1 (x_1.set (i_1).toNat (gi x_1 (((gi turns i_1).toNat : Int).tmod (x_1.length : Int))))))] (fun L_ h_ hL_ _ hs_ => ⟨trivial, (at_gone hL_ (by kernel_rfl) (Go.Wk.at_nil _ _))⟩) ?_
   obtain ⟨ho_6, hM⟩ := hM
   refine Go.Wk.HA.valN (k := 14) (v := elemPtr 1 vr_1 (((gi turns i_1).toNat : Int).tmod (x_1.length : Int)).toNat) 0 15 (fun h => (OwnIs h 0 3 1 encI vr_1 (x_1.set (i_1).toNat (gi x_1 (((gi turns i_1).toNat : Int).tmod (x_1.length : Int)))))) rfl rfl (by kernel_rfl) (by kernel_rfl) (want_none) rfl rfl (by kernel_rfl) (fun _ _ c360 => q_idx ts_31 c360.slice rfl rfl ho_6) ?_
   refine HA.one (k := 15) ⟨trivial, (at_now (hS.own 2 rfl) (Go.Wk.at_nil _ _))⟩ (by kernel_rfl) ?_
   refine HS.sto rfl (want_none) rfl (st_storeField (a := (gi x_1 i_1)) (n := (((gi turns i_1).toNat : Int).tmod (x_1.length : Int)).toNat) (j := 0) hS (i := 2) rfl to_3 (elem_field _ _ _) (by omega) (by decide) rfl (by rw [← gi_lt ho_6.1 ho_6.2]; rfl) rfl rfl) ?_
   rintro h_7 ⟨hS, hk⟩
   replace hS : St F_5 (Ow.own 3 1 encI vr1_1 r1_1 :: Ow.own 3 1 encI vr2_1 r2_1 :: Ow.own 3 1 encI vr_1 ((x_1.set (i_1).toNat (gi x_1 (((gi turns i_1).toNat : Int).tmod (x_1.length : Int)))).set (((gi turns i_1).toNat : Int).tmod (x_1.length : Int)).toNat (gi x_1 i_1)) :: fr) h_7 := hS
   replace hK := hK.trans hk
   replace hL_a_Members := hL_a_Members.kp hk
   replace hL_a_Services := hL_a_Services.kp hk
   replace hL_turns := hL_turns.kp hk
   refine HA.nil ⟨trivial, (at_done (by kernel_rfl) (Go.Wk.at_nil _ _))⟩ (by kernel_rfl) (blockQ_normal (thenQ_normal (?_)))
   refine HW.region ?_
   refine oM (.int .i64 i_1) rfl rfl ?_
   obtain ⟨ho_7, hM⟩ := hM
   refine oV (.int .i64 (i_1 + 1)) (q_addN _ rfl rfl rfl ho_7.1 ho_7.2) rfl ?_
   refine oA (.int .i64 (i_1 + 1)) rfl rfl ?_
   refine HO.nil (thenQ_normal (?_))
   rw [hKe_1] at hM
   exact ⟨((x_1.set (i_1).toNat (gi x_1 (((gi turns i_1).toNat : Int).tmod (x_1.length : Int)))).set (((gi turns i_1).toNat : Int).tmod (x_1.length : Int)).toNat (gi x_1 i_1), i_1 + 1), ⟨F_5, rfl, rfl, rfl, rfl, rfl, rfl, rfl, rfl, hK, hS, hL_a_Members, hL_a_Services, hL_turns, hM.1⟩, hM.2⟩
  ·
   replace hM := hM.2 c_2
   refine HW.exit (thenQ_exit (thenQ_exit (blockQ_exit (thenQ_normal (?_)))))
   refine HW.seq ?_
   refine HW.region ?_
   refine oM (.int .i64 r0_1) rfl rfl ?_
   refine oM (vr1_1) rfl rfl ?_
   have hZ_2 := hS
   have hkz_2 := (hS.freeze).2
   replace hS := hS.freeze.1
   have hL_2 : SliceF (fun bz_ => F_5 bz_ ∨ (Ow.own 3 1 encI vr1_1 r1_1).foot bz_) h_5 1 encI vr1_1 r1_1 := ⟨(hZ_2.own 0 rfl).slice, fun _ b hb => .inr hb⟩
   refine HO.call (want_none) rfl (ec en_18 rfl rfl) (law33_copied_walk (fr := (Ow.own 3 1 encI vr2_1 r2_1 :: Ow.own 3 1 encI vr_1 x_1 :: fr)) r1_1 vr1_1 hS hL_2 hM) ?_
   rintro vr_2 h_8 ⟨F_6, r_3, _, rfl, hk, hS, _, hM⟩
   obtain ⟨hS, hk⟩ := hZ_2.back hk hS
   generalize (fun bz_ => F_6 bz_ ∧ ¬ (Ow.own 3 1 encI vr1_1 r1_1).foot bz_) = F_7 at hS hk
   replace hK := hK.trans hk
   replace hL_a_Members := hL_a_Members.kp hk
   replace hL_a_Services := hL_a_Services.kp hk
   replace hL_turns := hL_turns.kp hk
   refine oM (vr_1) rfl rfl ?_
   replace hS : St F_7 (Ow.own 3 1 encI vr_1 x_1 :: Ow.own 3 1 encI vr1_1 r1_1 :: Ow.own 3 1 encI vr_2 r_3 :: Ow.own 3 1 encI vr2_1 r2_1 :: fr) h_8 := hS.perm2 [3, 0, 1, 2] 4 rfl rfl
   have hZ_3 := hS
   have hkz_3 := (hS.freeze).2
   replace hS := hS.freeze.1
   have hL_3 : SliceF (fun bz_ => F_7 bz_ ∨ (Ow.own 3 1 encI vr_1 x_1).foot bz_) h_8 1 encI vr_1 x_1 := ⟨(hZ_3.own 0 rfl).slice, fun _ b hb => .inr hb⟩
   refine HO.call (want_none) rfl (ec en_18 rfl rfl) (law33_copied_walk (fr := (Ow.own 3 1 encI vr1_1 r1_1 :: Ow.own 3 1 encI vr_2 r_3 :: Ow.own 3 1 encI vr2_1 r2_1 :: fr)) x_1 vr_1 hS hL_3 hM) ?_
   rintro vr_3 h_9 ⟨F_8, r_4, _, rfl, hk, hS, _, hM⟩
   obtain ⟨hS, hk⟩ := hZ_3.back hk hS
   generalize (fun bz_ => F_8 bz_ ∧ ¬ (Ow.own 3 1 encI vr_1 x_1).foot bz_) = F_9 at hS hk
   replace hK := hK.trans hk
   replace hL_a_Members := hL_a_Members.kp hk
   replace hL_a_Services := hL_a_Services.kp hk
   replace hL_turns := hL_turns.kp hk
   refine oM (.int .i64 r3_1) rfl rfl ?_
   replace hS : St F_9 (Ow.own 3 1 encI vr_2 r_3 :: Ow.own 3 1 encI vr_1 x_1 :: Ow.own 3 1 encI vr_3 r_4 :: Ow.own 3 1 encI vr1_1 r1_1 :: Ow.own 3 1 encI vr2_1 r2_1 :: fr) h_9 := hS.perm2 [3, 0, 1, 2, 4] 5 rfl rfl
   have hZ_4 := hS
   have hkz_4 := (hS.freeze).2
   replace hS := hS.freeze.1
   have hL_4 : SliceF (fun bz_ => F_9 bz_ ∨ (Ow.own 3 1 encI vr_2 r_3).foot bz_) h_9 1 encI vr_2 r_3 := ⟨(hZ_4.own 0 rfl).slice, fun _ b hb => .inr hb⟩
   replace hS : St (fun bz_ => F_9 bz_ ∨ (Ow.own 3 1 encI vr_2 r_3).foot bz_) (Ow.own 3 1 encI vr_3 r_4 :: Ow.own 3 1 encI vr_1 x_1 :: Ow.own 3 1 encI vr1_1 r1_1 :: Ow.own 3 1 encI vr2_1 r2_1 :: fr) h_9 := hS.perm2 [1, 0, 2, 3] 4 rfl rfl
   have hZ_5 := hS
   have hkz_5 := (hS.freeze).2
   replace hS := hS.freeze.1
   have hL_5 : SliceF (fun bz_ => (fun bz_ => F_9 bz_ ∨ (Ow.own 3 1 encI vr_2 r_3).foot bz_) bz_ ∨ (Ow.own 3 1 encI vr_3 r_4).foot bz_) h_9 1 encI vr_3 r_4 := ⟨(hZ_5.own 0 rfl).slice, fun _ b hb => .inr hb⟩
   refine HO.call (want_none) rfl (ec en_19 rfl rfl) (plan_Make_walk (fr := (Ow.own 3 1 encI vr_1 x_1 :: Ow.own 3 1 encI vr1_1 r1_1 :: Ow.own 3 1 encI vr2_1 r2_1 :: fr)) r0_1 r_3 r_4 r3_1 vr_2 vr_3 hS (hL_4.kp hkz_5) hL_5 hD hM) ?_
   rintro _ h_10 ⟨F_10, r_0_1, r_1_1, vr_1_1, rfl, hk, hS, _, _, hM⟩
   obtain ⟨hS, hk⟩ := hZ_5.back hk hS
   obtain ⟨hS, hk⟩ := hZ_4.back hk hS
   generalize (fun bz_ => (fun bz_ => F_10 bz_ ∧ ¬ (Ow.own 3 1 encI vr_3 r_4).foot bz_) bz_ ∧ ¬ (Ow.own 3 1 encI vr_2 r_3).foot bz_) = F_11 at hS hk
   replace hK := hK.trans hk
   replace hL_a_Members := hL_a_Members.kp hk
   replace hL_a_Services := hL_a_Services.kp hk
   replace hL_turns := hL_turns.kp hk
   refine HO.eff (want_none) rfl (st_alloc (c := #[.int .i64 0, .slice none 0 0]) hS tz_46 rfl) ?_
   rintro _ h_11 ⟨b_3, rfl, hS, hk⟩
   replace hK := hK.trans hk
   replace hL_a_Members := hL_a_Members.kp hk
   replace hL_a_Services := hL_a_Services.kp hk
   replace hL_turns := hL_turns.kp hk
   refine HO.sto (want_none) rfl (st_storeAgg (c' := #[.int .i64 r_0_1, vr_1_1]) hS (i := 0) rfl ta_46 rfl rfl rfl (List.forall_mem_cons.2 ⟨rfl, (List.forall_mem_cons.2 ⟨(shp (hS.own 3 rfl).slice).one, (fun _ h => by cases h)⟩)⟩) (Nat.le_of_ble_eq_true rfl) rfl) ?_
   rintro h_12 ⟨hS, hk⟩
   replace hS : St F_11 (Ow.box b_3 46 #[.int .i64 r_0_1, vr_1_1] :: Ow.own 3 1 encI vr_2 r_3 :: Ow.own 3 1 encI vr_3 r_4 :: Ow.own 67 2 e_api_Branch vr_1_1 r_1_1 :: Ow.own 3 1 encI vr_1 x_1 :: Ow.own 3 1 encI vr1_1 r1_1 :: Ow.own 3 1 encI vr2_1 r2_1 :: fr) h_12 := hS
   replace hK := hK.trans hk
   replace hL_a_Members := hL_a_Members.kp hk
   replace hL_a_Services := hL_a_Services.kp hk
   replace hL_turns := hL_turns.kp hk
   refine HO.nil (thenQ_normal (?_))
   refine HW.seq ?_
   refine HW.regionA 21 mixed (fun h => (Blk h b_3 (.cells #[.int .i64 r_0_1, vr_1_1] 46 (0, 0)))) [] (by kernel_rfl) ?_
   refine HA.val (k := 0) (v := .agg #[.int .i64 r_0_1, vr_1_1]) rfl rfl (by kernel_rfl) (by kernel_rfl) (want_none) rfl (fun _ c364 => q_loadAgg (cs := [.int .i64 r_0_1, vr_1_1]) ta_46 rfl rfl (Blk.cells (k := 2) c364 rfl)) ?_
   refine HA.val (k := 1) (v := .int .i64 r0_1) rfl rfl (by kernel_rfl) (by kernel_rfl) (want_none) rfl (fun _ c364 => q_move rfl) ?_
   refine HA.val (k := 2) (v := vr1_1) rfl rfl (by kernel_rfl) (by kernel_rfl) (want_none) rfl (fun _ c364 => q_move rfl) ?_
   refine HA.val (k := 3) (v := vr_1) rfl rfl (by kernel_rfl) (by kernel_rfl) (want_none) rfl (fun _ c364 => q_move rfl) ?_
   refine HA.val (k := 4) (v := .int .i64 r3_1) rfl rfl (by kernel_rfl) (by kernel_rfl) (want_none) rfl (fun _ c364 => q_move rfl) ?_
   refine HA.one (k := 5) ⟨(hS.box 0 rfl), (Go.Wk.at_nil _ _)⟩ (by kernel_rfl) ?_
   replace hS : St F_11 (Ow.own 3 1 encI vr1_1 r1_1 :: Ow.box b_3 46 #[.int .i64 r_0_1, vr_1_1] :: Ow.own 3 1 encI vr_2 r_3 :: Ow.own 3 1 encI vr_3 r_4 :: Ow.own 67 2 e_api_Branch vr_1_1 r_1_1 :: Ow.own 3 1 encI vr_1 x_1 :: Ow.own 3 1 encI vr2_1 r2_1 :: fr) h_12 := hS.perm2 [5, 0, 1, 2, 3, 4, 6] 7 rfl rfl
   have hZ_6 := hS
   have hkz_6 := (hS.freeze).2
   replace hS := hS.freeze.1
   have hL_6 : SliceF (fun bz_ => F_11 bz_ ∨ (Ow.own 3 1 encI vr1_1 r1_1).foot bz_) h_12 1 encI vr1_1 r1_1 := ⟨(hZ_6.own 0 rfl).slice, fun _ b hb => .inr hb⟩
   replace hS : St (fun bz_ => F_11 bz_ ∨ (Ow.own 3 1 encI vr1_1 r1_1).foot bz_) (Ow.own 3 1 encI vr_1 x_1 :: Ow.box b_3 46 #[.int .i64 r_0_1, vr_1_1] :: Ow.own 3 1 encI vr_2 r_3 :: Ow.own 3 1 encI vr_3 r_4 :: Ow.own 67 2 e_api_Branch vr_1_1 r_1_1 :: Ow.own 3 1 encI vr2_1 r2_1 :: fr) h_12 := hS.perm2 [4, 0, 1, 2, 3, 5] 6 rfl rfl
   have hZ_7 := hS
   have hkz_7 := (hS.freeze).2
   replace hS := hS.freeze.1
   have hL_7 : SliceF (fun bz_ => (fun bz_ => F_11 bz_ ∨ (Ow.own 3 1 encI vr1_1 r1_1).foot bz_) bz_ ∨ (Ow.own 3 1 encI vr_1 x_1).foot bz_) h_12 1 encI vr_1 x_1 := ⟨(hZ_7.own 0 rfl).slice, fun _ b hb => .inr hb⟩
   refine HS.call rfl (want_none) rfl (ec en_21 rfl rfl) (ref33_Make_walk (fr := (Ow.box b_3 46 #[.int .i64 r_0_1, vr_1_1] :: Ow.own 3 1 encI vr_2 r_3 :: Ow.own 3 1 encI vr_3 r_4 :: Ow.own 67 2 e_api_Branch vr_1_1 r_1_1 :: Ow.own 3 1 encI vr2_1 r2_1 :: fr)) r0_1 r1_1 x_1 r3_1 vr1_1 vr_1 hS (hL_6.kp hkz_7) hL_7 hM) ?_
   rintro _ h_13 ⟨F_12, r_0_2, r_1_2, vr_1_2, rfl, hk, hS, _, _, hM⟩
   obtain ⟨hS, hk⟩ := hZ_7.back hk hS
   obtain ⟨hS, hk⟩ := hZ_6.back hk hS
   generalize (fun bz_ => (fun bz_ => F_12 bz_ ∧ ¬ (Ow.own 3 1 encI vr_1 x_1).foot bz_) bz_ ∧ ¬ (Ow.own 3 1 encI vr1_1 r1_1).foot bz_) = F_13 at hS hk
   replace hK := hK.trans hk
   replace hL_a_Members := hL_a_Members.kp hk
   replace hL_a_Services := hL_a_Services.kp hk
   replace hL_turns := hL_turns.kp hk
   refine HA.one (k := 6) ⟨(hS.box 3 rfl), (Go.Wk.at_nil _ _)⟩ (by kernel_rfl) ?_
   replace hS : St F_13 (Ow.own 67 2 e_api_Branch vr_1_1 r_1_1 :: Ow.own 3 1 encI vr1_1 r1_1 :: Ow.own 3 1 encI vr_1 x_1 :: Ow.own 67 2 e_api_Branch vr_1_2 r_1_2 :: Ow.box b_3 46 #[.int .i64 r_0_1, vr_1_1] :: Ow.own 3 1 encI vr_2 r_3 :: Ow.own 3 1 encI vr_3 r_4 :: Ow.own 3 1 encI vr2_1 r2_1 :: fr) h_13 := hS.perm2 [6, 0, 1, 2, 3, 4, 5, 7] 8 rfl rfl
   have hZ_8 := hS
   have hkz_8 := (hS.freeze).2
   replace hS := hS.freeze.1
   have hL_8 : SliceF (fun bz_ => F_13 bz_ ∨ (Ow.own 67 2 e_api_Branch vr_1_1 r_1_1).foot bz_) h_13 2 e_api_Branch vr_1_1 r_1_1 := ⟨(hZ_8.own 0 rfl).slice, fun _ b hb => .inr hb⟩
   replace hS : St (fun bz_ => F_13 bz_ ∨ (Ow.own 67 2 e_api_Branch vr_1_1 r_1_1).foot bz_) (Ow.own 67 2 e_api_Branch vr_1_2 r_1_2 :: Ow.own 3 1 encI vr1_1 r1_1 :: Ow.own 3 1 encI vr_1 x_1 :: Ow.box b_3 46 #[.int .i64 r_0_1, vr_1_1] :: Ow.own 3 1 encI vr_2 r_3 :: Ow.own 3 1 encI vr_3 r_4 :: Ow.own 3 1 encI vr2_1 r2_1 :: fr) h_13 := hS.perm2 [2, 0, 1, 3, 4, 5, 6] 7 rfl rfl
   have hZ_9 := hS
   have hkz_9 := (hS.freeze).2
   replace hS := hS.freeze.1
   have hL_9 : SliceF (fun bz_ => (fun bz_ => F_13 bz_ ∨ (Ow.own 67 2 e_api_Branch vr_1_1 r_1_1).foot bz_) bz_ ∨ (Ow.own 67 2 e_api_Branch vr_1_2 r_1_2).foot bz_) h_13 2 e_api_Branch vr_1_2 r_1_2 := ⟨(hZ_9.own 0 rfl).slice, fun _ b hb => .inr hb⟩
   refine HS.call rfl (want_none) rfl (ec en_20 rfl rfl) (ref32_Same_walk (fr := (Ow.own 3 1 encI vr1_1 r1_1 :: Ow.own 3 1 encI vr_1 x_1 :: Ow.box b_3 46 #[.int .i64 r_0_1, vr_1_1] :: Ow.own 3 1 encI vr_2 r_3 :: Ow.own 3 1 encI vr_3 r_4 :: Ow.own 3 1 encI vr2_1 r2_1 :: fr)) r_0_1 r_1_1 r_0_2 r_1_2 vr_1_1 vr_1_2 hS (hL_8.kp hkz_9) hL_9 hM) ?_
   rintro _ h_14 ⟨F_14, r_5, rfl, hk, hS, _, _, hM⟩
   obtain ⟨hS, hk⟩ := hZ_9.back hk hS
   obtain ⟨hS, hk⟩ := hZ_8.back hk hS
   generalize (fun bz_ => (fun bz_ => F_14 bz_ ∧ ¬ (Ow.own 67 2 e_api_Branch vr_1_2 r_1_2).foot bz_) bz_ ∧ ¬ (Ow.own 67 2 e_api_Branch vr_1_1 r_1_1).foot bz_) = F_15 at hS hk
   replace hK := hK.trans hk
   replace hL_a_Members := hL_a_Members.kp hk
   replace hL_a_Services := hL_a_Services.kp hk
   replace hL_turns := hL_turns.kp hk
   refine HA.val (k := 7) (v := .bool r_5) rfl rfl (by kernel_rfl) (by kernel_rfl) (want_none) rfl (fun _ c364 => q_move rfl) ?_
   rcases Bool.eq_false_or_eq_true r_5 with c_3 | c_3
   ·
    replace hM := hM.1 c_3
    refine HA.val (k := 8) (v := .agg #[.int .i64 r_0_1, vr_1_1]) rfl rfl (by kernel_rfl) (by kernel_rfl) (want_by rfl rfl c_3) rfl (fun _ c364 => q_loadAgg (cs := [.int .i64 r_0_1, vr_1_1]) ta_46 rfl rfl (Blk.cells (k := 2) c364 rfl)) ?_
    refine HA.val (k := 9) (v := .int .i64 r0_1) rfl rfl (by kernel_rfl) (by kernel_rfl) (want_by rfl rfl c_3) rfl (fun _ c364 => q_move rfl) ?_
    refine HA.val (k := 10) (v := vr1_1) rfl rfl (by kernel_rfl) (by kernel_rfl) (want_by rfl rfl c_3) rfl (fun _ c364 => q_move rfl) ?_
    refine HA.val (k := 12) (v := vr2_1) rfl rfl (by kernel_rfl) (by kernel_rfl) (want_by rfl rfl c_3) rfl (fun _ c364 => q_move rfl) ?_
    refine HA.val (k := 14) (v := .int .i64 r3_1) rfl rfl (by kernel_rfl) (by kernel_rfl) (want_by rfl rfl c_3) rfl (fun _ c364 => q_move rfl) ?_
    refine HA.one (k := 11) ⟨(hS.box 4 rfl), (Go.Wk.at_nil _ _)⟩ (by kernel_rfl) ?_
    replace hS : St F_15 (Ow.own 3 1 encI vr1_1 r1_1 :: Ow.own 67 2 e_api_Branch vr_1_1 r_1_1 :: Ow.own 67 2 e_api_Branch vr_1_2 r_1_2 :: Ow.own 3 1 encI vr_1 x_1 :: Ow.box b_3 46 #[.int .i64 r_0_1, vr_1_1] :: Ow.own 3 1 encI vr_2 r_3 :: Ow.own 3 1 encI vr_3 r_4 :: Ow.own 3 1 encI vr2_1 r2_1 :: fr) h_14 := hS.perm2 [2, 0, 1, 3, 4, 5, 6, 7] 8 rfl rfl
    have hZ_10 := hS
    have hkz_10 := (hS.freeze).2
    replace hS := hS.freeze.1
    have hL_10 : SliceF (fun bz_ => F_15 bz_ ∨ (Ow.own 3 1 encI vr1_1 r1_1).foot bz_) h_14 1 encI vr1_1 r1_1 := ⟨(hZ_10.own 0 rfl).slice, fun _ b hb => .inr hb⟩
    refine HS.call rfl (want_by rfl rfl c_3) rfl (ec en_18 rfl rfl) (law33_copied_walk (fr := (Ow.own 67 2 e_api_Branch vr_1_1 r_1_1 :: Ow.own 67 2 e_api_Branch vr_1_2 r_1_2 :: Ow.own 3 1 encI vr_1 x_1 :: Ow.box b_3 46 #[.int .i64 r_0_1, vr_1_1] :: Ow.own 3 1 encI vr_2 r_3 :: Ow.own 3 1 encI vr_3 r_4 :: Ow.own 3 1 encI vr2_1 r2_1 :: fr)) r1_1 vr1_1 hS hL_10 hM) ?_
    rintro vr_4 h_15 ⟨F_16, r_6, _, rfl, hk, hS, _, hM⟩
    obtain ⟨hS, hk⟩ := hZ_10.back hk hS
    generalize (fun bz_ => F_16 bz_ ∧ ¬ (Ow.own 3 1 encI vr1_1 r1_1).foot bz_) = F_17 at hS hk
    replace hK := hK.trans hk
    replace hL_a_Members := hL_a_Members.kp hk
    replace hL_a_Services := hL_a_Services.kp hk
    replace hL_turns := hL_turns.kp hk
    refine HA.one (k := 13) ⟨(hS.box 5 rfl), (Go.Wk.at_nil _ _)⟩ (by kernel_rfl) ?_
    replace hS : St F_17 (Ow.own 3 1 encI vr2_1 r2_1 :: Ow.own 3 1 encI vr1_1 r1_1 :: Ow.own 3 1 encI vr_4 r_6 :: Ow.own 67 2 e_api_Branch vr_1_1 r_1_1 :: Ow.own 67 2 e_api_Branch vr_1_2 r_1_2 :: Ow.own 3 1 encI vr_1 x_1 :: Ow.box b_3 46 #[.int .i64 r_0_1, vr_1_1] :: Ow.own 3 1 encI vr_2 r_3 :: Ow.own 3 1 encI vr_3 r_4 :: fr) h_15 := hS.perm2 [8, 0, 1, 2, 3, 4, 5, 6, 7] 9 rfl rfl
    have hZ_11 := hS
    have hkz_11 := (hS.freeze).2
    replace hS := hS.freeze.1
    have hL_11 : SliceF (fun bz_ => F_17 bz_ ∨ (Ow.own 3 1 encI vr2_1 r2_1).foot bz_) h_15 1 encI vr2_1 r2_1 := ⟨(hZ_11.own 0 rfl).slice, fun _ b hb => .inr hb⟩
    refine HS.call rfl (want_by rfl rfl c_3) rfl (ec en_18 rfl rfl) (law33_copied_walk (fr := (Ow.own 3 1 encI vr1_1 r1_1 :: Ow.own 3 1 encI vr_4 r_6 :: Ow.own 67 2 e_api_Branch vr_1_1 r_1_1 :: Ow.own 67 2 e_api_Branch vr_1_2 r_1_2 :: Ow.own 3 1 encI vr_1 x_1 :: Ow.box b_3 46 #[.int .i64 r_0_1, vr_1_1] :: Ow.own 3 1 encI vr_2 r_3 :: Ow.own 3 1 encI vr_3 r_4 :: fr)) r2_1 vr2_1 hS hL_11 hM) ?_
    rintro vr_5 h_16 ⟨F_18, r_7, _, rfl, hk, hS, _, hM⟩
    obtain ⟨hS, hk⟩ := hZ_11.back hk hS
    generalize (fun bz_ => F_18 bz_ ∧ ¬ (Ow.own 3 1 encI vr2_1 r2_1).foot bz_) = F_19 at hS hk
    replace hK := hK.trans hk
    replace hL_a_Members := hL_a_Members.kp hk
    replace hL_a_Services := hL_a_Services.kp hk
    replace hL_turns := hL_turns.kp hk
    refine HA.one (k := 15) ⟨(hS.box 7 rfl), (Go.Wk.at_nil _ _)⟩ (by kernel_rfl) ?_
    replace hS : St F_19 (Ow.own 67 2 e_api_Branch vr_1_1 r_1_1 :: Ow.own 3 1 encI vr2_1 r2_1 :: Ow.own 3 1 encI vr_5 r_7 :: Ow.own 3 1 encI vr1_1 r1_1 :: Ow.own 3 1 encI vr_4 r_6 :: Ow.own 67 2 e_api_Branch vr_1_2 r_1_2 :: Ow.own 3 1 encI vr_1 x_1 :: Ow.box b_3 46 #[.int .i64 r_0_1, vr_1_1] :: Ow.own 3 1 encI vr_2 r_3 :: Ow.own 3 1 encI vr_3 r_4 :: fr) h_16 := hS.perm2 [4, 0, 1, 2, 3, 5, 6, 7, 8, 9] 10 rfl rfl
    have hZ_12 := hS
    have hkz_12 := (hS.freeze).2
    replace hS := hS.freeze.1
    have hL_12 : SliceF (fun bz_ => F_19 bz_ ∨ (Ow.own 67 2 e_api_Branch vr_1_1 r_1_1).foot bz_) h_16 2 e_api_Branch vr_1_1 r_1_1 := ⟨(hZ_12.own 0 rfl).slice, fun _ b hb => .inr hb⟩
    replace hS : St (fun bz_ => F_19 bz_ ∨ (Ow.own 67 2 e_api_Branch vr_1_1 r_1_1).foot bz_) (Ow.own 3 1 encI vr_4 r_6 :: Ow.own 3 1 encI vr2_1 r2_1 :: Ow.own 3 1 encI vr_5 r_7 :: Ow.own 3 1 encI vr1_1 r1_1 :: Ow.own 67 2 e_api_Branch vr_1_2 r_1_2 :: Ow.own 3 1 encI vr_1 x_1 :: Ow.box b_3 46 #[.int .i64 r_0_1, vr_1_1] :: Ow.own 3 1 encI vr_2 r_3 :: Ow.own 3 1 encI vr_3 r_4 :: fr) h_16 := hS.perm2 [3, 0, 1, 2, 4, 5, 6, 7, 8] 9 rfl rfl
    have hZ_13 := hS
    have hkz_13 := (hS.freeze).2
    replace hS := hS.freeze.1
    have hL_13 : SliceF (fun bz_ => (fun bz_ => F_19 bz_ ∨ (Ow.own 67 2 e_api_Branch vr_1_1 r_1_1).foot bz_) bz_ ∨ (Ow.own 3 1 encI vr_4 r_6).foot bz_) h_16 1 encI vr_4 r_6 := ⟨(hZ_13.own 0 rfl).slice, fun _ b hb => .inr hb⟩
    replace hS : St (fun bz_ => (fun bz_ => F_19 bz_ ∨ (Ow.own 67 2 e_api_Branch vr_1_1 r_1_1).foot bz_) bz_ ∨ (Ow.own 3 1 encI vr_4 r_6).foot bz_) (Ow.own 3 1 encI vr_5 r_7 :: Ow.own 3 1 encI vr2_1 r2_1 :: Ow.own 3 1 encI vr1_1 r1_1 :: Ow.own 67 2 e_api_Branch vr_1_2 r_1_2 :: Ow.own 3 1 encI vr_1 x_1 :: Ow.box b_3 46 #[.int .i64 r_0_1, vr_1_1] :: Ow.own 3 1 encI vr_2 r_3 :: Ow.own 3 1 encI vr_3 r_4 :: fr) h_16 := hS.perm2 [1, 0, 2, 3, 4, 5, 6, 7] 8 rfl rfl
    have hZ_14 := hS
    have hkz_14 := (hS.freeze).2
    replace hS := hS.freeze.1
    have hL_14 : SliceF (fun bz_ => (fun bz_ => (fun bz_ => F_19 bz_ ∨ (Ow.own 67 2 e_api_Branch vr_1_1 r_1_1).foot bz_) bz_ ∨ (Ow.own 3 1 encI vr_4 r_6).foot bz_) bz_ ∨ (Ow.own 3 1 encI vr_5 r_7).foot bz_) h_16 1 encI vr_5 r_7 := ⟨(hZ_14.own 0 rfl).slice, fun _ b hb => .inr hb⟩
    refine HS.call rfl (want_by rfl rfl c_3) rfl (ec en_22 rfl rfl) (plan_Valid_walk (fr := (Ow.own 3 1 encI vr2_1 r2_1 :: Ow.own 3 1 encI vr1_1 r1_1 :: Ow.own 67 2 e_api_Branch vr_1_2 r_1_2 :: Ow.own 3 1 encI vr_1 x_1 :: Ow.box b_3 46 #[.int .i64 r_0_1, vr_1_1] :: Ow.own 3 1 encI vr_2 r_3 :: Ow.own 3 1 encI vr_3 r_4 :: fr)) r_0_1 r_1_1 r0_1 r_6 r_7 r3_1 vr_1_1 vr_4 vr_5 hS ((hL_12.kp hkz_13).kp hkz_14) (hL_13.kp hkz_14) hL_14 hM) ?_
    rintro _ h_17 ⟨F_20, r_8, rfl, hk, hS, _, _, _, hM⟩
    obtain ⟨hS, hk⟩ := hZ_14.back hk hS
    obtain ⟨hS, hk⟩ := hZ_13.back hk hS
    obtain ⟨hS, hk⟩ := hZ_12.back hk hS
    generalize (fun bz_ => (fun bz_ => (fun bz_ => F_20 bz_ ∧ ¬ (Ow.own 3 1 encI vr_5 r_7).foot bz_) bz_ ∧ ¬ (Ow.own 3 1 encI vr_4 r_6).foot bz_) bz_ ∧ ¬ (Ow.own 67 2 e_api_Branch vr_1_1 r_1_1).foot bz_) = F_21 at hS hk
    replace hK := hK.trans hk
    replace hL_a_Members := hL_a_Members.kp hk
    replace hL_a_Services := hL_a_Services.kp hk
    replace hL_turns := hL_turns.kp hk
    refine HA.val (k := 16) (v := .bool r_8) rfl rfl (by kernel_rfl) (by kernel_rfl) (want_none) rfl (fun _ c364 => q_pickK true rfl c_3 rfl) ?_
    refine HA.val (k := 17) (v := .bool r_8) rfl rfl (by kernel_rfl) (by kernel_rfl) (want_none) rfl (fun _ c364 => q_move rfl) ?_
    rcases Bool.eq_false_or_eq_true r_8 with c_4 | c_4
    ·
     replace hM := hM.1 c_4
     refine HA.one (k := 18) ⟨(hS.box 7 rfl), (Go.Wk.at_nil _ _)⟩ (by kernel_rfl) ?_
     refine HS.call rfl (want_by rfl rfl c_4) rfl (ec en_11 rfl rfl) (law33_lives_walk (fr := (Ow.own 67 2 e_api_Branch vr_1_1 r_1_1 :: Ow.own 3 1 encI vr_4 r_6 :: Ow.own 3 1 encI vr_5 r_7 :: Ow.own 3 1 encI vr2_1 r2_1 :: Ow.own 3 1 encI vr1_1 r1_1 :: Ow.own 67 2 e_api_Branch vr_1_2 r_1_2 :: Ow.own 3 1 encI vr_1 x_1 :: Ow.box b_3 46 #[.int .i64 r_0_1, vr_1_1] :: Ow.own 3 1 encI vr_2 r_3 :: Ow.own 3 1 encI vr_3 r_4 :: fr))  hS hD hM) ?_
     rintro _ h_18 ⟨F_22, r_9, rfl, hk, hS, hM⟩
     replace hK := hK.trans hk
     replace hL_a_Members := hL_a_Members.kp hk
     replace hL_a_Services := hL_a_Services.kp hk
     replace hL_turns := hL_turns.kp hk
     refine HA.val (k := 19) (v := .bool r_9) rfl rfl (by kernel_rfl) (by kernel_rfl) (want_none) rfl (fun _ c364 => q_pickK true rfl c_4 rfl) ?_
     refine HA.val (k := 20) (v := .bool r_9) rfl rfl (by kernel_rfl) (by kernel_rfl) (want_none) rfl (fun _ c364 => q_assign rfl) ?_
     refine HA.nil ⟨(hS.box 7 rfl), (Go.Wk.at_nil _ _)⟩ (by kernel_rfl) (thenQ_normal (?_))
     refine HW.ret (?_)
     refine ⟨.inr rfl, .bool r_9, res1 rfl (rt rfl), ?_⟩
     replace hS : St F_22 (fr) h_18 := hS.perm2 [] 10 rfl rfl
     exact ⟨F_22, r_9, rfl, hK, hS, hL_a_Members, hL_a_Services, hL_turns, hM⟩
    ·
     replace hM := hM.2 c_4
     refine HA.one (k := 18) ⟨(hS.box 7 rfl), (Go.Wk.at_nil _ _)⟩ (by kernel_rfl) ?_
     refine HS.past rfl (past_by rfl rfl c_4) rfl ?_
     refine HA.val (k := 19) (v := .bool false) rfl rfl (by kernel_rfl) (by kernel_rfl) (want_none) rfl (fun _ c364 => q_pickK false rfl c_4 rfl) ?_
     refine HA.val (k := 20) (v := .bool false) rfl rfl (by kernel_rfl) (by kernel_rfl) (want_none) rfl (fun _ c364 => q_assign rfl) ?_
     refine HA.nil ⟨(hS.box 7 rfl), (Go.Wk.at_nil _ _)⟩ (by kernel_rfl) (thenQ_normal (?_))
     refine HW.ret (?_)
     refine ⟨.inr rfl, .bool false, res1 rfl (rt rfl), ?_⟩
     replace hS : St F_21 (fr) h_17 := hS.perm2 [] 10 rfl rfl
     exact ⟨F_21, false, rfl, hK, hS, hL_a_Members, hL_a_Services, hL_turns, hM⟩
   ·
    replace hM := hM.2 c_3
    refine HA.past (k := 8) rfl rfl (by kernel_rfl) (by kernel_rfl) (past_by rfl rfl c_3) rfl ?_
    refine HA.past (k := 9) rfl rfl (by kernel_rfl) (by kernel_rfl) (past_by rfl rfl c_3) rfl ?_
    refine HA.past (k := 10) rfl rfl (by kernel_rfl) (by kernel_rfl) (past_by rfl rfl c_3) rfl ?_
    refine HA.past (k := 12) rfl rfl (by kernel_rfl) (by kernel_rfl) (past_by rfl rfl c_3) rfl ?_
    refine HA.past (k := 14) rfl rfl (by kernel_rfl) (by kernel_rfl) (past_by rfl rfl c_3) rfl ?_
    refine HA.one (k := 11) ⟨(hS.box 4 rfl), (Go.Wk.at_nil _ _)⟩ (by kernel_rfl) ?_
    refine HS.past rfl (past_by rfl rfl c_3) rfl ?_
    refine HA.one (k := 13) ⟨(hS.box 4 rfl), (Go.Wk.at_nil _ _)⟩ (by kernel_rfl) ?_
    refine HS.past rfl (past_by rfl rfl c_3) rfl ?_
    refine HA.one (k := 15) ⟨(hS.box 4 rfl), (Go.Wk.at_nil _ _)⟩ (by kernel_rfl) ?_
    refine HS.past rfl (past_by rfl rfl c_3) rfl ?_
    refine HA.val (k := 16) (v := .bool false) rfl rfl (by kernel_rfl) (by kernel_rfl) (want_none) rfl (fun _ c364 => q_pickK false rfl c_3 rfl) ?_
    refine HA.val (k := 17) (v := .bool false) rfl rfl (by kernel_rfl) (by kernel_rfl) (want_none) rfl (fun _ c364 => q_move rfl) ?_
    refine HA.one (k := 18) ⟨(hS.box 4 rfl), (Go.Wk.at_nil _ _)⟩ (by kernel_rfl) ?_
    refine HS.past rfl (past_some rfl rfl) rfl ?_
    refine HA.val (k := 19) (v := .bool false) rfl rfl (by kernel_rfl) (by kernel_rfl) (want_none) rfl (fun _ c364 => q_pick rfl rfl) ?_
    refine HA.val (k := 20) (v := .bool false) rfl rfl (by kernel_rfl) (by kernel_rfl) (want_none) rfl (fun _ c364 => q_assign rfl) ?_
    refine HA.nil ⟨(hS.box 4 rfl), (Go.Wk.at_nil _ _)⟩ (by kernel_rfl) (thenQ_normal (?_))
    refine HW.ret (?_)
    refine ⟨.inr rfl, .bool false, res1 rfl (rt rfl), ?_⟩
    replace hS : St F_15 (fr) h_14 := hS.perm2 [] 8 rfl rfl
    exact ⟨F_15, false, rfl, hK, hS, hL_a_Members, hL_a_Services, hL_turns, hM⟩
end Go.Wk
