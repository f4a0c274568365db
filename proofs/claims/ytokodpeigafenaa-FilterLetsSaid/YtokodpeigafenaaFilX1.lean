/- The walk of FilterLets. -/
import Derived.Test.YtokodpeigafenaaFilW2
set_option linter.unusedSimpArgs false
set_option linter.unusedVariables false
set_option linter.unusedSectionVars false
namespace Go.Wk
open Go.HL
open Go.Proofs hiding encI
variable [DM]
theorem en_7 (args : Array Value) (w : World) : (callFunc 7 args).run Try.prog w = .ok (.enter 7 args) w := by kernel_rfl
theorem en_19 (args : Array Value) (w : World) : (callFunc 19 args).run Try.prog w = .ok (.enter 19 args) w := by kernel_rfl
theorem en_20 (args : Array Value) (w : World) : (callFunc 20 args).run Try.prog w = .ok (.enter 20 args) w := by kernel_rfl
theorem en_22 (args : Array Value) (w : World) : (callFunc 22 args).run Try.prog w = .ok (.enter 22 args) w := by kernel_rfl
theorem en_21 (args : Array Value) (w : World) : (callFunc 21 args).run Try.prog w = .ok (.enter 21 args) w := by kernel_rfl
theorem en_23 (args : Array Value) (w : World) : (callFunc 23 args).run Try.prog w = .ok (.enter 23 args) w := by kernel_rfl
theorem en_18 (args : Array Value) (w : World) : (callFunc 18 args).run Try.prog w = .ok (.enter 18 args) w := by kernel_rfl
theorem en_24 (args : Array Value) (w : World) : (callFunc 24 args).run Try.prog w = .ok (.enter 24 args) w := by kernel_rfl
theorem en_14 (args : Array Value) (w : World) : (callFunc 14 args).run Try.prog w = .ok (.enter 14 args) w := by kernel_rfl
theorem en_25 (args : Array Value) (w : World) : (callFunc 25 args).run Try.prog w = .ok (.enter 25 args) w := by kernel_rfl
theorem en_15 (args : Array Value) (w : World) : (callFunc 15 args).run Try.prog w = .ok (.enter 15 args) w := by kernel_rfl
def law15_FilterLets_j2 (a : T_api_Addr) (Q : Bool → Prop) (r_0_1 : Bool) (r_1_1 : List T_api_Addr) (l_1 : List T_api_Addr) (b_96 : Bool) : Prop :=
  (b_96 = true → Q false) ∧ (b_96 = false → filter_Lets_W r_0_1 r_1_1 l_1 a (fun r_12 => ref15_Lets_W r_0_1 r_1_1 l_1 a (fun r_13 => ((r_12 == r_13) = true → filter_Gone_W r_0_1 r_1_1 l_1 (fun r_14 => ref15_Gone_W r_0_1 r_1_1 l_1 (fun r_15 => ((r_14 == r_15) = true → filter_Gone_W r_0_1 r_1_1 l_1 (fun r_16 => ((!r_16) = true → law15_lives_W  (fun r_17 => Q r_17)) ∧ ((!r_16) = false → filter_Lets_W r_0_1 r_1_1 l_1 a (fun r_18 => ((!r_18) = true → law15_lives_W  (fun r_19 => Q r_19)) ∧ ((!r_18) = false → Q false))))) ∧ ((r_14 == r_15) = false → Q false)))) ∧ ((r_12 == r_13) = false → Q false))))
def law15_FilterLets_j1 (a : T_api_Addr) (Q : Bool → Prop) (r_0_1 : Bool) (r_1_1 : List T_api_Addr) (r_2 : List T_api_Addr) (l_1 : List T_api_Addr) (e_0_1 : Bool) (e_1_1 : List T_api_Addr) (e_2_1 : List T_api_Addr) (t_0_1 : Bool) (t_1_1 : List T_api_Addr) (t_2_1 : List T_api_Addr) : Prop :=
  ref15_Expire_W r_0_1 r_1_1 l_1 r_2 (fun r_0_22 r_1_22 r_2_22 => ref15_Same_W e_0_1 e_1_1 e_2_1 r_0_22 r_1_22 r_2_22 (fun r_8 => ((!r_8) = true → law15_FilterLets_j2 a Q r_0_1 r_1_1 l_1 true) ∧ ((!r_8) = false → ref15_Turn_W r_0_1 r_1_1 l_1 (fun r_0_23 r_1_23 r_2_23 => ref15_Same_W t_0_1 t_1_1 t_2_1 r_0_23 r_1_23 r_2_23 (fun r_9 => ((!r_9) = true → law15_FilterLets_j2 a Q r_0_1 r_1_1 l_1 true) ∧ ((!r_9) = false → filter_Good_W e_0_1 e_1_1 e_2_1 (fun r_10 => ((!r_10) = true → law15_FilterLets_j2 a Q r_0_1 r_1_1 l_1 true) ∧ ((!r_10) = false → filter_Good_W t_0_1 t_1_1 t_2_1 (fun r_11 => law15_FilterLets_j2 a Q r_0_1 r_1_1 l_1 (!r_11))))))))))
def law15_FilterLets_W (s_Exclude : Bool) (s_On : List T_api_Addr) (s_Off : List T_api_Addr) (a : T_api_Addr) (l : List T_api_Addr) (Q : Bool → Prop) : Prop :=
  law15_Few_W s_Exclude s_On s_Off (fun r_0_1 r_1_1 r_2_1 => law08_Addrs_W l 6 (fun r_2 => law15_Few_W r_0_1 r_1_1 r_2_1 (fun r_0_22 r_1_22 r_2_22 => law08_Addrs_W r_2 6 (fun r_8 => filter_Expire_W r_0_22 r_1_22 r_2_22 r_8 (fun r_0_23 r_1_23 r_2_23 => law15_Few_W r_0_1 r_1_1 r_2_1 (fun r_0_24 r_1_24 r_2_24 => filter_Turn_W r_0_24 r_1_24 r_2_24 (fun r_0_25 r_1_25 r_2_25 => law15_FilterLets_j1 a Q r_0_1 r_1_1 r_2 r_2_1 r_0_23 r_1_23 r_2_23 r_0_25 r_1_25 r_2_25)))))))
set_option maxHeartbeats 40000000 in
set_option maxRecDepth 100000 in
theorem law15_FilterLets_walk {F : Fz} {fr : List Ow} {h0 : Heap} (s_Exclude : Bool) (s_On : List T_api_Addr) (s_Off : List T_api_Addr) (a : T_api_Addr) (l : List T_api_Addr) (vs_On : Value) (vs_Off : Value) (vl : Value) (hS : St F (fr) h0) (hL_s_On : SliceF F h0 17 e_api_Addr vs_On s_On) (hL_s_Off : SliceF F h0 17 e_api_Addr vs_Off s_Off) (hL_l : SliceF F h0 17 e_api_Addr vl l) {Q : Bool → Prop} (hM : law15_FilterLets_W s_Exclude s_On s_Off a l Q) :
    HC Try.prog 5 #[.agg #[.bool s_Exclude, vs_On, vs_Off], .agg (e_api_Addr a).toArray, vl] h0 fun u h' => ∃ (F' : Fz) (r_1 : Bool), u = .bool r_1 ∧ Kp F h0 F' h' ∧ St F' (fr) h' ∧ (SliceF F' h' 17 e_api_Addr vs_On s_On) ∧ (SliceF F' h' 17 e_api_Addr vs_Off s_Off) ∧ (SliceF F' h' 17 e_api_Addr vl l) ∧ Q r_1 := by
  unfold law15_FilterLets_W at hM
  have hK := Kp.refl F h0
  refine HC.of_HW (n := 72) Try.func5 rfl rfl (Nat.le_of_ble_eq_true rfl) ?_
  refine HW.seq ?_
  refine HW.region ?_
  refine HO.eff (want_none) rfl (st_box (c := #[.bool s_Exclude, vs_On, vs_Off]) (k' := 3) hS rfl rfl) ?_
  rintro _ h_1 ⟨b_1, rfl, hS, hk⟩
  replace hK := hK.trans hk
  replace hL_s_On := hL_s_On.kp hk
  replace hL_s_Off := hL_s_Off.kp hk
  replace hL_l := hL_l.kp hk
  refine HO.eff (want_none) rfl (st_box (c := (e_api_Addr a).toArray) (k' := 17) hS rfl rfl) ?_
  rintro _ h_2 ⟨b_2, rfl, hS, hk⟩
  replace hK := hK.trans hk
  replace hL_s_On := hL_s_On.kp hk
  replace hL_s_Off := hL_s_Off.kp hk
  replace hL_l := hL_l.kp hk
  refine HO.val (v := .bool false) (want_none) rfl (q_assign rfl) ?_
  refine HO.nil (thenQ_normal (?_))
  refine HW.seq ?_
  refine HW.region ?_
  refine HO.val (v := .agg #[.bool s_Exclude, vs_On, vs_Off]) (want_none) rfl (q_loadAgg (cs := [.bool s_Exclude, vs_On, vs_Off]) ta_24 rfl rfl (Blk.cells (k := 3) (hS.box 1 rfl) rfl)) ?_
  refine HO.call (want_none) rfl (ec en_7 rfl rfl) (law15_Few_walk (fr := (Ow.box b_2 34 (e_api_Addr a).toArray :: Ow.box b_1 24 #[.bool s_Exclude, vs_On, vs_Off] :: fr)) s_Exclude s_On s_Off vs_On vs_Off hS hL_s_On hL_s_Off hM) ?_
  rintro _ h_3 ⟨F_1, r_0_1, r_1_1, r_2_1, vr_1_1, vr_2_1, rfl, hk, hS, _, _, hL_1, hM⟩
  replace hK := hK.trans hk
  replace hL_s_On := hL_s_On.kp hk
  replace hL_s_Off := hL_s_Off.kp hk
  replace hL_l := hL_l.kp hk
  refine HO.val (v := vl) (want_none) rfl (q_move rfl) ?_
  refine HO.call (want_none) rfl (ec en_9 rfl rfl) (law08_Addrs_walk (fr := (Ow.own 34 17 e_api_Addr vr_2_1 r_2_1 :: Ow.box b_2 34 (e_api_Addr a).toArray :: Ow.box b_1 24 #[.bool s_Exclude, vs_On, vs_Off] :: fr)) l 6 vl hS hL_l hM) ?_
  rintro vr_1 h_4 ⟨F_2, r_2, _, rfl, hk, hS, _, hM⟩
  replace hK := hK.trans hk
  replace hL_s_On := hL_s_On.kp hk
  replace hL_s_Off := hL_s_Off.kp hk
  replace hL_l := hL_l.kp hk
  replace hL_1 := hL_1.kp hk
  refine HO.sto (want_none) rfl (st_storeAgg (c' := #[.bool r_0_1, vr_1_1, vr_2_1]) hS (i := 3) rfl ta_24 rfl rfl rfl (List.forall_mem_cons.2 ⟨rfl, (List.forall_mem_cons.2 ⟨(shp hL_1.is).one, (List.forall_mem_cons.2 ⟨(shp (hS.own 1 rfl).slice).one, (fun _ h => by cases h)⟩)⟩)⟩) (Nat.le_of_ble_eq_true rfl) rfl) ?_
  rintro h_5 ⟨hS, hk⟩
  replace hS : St F_2 (Ow.own 34 17 e_api_Addr vr_1 r_2 :: Ow.own 34 17 e_api_Addr vr_2_1 r_2_1 :: Ow.box b_2 34 (e_api_Addr a).toArray :: Ow.box b_1 24 #[.bool r_0_1, vr_1_1, vr_2_1] :: fr) h_5 := hS
  replace hK := hK.trans hk
  replace hL_s_On := hL_s_On.kp hk
  replace hL_s_Off := hL_s_Off.kp hk
  replace hL_l := hL_l.kp hk
  replace hL_1 := hL_1.kp hk
  refine HO.val (v := vr_1) (want_none) rfl (q_assign rfl) ?_
  refine HO.nil (thenQ_normal (?_))
  refine HW.seq_mid (fun f h => ∃ (F' : Fz) (l_1 : List T_api_Addr) (e_0_1 : Bool) (e_1_1 : List T_api_Addr) (e_2_1 : List T_api_Addr) (t_0_1 : Bool) (t_1_1 : List T_api_Addr) (t_2_1 : List T_api_Addr) (v_1 : Value) (b_3 : Nat) (ve_1_1 : Value) (ve_2_1 : Value) (b_4 : Nat) (vt_1_1 : Value) (vt_2_1 : Value), f 2 = vr_1 ∧ f 3 = .pointer (some ⟨b_1, 0, none⟩) ∧ f 4 = .pointer (some ⟨b_2, 0, none⟩) ∧ f 6 = .bool false ∧ f 7 = .pointer (some ⟨b_3, 0, none⟩) ∧ f 8 = .pointer (some ⟨b_4, 0, none⟩) ∧ Kp F h0 F' h ∧ St F' (Ow.own 34 17 e_api_Addr vr_1 r_2 :: Ow.box b_1 24 #[.bool r_0_1, vr_1_1, v_1] :: Ow.box b_2 34 (e_api_Addr a).toArray :: Ow.box b_3 24 #[.bool e_0_1, ve_1_1, ve_2_1] :: Ow.own 34 17 e_api_Addr ve_1_1 e_1_1 :: Ow.own 34 17 e_api_Addr ve_2_1 e_2_1 :: Ow.box b_4 24 #[.bool t_0_1, vt_1_1, vt_2_1] :: Ow.own 34 17 e_api_Addr vt_1_1 t_1_1 :: Ow.own 34 17 e_api_Addr vt_2_1 t_2_1 :: fr) h ∧ (SliceF F' h 17 e_api_Addr vs_On s_On) ∧ (SliceF F' h 17 e_api_Addr vs_Off s_Off) ∧ (SliceF F' h 17 e_api_Addr vl l) ∧ (SliceF F' h 17 e_api_Addr vr_1_1 r_1_1) ∧ (SliceF F' h 17 e_api_Addr v_1 l_1) ∧ law15_FilterLets_j1 a Q r_0_1 r_1_1 r_2 l_1 e_0_1 e_1_1 e_2_1 t_0_1 t_1_1 t_2_1) ?_ ?_
  · refine HW.regionA 12 mixed (fun h => (Blk h b_1 (.cells #[.bool r_0_1, vr_1_1, vr_2_1] 24 (0, 0)))) [] (by kernel_rfl) ?_
    refine HA.val (k := 0) (v := .agg #[.bool r_0_1, vr_1_1, vr_2_1]) rfl rfl (by kernel_rfl) (by kernel_rfl) (want_none) rfl (fun _ c201 => q_loadAgg (cs := [.bool r_0_1, vr_1_1, vr_2_1]) ta_24 rfl rfl (Blk.cells (k := 3) c201 rfl)) ?_
    refine HA.val (k := 2) (v := vr_1) rfl rfl (by kernel_rfl) (by kernel_rfl) (want_none) rfl (fun _ c201 => q_move rfl) ?_
    refine HA.val (k := 5) (v := .agg #[.bool r_0_1, vr_1_1, vr_2_1]) rfl rfl (by kernel_rfl) (by kernel_rfl) (want_none) rfl (fun _ c201 => q_loadAgg (cs := [.bool r_0_1, vr_1_1, vr_2_1]) ta_24 rfl rfl (Blk.cells (k := 3) c201 rfl)) ?_
    refine HA.node (C1 := fun (i : Fz × (List T_api_Addr) × (List T_api_Addr) × (List T_api_Addr) × (List T_api_Addr) × (List T_api_Addr) × (List T_api_Addr) × (List T_api_Addr) × (List T_api_Addr) × (List T_api_Addr) × (List T_api_Addr) × Bool × (List T_api_Addr) × Bool × (List T_api_Addr) × Bool × (List T_api_Addr) × Bool × Nat × Nat × Value × Value × Value × Value × Value × Value × Value × Value × Value × Value × Value × Value × Value) => match i with | (F', l_127, l_128, l_129, l_130, l_131, l_132, l_133, l_134, l_135, l_136, b_80, l_137, b_81, l_138, b_82, l_139, b_83, b_78, b_79, v_127, v_128, v_129, v_130, v_131, v_132, v_133, v_134, v_135, v_136, v_137, v_138, v_139) => fun h => (SliceIs h 17 e_api_Addr vs_On s_On) ∧ (SliceIs h 17 e_api_Addr vs_Off s_Off) ∧ (SliceIs h 17 e_api_Addr vl l) ∧ (SliceIs h 17 e_api_Addr vr_1_1 r_1_1) ∧ (SliceIs h 17 e_api_Addr v_134 l_134) ∧ (SliceIs h 17 e_api_Addr v_135 l_135) ∧ (SliceIs h 17 e_api_Addr v_136 l_136) ∧ (SliceIs h 17 e_api_Addr v_137 l_137) ∧ (SliceIs h 17 e_api_Addr v_138 l_138) ∧ (SliceIs h 17 e_api_Addr v_139 l_139) ∧ (OwnIs h 0 34 17 e_api_Addr v_127 l_127) ∧ (OwnIs h 0 34 17 e_api_Addr v_128 l_128) ∧ (OwnIs h 0 34 17 e_api_Addr v_129 l_129) ∧ (OwnIs h 0 34 17 e_api_Addr v_130 l_130) ∧ (OwnIs h 0 34 17 e_api_Addr v_131 l_131) ∧ (OwnIs h 0 34 17 e_api_Addr v_132 l_132) ∧ (OwnIs h 0 34 17 e_api_Addr v_133 l_133) ∧ (OwnIs h 0 34 17 e_api_Addr vr_1 r_2) ∧ (Blk h b_2 (.cells (e_api_Addr a).toArray 34 (0, 0))) ∧ (Blk h b_1 (.cells #[.bool r_0_1, vr_1_1, v_134] 24 (0, 0)))) (cs1 := fun (i : Fz × (List T_api_Addr) × (List T_api_Addr) × (List T_api_Addr) × (List T_api_Addr) × (List T_api_Addr) × (List T_api_Addr) × (List T_api_Addr) × (List T_api_Addr) × (List T_api_Addr) × (List T_api_Addr) × Bool × (List T_api_Addr) × Bool × (List T_api_Addr) × Bool × (List T_api_Addr) × Bool × Nat × Nat × Value × Value × Value × Value × Value × Value × Value × Value × Value × Value × Value × Value × Value) => match i with | (F', l_127, l_128, l_129, l_130, l_131, l_132, l_133, l_134, l_135, l_136, b_80, l_137, b_81, l_138, b_82, l_139, b_83, b_78, b_79, v_127, v_128, v_129, v_130, v_131, v_132, v_133, v_134, v_135, v_136, v_137, v_138, v_139) => [(10, fun h => (Blk h b_79 (.cells #[.bool false, .slice none 0 0, .slice none 0 0] 24 (0, 0)))), (11, fun h => (Blk h b_78 (.cells #[.bool false, .slice none 0 0, .slice none 0 0] 24 (0, 0))))]) (fuel1 := 2) (listed1 := #[true, true, true, true, true, true, true, true, true, true, false, false]) (fun (i : Fz × (List T_api_Addr) × (List T_api_Addr) × (List T_api_Addr) × (List T_api_Addr) × (List T_api_Addr) × (List T_api_Addr) × (List T_api_Addr) × (List T_api_Addr) × (List T_api_Addr) × (List T_api_Addr) × Bool × (List T_api_Addr) × Bool × (List T_api_Addr) × Bool × (List T_api_Addr) × Bool × Nat × Nat × Value × Value × Value × Value × Value × Value × Value × Value × Value × Value × Value × Value × Value) f h => match i with | (F', l_127, l_128, l_129, l_130, l_131, l_132, l_133, l_134, l_135, l_136, b_80, l_137, b_81, l_138, b_82, l_139, b_83, b_78, b_79, v_127, v_128, v_129, v_130, v_131, v_132, v_133, v_134, v_135, v_136, v_137, v_138, v_139) => f 0 = .agg #[.bool s_Exclude, vs_On, vs_Off] ∧ f 1 = .agg (e_api_Addr a).toArray ∧ f 2 = vr_1 ∧ f 3 = .pointer (some ⟨b_1, 0, none⟩) ∧ f 4 = .pointer (some ⟨b_2, 0, none⟩) ∧ f 6 = .bool false ∧ f 7 = .pointer (some ⟨b_79, 0, none⟩) ∧ f 8 = .pointer (some ⟨b_78, 0, none⟩) ∧ f 9 = .agg #[.bool s_Exclude, vs_On, vs_Off] ∧ f 10 = .agg #[.bool r_0_1, vr_1_1, v_135] ∧ f 11 = vl ∧ f 12 = vr_1 ∧ f 13 = .agg #[.bool r_0_1, vr_1_1, v_136] ∧ f 14 = .agg #[.bool b_80, v_137, v_130] ∧ f 15 = vr_1 ∧ f 16 = v_131 ∧ f 17 = .agg #[.bool b_81, v_132, v_133] ∧ f 18 = .agg #[.bool r_0_1, vr_1_1, v_138] ∧ f 19 = .agg #[.bool b_82, v_139, v_127] ∧ f 20 = .agg #[.bool b_83, v_128, v_129] ∧ Kp F h0 F' h ∧ St F' (Ow.box b_78 24 #[.bool false, .slice none 0 0, .slice none 0 0] :: Ow.box b_79 24 #[.bool false, .slice none 0 0, .slice none 0 0] :: Ow.own 34 17 e_api_Addr v_127 l_127 :: Ow.own 34 17 e_api_Addr v_128 l_128 :: Ow.own 34 17 e_api_Addr v_129 l_129 :: Ow.own 34 17 e_api_Addr v_130 l_130 :: Ow.own 34 17 e_api_Addr v_131 l_131 :: Ow.own 34 17 e_api_Addr v_132 l_132 :: Ow.own 34 17 e_api_Addr v_133 l_133 :: Ow.own 34 17 e_api_Addr vr_1 r_2 :: Ow.box b_2 34 (e_api_Addr a).toArray :: Ow.box b_1 24 #[.bool r_0_1, vr_1_1, v_134] :: fr) h ∧ (SliceF F' h 17 e_api_Addr vs_On s_On) ∧ (SliceF F' h 17 e_api_Addr vs_Off s_Off) ∧ (SliceF F' h 17 e_api_Addr vl l) ∧ (SliceF F' h 17 e_api_Addr vr_1_1 r_1_1) ∧ (SliceF F' h 17 e_api_Addr v_134 l_134) ∧ (SliceF F' h 17 e_api_Addr v_135 l_135) ∧ (SliceF F' h 17 e_api_Addr v_136 l_136) ∧ (SliceF F' h 17 e_api_Addr v_137 l_137) ∧ (SliceF F' h 17 e_api_Addr v_138 l_138) ∧ (SliceF F' h 17 e_api_Addr v_139 l_139) ∧ law15_FilterLets_j1 a Q r_0_1 r_1_1 r_2 l_134 b_81 l_132 l_133 b_83 l_128 l_129) ?_ (fun N_1 => ?_)
    · rintro ⟨F_39, l_127, l_128, l_129, l_130, l_131, l_132, l_133, l_134, l_135, l_136, b_80, l_137, b_81, l_138, b_82, l_139, b_83, b_78, b_79, v_127, v_128, v_129, v_130, v_131, v_132, v_133, v_134, v_135, v_136, v_137, v_138, v_139⟩ f_1 h_52 ⟨e0, e1, e2, e3, e4, e6, e7, e8, e9, e10, e11, e12, e13, e14, e15, e16, e17, e18, e19, e20, hK, hS, hL_s_On, hL_s_Off, hL_l, hL_1, hL_106, hL_107, hL_108, hL_109, hL_110, hL_111, hM⟩
      refine HA.fr [(0, .agg #[.bool s_Exclude, vs_On, vs_Off]), (1, .agg (e_api_Addr a).toArray), (2, vr_1), (3, .pointer (some ⟨b_1, 0, none⟩)), (4, .pointer (some ⟨b_2, 0, none⟩)), (6, .bool false), (7, .pointer (some ⟨b_79, 0, none⟩)), (8, .pointer (some ⟨b_78, 0, none⟩)), (9, .agg #[.bool s_Exclude, vs_On, vs_Off]), (10, .agg #[.bool r_0_1, vr_1_1, v_135]), (11, vl), (12, vr_1), (13, .agg #[.bool r_0_1, vr_1_1, v_136]), (14, .agg #[.bool b_80, v_137, v_130]), (15, vr_1), (16, v_131), (17, .agg #[.bool b_81, v_132, v_133]), (18, .agg #[.bool r_0_1, vr_1_1, v_138]), (19, .agg #[.bool b_82, v_139, v_127]), (20, .agg #[.bool b_83, v_128, v_129])] ⟨e0, e1, e2, e3, e4, e6, e7, e8, e9, e10, e11, e12, e13, e14, e15, e16, e17, e18, e19, e20, trivial⟩ ?_
      refine HA.one (k := 10) ⟨⟨hL_s_On.is, hL_s_Off.is, hL_l.is, hL_1.is, hL_106.is, hL_107.is, hL_108.is, hL_109.is, hL_110.is, hL_111.is, (hS.own 2 rfl), (hS.own 3 rfl), (hS.own 4 rfl), (hS.own 5 rfl), (hS.own 6 rfl), (hS.own 7 rfl), (hS.own 8 rfl), (hS.own 9 rfl), (hS.box 10 rfl), (hS.box 11 rfl)⟩, (at_now (hS.box 1 rfl) (at_now (hS.box 0 rfl) (Go.Wk.at_nil _ _)))⟩ (by kernel_rfl) ?_
      refine HS.sto rfl (want_none) rfl (st_storeAgg (c' := #[.bool b_81, v_132, v_133]) hS (i := 1) rfl ta_24 rfl rfl rfl (List.forall_mem_cons.2 ⟨rfl, (List.forall_mem_cons.2 ⟨(shp (hS.own 7 rfl).slice).one, (List.forall_mem_cons.2 ⟨(shp (hS.own 8 rfl).slice).one, (fun _ h => by cases h)⟩)⟩)⟩) (Nat.le_of_ble_eq_true rfl) rfl) ?_
      rintro h_53 ⟨hS, hk⟩
      replace hS : St F_39 (Ow.box b_78 24 #[.bool false, .slice none 0 0, .slice none 0 0] :: Ow.box b_79 24 #[.bool b_81, v_132, v_133] :: Ow.own 34 17 e_api_Addr v_127 l_127 :: Ow.own 34 17 e_api_Addr v_128 l_128 :: Ow.own 34 17 e_api_Addr v_129 l_129 :: Ow.own 34 17 e_api_Addr v_130 l_130 :: Ow.own 34 17 e_api_Addr v_131 l_131 :: Ow.own 34 17 e_api_Addr v_132 l_132 :: Ow.own 34 17 e_api_Addr v_133 l_133 :: Ow.own 34 17 e_api_Addr vr_1 r_2 :: Ow.box b_2 34 (e_api_Addr a).toArray :: Ow.box b_1 24 #[.bool r_0_1, vr_1_1, v_134] :: fr) h_53 := hS
      replace hK := hK.trans hk
      replace hL_s_On := hL_s_On.kp hk
      replace hL_s_Off := hL_s_Off.kp hk
      replace hL_l := hL_l.kp hk
      replace hL_1 := hL_1.kp hk
      replace hL_106 := hL_106.kp hk
      replace hL_107 := hL_107.kp hk
      replace hL_108 := hL_108.kp hk
      replace hL_109 := hL_109.kp hk
      replace hL_110 := hL_110.kp hk
      replace hL_111 := hL_111.kp hk
      refine HA.one (k := 11) ⟨⟨hL_s_On.is, hL_s_Off.is, hL_l.is, hL_1.is, hL_106.is, hL_107.is, hL_108.is, hL_109.is, hL_110.is, hL_111.is, (hS.own 2 rfl), (hS.own 3 rfl), (hS.own 4 rfl), (hS.own 5 rfl), (hS.own 6 rfl), (hS.own 7 rfl), (hS.own 8 rfl), (hS.own 9 rfl), (hS.box 10 rfl), (hS.box 11 rfl)⟩, (at_done (by kernel_rfl) (at_now (hS.box 0 rfl) (Go.Wk.at_nil _ _)))⟩ (by kernel_rfl) ?_
      refine HS.sto rfl (want_none) rfl (st_storeAgg (c' := #[.bool b_83, v_128, v_129]) hS (i := 0) rfl ta_24 rfl rfl rfl (List.forall_mem_cons.2 ⟨rfl, (List.forall_mem_cons.2 ⟨(shp (hS.own 3 rfl).slice).one, (List.forall_mem_cons.2 ⟨(shp (hS.own 4 rfl).slice).one, (fun _ h => by cases h)⟩)⟩)⟩) (Nat.le_of_ble_eq_true rfl) rfl) ?_
      rintro h_54 ⟨hS, hk⟩
      replace hS : St F_39 (Ow.box b_78 24 #[.bool b_83, v_128, v_129] :: Ow.box b_79 24 #[.bool b_81, v_132, v_133] :: Ow.own 34 17 e_api_Addr v_127 l_127 :: Ow.own 34 17 e_api_Addr v_128 l_128 :: Ow.own 34 17 e_api_Addr v_129 l_129 :: Ow.own 34 17 e_api_Addr v_130 l_130 :: Ow.own 34 17 e_api_Addr v_131 l_131 :: Ow.own 34 17 e_api_Addr v_132 l_132 :: Ow.own 34 17 e_api_Addr v_133 l_133 :: Ow.own 34 17 e_api_Addr vr_1 r_2 :: Ow.box b_2 34 (e_api_Addr a).toArray :: Ow.box b_1 24 #[.bool r_0_1, vr_1_1, v_134] :: fr) h_54 := hS
      replace hK := hK.trans hk
      replace hL_s_On := hL_s_On.kp hk
      replace hL_s_Off := hL_s_Off.kp hk
      replace hL_l := hL_l.kp hk
      replace hL_1 := hL_1.kp hk
      replace hL_106 := hL_106.kp hk
      replace hL_107 := hL_107.kp hk
      replace hL_108 := hL_108.kp hk
      replace hL_109 := hL_109.kp hk
      replace hL_110 := hL_110.kp hk
      replace hL_111 := hL_111.kp hk
      refine HA.nil ⟨⟨hL_s_On.is, hL_s_Off.is, hL_l.is, hL_1.is, hL_106.is, hL_107.is, hL_108.is, hL_109.is, hL_110.is, hL_111.is, (hS.own 2 rfl), (hS.own 3 rfl), (hS.own 4 rfl), (hS.own 5 rfl), (hS.own 6 rfl), (hS.own 7 rfl), (hS.own 8 rfl), (hS.own 9 rfl), (hS.box 10 rfl), (hS.box 11 rfl)⟩, (at_done (by kernel_rfl) (at_done (by kernel_rfl) (Go.Wk.at_nil _ _)))⟩ (by kernel_rfl) (thenQ_normal (?_))
      replace hS : St F_39 (Ow.own 34 17 e_api_Addr vr_1 r_2 :: Ow.box b_1 24 #[.bool r_0_1, vr_1_1, v_134] :: Ow.box b_2 34 (e_api_Addr a).toArray :: Ow.box b_79 24 #[.bool b_81, v_132, v_133] :: Ow.own 34 17 e_api_Addr v_132 l_132 :: Ow.own 34 17 e_api_Addr v_133 l_133 :: Ow.box b_78 24 #[.bool b_83, v_128, v_129] :: Ow.own 34 17 e_api_Addr v_128 l_128 :: Ow.own 34 17 e_api_Addr v_129 l_129 :: fr) h_54 := hS.perm2 [9, 11, 10, 1, 7, 8, 0, 3, 4] 12 rfl rfl
      exact ⟨F_39, l_134, b_81, l_132, l_133, b_83, l_128, l_129, v_134, b_79, v_132, v_133, b_78, v_128, v_129, rfl, rfl, rfl, rfl, rfl, rfl, hK, hS, hL_s_On, hL_s_Off, hL_l, hL_1, hL_106, hM⟩
    refine HA.node (C1 := fun (i : Fz × (List T_api_Addr) × (List T_api_Addr) × (List T_api_Addr) × (List T_api_Addr) × (List T_api_Addr) × (List T_api_Addr) × (List T_api_Addr) × (List T_api_Addr) × (List T_api_Addr) × (List T_api_Addr) × Bool × (List T_api_Addr) × Bool × (List T_api_Addr) × Bool × (List T_api_Addr) × Bool × Nat × Value × Value × Value × Value × Value × Value × Value × Value × Value × Value × Value × Value × Value) => match i with | (F', l_90, l_91, l_92, l_93, l_94, l_95, l_96, l_97, l_98, l_99, b_62, l_100, b_63, l_101, b_64, l_102, b_65, b_61, v_90, v_91, v_92, v_93, v_94, v_95, v_96, v_97, v_98, v_99, v_100, v_101, v_102) => fun h => (SliceIs h 17 e_api_Addr vs_On s_On) ∧ (SliceIs h 17 e_api_Addr vs_Off s_Off) ∧ (SliceIs h 17 e_api_Addr vl l) ∧ (SliceIs h 17 e_api_Addr vr_1_1 r_1_1) ∧ (SliceIs h 17 e_api_Addr v_97 l_97) ∧ (SliceIs h 17 e_api_Addr v_98 l_98) ∧ (SliceIs h 17 e_api_Addr v_99 l_99) ∧ (SliceIs h 17 e_api_Addr v_100 l_100) ∧ (SliceIs h 17 e_api_Addr v_101 l_101) ∧ (SliceIs h 17 e_api_Addr v_102 l_102) ∧ (OwnIs h 0 34 17 e_api_Addr v_90 l_90) ∧ (OwnIs h 0 34 17 e_api_Addr v_91 l_91) ∧ (OwnIs h 0 34 17 e_api_Addr v_92 l_92) ∧ (OwnIs h 0 34 17 e_api_Addr v_93 l_93) ∧ (OwnIs h 0 34 17 e_api_Addr v_94 l_94) ∧ (OwnIs h 0 34 17 e_api_Addr v_95 l_95) ∧ (OwnIs h 0 34 17 e_api_Addr v_96 l_96) ∧ (OwnIs h 0 34 17 e_api_Addr vr_1 r_2) ∧ (Blk h b_2 (.cells (e_api_Addr a).toArray 34 (0, 0))) ∧ (Blk h b_1 (.cells #[.bool r_0_1, vr_1_1, v_97] 24 (0, 0)))) (cs1 := fun (i : Fz × (List T_api_Addr) × (List T_api_Addr) × (List T_api_Addr) × (List T_api_Addr) × (List T_api_Addr) × (List T_api_Addr) × (List T_api_Addr) × (List T_api_Addr) × (List T_api_Addr) × (List T_api_Addr) × Bool × (List T_api_Addr) × Bool × (List T_api_Addr) × Bool × (List T_api_Addr) × Bool × Nat × Value × Value × Value × Value × Value × Value × Value × Value × Value × Value × Value × Value × Value) => match i with | (F', l_90, l_91, l_92, l_93, l_94, l_95, l_96, l_97, l_98, l_99, b_62, l_100, b_63, l_101, b_64, l_102, b_65, b_61, v_90, v_91, v_92, v_93, v_94, v_95, v_96, v_97, v_98, v_99, v_100, v_101, v_102) => [(10, fun h => (Blk h b_61 (.cells #[.bool false, .slice none 0 0, .slice none 0 0] 24 (0, 0))))]) (fuel1 := 3) (listed1 := #[true, true, true, true, true, true, true, true, true, false, false, false]) (fun (i : Fz × (List T_api_Addr) × (List T_api_Addr) × (List T_api_Addr) × (List T_api_Addr) × (List T_api_Addr) × (List T_api_Addr) × (List T_api_Addr) × (List T_api_Addr) × (List T_api_Addr) × (List T_api_Addr) × Bool × (List T_api_Addr) × Bool × (List T_api_Addr) × Bool × (List T_api_Addr) × Bool × Nat × Value × Value × Value × Value × Value × Value × Value × Value × Value × Value × Value × Value × Value) f h => match i with | (F', l_90, l_91, l_92, l_93, l_94, l_95, l_96, l_97, l_98, l_99, b_62, l_100, b_63, l_101, b_64, l_102, b_65, b_61, v_90, v_91, v_92, v_93, v_94, v_95, v_96, v_97, v_98, v_99, v_100, v_101, v_102) => f 0 = .agg #[.bool s_Exclude, vs_On, vs_Off] ∧ f 1 = .agg (e_api_Addr a).toArray ∧ f 2 = vr_1 ∧ f 3 = .pointer (some ⟨b_1, 0, none⟩) ∧ f 4 = .pointer (some ⟨b_2, 0, none⟩) ∧ f 6 = .bool false ∧ f 7 = .pointer (some ⟨b_61, 0, none⟩) ∧ f 9 = .agg #[.bool s_Exclude, vs_On, vs_Off] ∧ f 10 = .agg #[.bool r_0_1, vr_1_1, v_98] ∧ f 11 = vl ∧ f 12 = vr_1 ∧ f 13 = .agg #[.bool r_0_1, vr_1_1, v_99] ∧ f 14 = .agg #[.bool b_62, v_100, v_93] ∧ f 15 = vr_1 ∧ f 16 = v_94 ∧ f 17 = .agg #[.bool b_63, v_95, v_96] ∧ f 18 = .agg #[.bool r_0_1, vr_1_1, v_101] ∧ f 19 = .agg #[.bool b_64, v_102, v_90] ∧ f 20 = .agg #[.bool b_65, v_91, v_92] ∧ Kp F h0 F' h ∧ St F' (Ow.box b_61 24 #[.bool false, .slice none 0 0, .slice none 0 0] :: Ow.own 34 17 e_api_Addr v_90 l_90 :: Ow.own 34 17 e_api_Addr v_91 l_91 :: Ow.own 34 17 e_api_Addr v_92 l_92 :: Ow.own 34 17 e_api_Addr v_93 l_93 :: Ow.own 34 17 e_api_Addr v_94 l_94 :: Ow.own 34 17 e_api_Addr v_95 l_95 :: Ow.own 34 17 e_api_Addr v_96 l_96 :: Ow.own 34 17 e_api_Addr vr_1 r_2 :: Ow.box b_2 34 (e_api_Addr a).toArray :: Ow.box b_1 24 #[.bool r_0_1, vr_1_1, v_97] :: fr) h ∧ (SliceF F' h 17 e_api_Addr vs_On s_On) ∧ (SliceF F' h 17 e_api_Addr vs_Off s_Off) ∧ (SliceF F' h 17 e_api_Addr vl l) ∧ (SliceF F' h 17 e_api_Addr vr_1_1 r_1_1) ∧ (SliceF F' h 17 e_api_Addr v_97 l_97) ∧ (SliceF F' h 17 e_api_Addr v_98 l_98) ∧ (SliceF F' h 17 e_api_Addr v_99 l_99) ∧ (SliceF F' h 17 e_api_Addr v_100 l_100) ∧ (SliceF F' h 17 e_api_Addr v_101 l_101) ∧ (SliceF F' h 17 e_api_Addr v_102 l_102) ∧ law15_FilterLets_j1 a Q r_0_1 r_1_1 r_2 l_97 b_63 l_95 l_96 b_65 l_91 l_92) ?_ (fun N_2 => ?_)
    · rintro ⟨F_40, l_90, l_91, l_92, l_93, l_94, l_95, l_96, l_97, l_98, l_99, b_62, l_100, b_63, l_101, b_64, l_102, b_65, b_61, v_90, v_91, v_92, v_93, v_94, v_95, v_96, v_97, v_98, v_99, v_100, v_101, v_102⟩ f_2 h_55 ⟨e0, e1, e2, e3, e4, e6, e7, e9, e10, e11, e12, e13, e14, e15, e16, e17, e18, e19, e20, hK, hS, hL_s_On, hL_s_Off, hL_l, hL_1, hL_87, hL_88, hL_89, hL_90, hL_91, hL_92, hM⟩
      refine HA.fr [(0, .agg #[.bool s_Exclude, vs_On, vs_Off]), (1, .agg (e_api_Addr a).toArray), (2, vr_1), (3, .pointer (some ⟨b_1, 0, none⟩)), (4, .pointer (some ⟨b_2, 0, none⟩)), (6, .bool false), (7, .pointer (some ⟨b_61, 0, none⟩)), (9, .agg #[.bool s_Exclude, vs_On, vs_Off]), (10, .agg #[.bool r_0_1, vr_1_1, v_98]), (11, vl), (12, vr_1), (13, .agg #[.bool r_0_1, vr_1_1, v_99]), (14, .agg #[.bool b_62, v_100, v_93]), (15, vr_1), (16, v_94), (17, .agg #[.bool b_63, v_95, v_96]), (18, .agg #[.bool r_0_1, vr_1_1, v_101]), (19, .agg #[.bool b_64, v_102, v_90]), (20, .agg #[.bool b_65, v_91, v_92])] ⟨e0, e1, e2, e3, e4, e6, e7, e9, e10, e11, e12, e13, e14, e15, e16, e17, e18, e19, e20, trivial⟩ ?_
      refine HA.one (k := 9) ⟨⟨hL_s_On.is, hL_s_Off.is, hL_l.is, hL_1.is, hL_87.is, hL_88.is, hL_89.is, hL_90.is, hL_91.is, hL_92.is, (hS.own 1 rfl), (hS.own 2 rfl), (hS.own 3 rfl), (hS.own 4 rfl), (hS.own 5 rfl), (hS.own 6 rfl), (hS.own 7 rfl), (hS.own 8 rfl), (hS.box 9 rfl), (hS.box 10 rfl)⟩, (at_now (hS.box 0 rfl) (Go.Wk.at_nil _ _))⟩ (by kernel_rfl) ?_
      refine HS.eff rfl (want_none) rfl (st_alloc (c := #[.bool false, .slice none 0 0, .slice none 0 0]) hS tz_24 rfl) ?_
      rintro _ h_56 ⟨b_84, rfl, hS, hk⟩
      replace hK := hK.trans hk
      replace hL_s_On := hL_s_On.kp hk
      replace hL_s_Off := hL_s_Off.kp hk
      replace hL_l := hL_l.kp hk
      replace hL_1 := hL_1.kp hk
      replace hL_87 := hL_87.kp hk
      replace hL_88 := hL_88.kp hk
      replace hL_89 := hL_89.kp hk
      replace hL_90 := hL_90.kp hk
      replace hL_91 := hL_91.kp hk
      replace hL_92 := hL_92.kp hk
      refine Go.Wk.HA.re (fun h => (SliceIs h 17 e_api_Addr vs_On s_On) ∧ (SliceIs h 17 e_api_Addr vs_Off s_Off) ∧ (SliceIs h 17 e_api_Addr vl l) ∧ (SliceIs h 17 e_api_Addr vr_1_1 r_1_1) ∧ (SliceIs h 17 e_api_Addr v_97 l_97) ∧ (SliceIs h 17 e_api_Addr v_98 l_98) ∧ (SliceIs h 17 e_api_Addr v_99 l_99) ∧ (SliceIs h 17 e_api_Addr v_100 l_100) ∧ (SliceIs h 17 e_api_Addr v_101 l_101) ∧ (SliceIs h 17 e_api_Addr v_102 l_102) ∧ (OwnIs h 0 34 17 e_api_Addr v_90 l_90) ∧ (OwnIs h 0 34 17 e_api_Addr v_91 l_91) ∧ (OwnIs h 0 34 17 e_api_Addr v_92 l_92) ∧ (OwnIs h 0 34 17 e_api_Addr v_93 l_93) ∧ (OwnIs h 0 34 17 e_api_Addr v_94 l_94) ∧ (OwnIs h 0 34 17 e_api_Addr v_95 l_95) ∧ (OwnIs h 0 34 17 e_api_Addr v_96 l_96) ∧ (OwnIs h 0 34 17 e_api_Addr vr_1 r_2) ∧ (Blk h b_2 (.cells (e_api_Addr a).toArray 34 (0, 0))) ∧ (Blk h b_1 (.cells #[.bool r_0_1, vr_1_1, v_97] 24 (0, 0)))) [(10, fun h => (Blk h b_61 (.cells #[.bool false, .slice none 0 0, .slice none 0 0] 24 (0, 0)))), (11, fun h => (Blk h b_84 (.cells #[.bool false, .slice none 0 0, .slice none 0 0] 24 (0, 0))))] (fun L_ h_ hL_ ⟨hL_s_On, hL_s_Off, hL_l, hL_1, hL_87, hL_88, hL_89, hL_90, hL_91, hL_92, c250, c256, c257, c220, c232, c238, c239, c204, c202, c201⟩ hs_ => ⟨⟨hL_s_On, hL_s_Off, hL_l, hL_1, hL_87, hL_88, hL_89, hL_90, hL_91, hL_92, c250, c256, c257, c220, c232, c238, c239, c204, c202, c201⟩, (at_keep 0 rfl hs_ (fun c262 => c262) (Go.Wk.at_nil _ _))⟩) ?_
      exact N_1 (F_40, l_90, l_91, l_92, l_93, l_94, l_95, l_96, l_97, l_98, l_99, b_62, l_100, b_63, l_101, b_64, l_102, b_65, b_84, b_61, v_90, v_91, v_92, v_93, v_94, v_95, v_96, v_97, v_98, v_99, v_100, v_101, v_102) _ _ ⟨rfl, rfl, rfl, rfl, rfl, rfl, rfl, rfl, rfl, rfl, rfl, rfl, rfl, rfl, rfl, rfl, rfl, rfl, rfl, rfl, hK, hS, hL_s_On, hL_s_Off, hL_l, hL_1, hL_87, hL_88, hL_89, hL_90, hL_91, hL_92, hM⟩
    refine HA.node (C1 := fun (i : Fz × (List T_api_Addr) × (List T_api_Addr) × (List T_api_Addr) × (List T_api_Addr) × (List T_api_Addr) × (List T_api_Addr) × (List T_api_Addr) × (List T_api_Addr) × (List T_api_Addr) × (List T_api_Addr) × Bool × (List T_api_Addr) × Bool × (List T_api_Addr) × Bool × (List T_api_Addr) × Bool × Nat × Value × Value × Value × Value × Value × Value × Value × Value × Value × Value × Value × Value × Value) => match i with | (F', l_103, l_104, l_105, l_106, l_107, l_108, l_109, l_110, l_111, l_112, b_68, l_113, b_69, l_114, b_70, l_115, b_71, b_67, v_103, v_104, v_105, v_106, v_107, v_108, v_109, v_110, v_111, v_112, v_113, v_114, v_115) => fun h => (SliceIs h 17 e_api_Addr vs_On s_On) ∧ (SliceIs h 17 e_api_Addr vs_Off s_Off) ∧ (SliceIs h 17 e_api_Addr vl l) ∧ (SliceIs h 17 e_api_Addr vr_1_1 r_1_1) ∧ (SliceIs h 17 e_api_Addr v_110 l_110) ∧ (SliceIs h 17 e_api_Addr v_111 l_111) ∧ (SliceIs h 17 e_api_Addr v_112 l_112) ∧ (SliceIs h 17 e_api_Addr v_113 l_113) ∧ (SliceIs h 17 e_api_Addr v_114 l_114) ∧ (SliceIs h 17 e_api_Addr v_115 l_115) ∧ (OwnIs h 0 34 17 e_api_Addr v_103 l_103) ∧ (OwnIs h 0 34 17 e_api_Addr v_104 l_104) ∧ (OwnIs h 0 34 17 e_api_Addr v_105 l_105) ∧ (OwnIs h 0 34 17 e_api_Addr v_106 l_106) ∧ (OwnIs h 0 34 17 e_api_Addr v_107 l_107) ∧ (OwnIs h 0 34 17 e_api_Addr v_108 l_108) ∧ (OwnIs h 0 34 17 e_api_Addr v_109 l_109) ∧ (OwnIs h 0 34 17 e_api_Addr vr_1 r_2) ∧ (Blk h b_2 (.cells (e_api_Addr a).toArray 34 (0, 0))) ∧ (Blk h b_1 (.cells #[.bool r_0_1, vr_1_1, v_110] 24 (0, 0)))) (cs1 := fun (i : Fz × (List T_api_Addr) × (List T_api_Addr) × (List T_api_Addr) × (List T_api_Addr) × (List T_api_Addr) × (List T_api_Addr) × (List T_api_Addr) × (List T_api_Addr) × (List T_api_Addr) × (List T_api_Addr) × Bool × (List T_api_Addr) × Bool × (List T_api_Addr) × Bool × (List T_api_Addr) × Bool × Nat × Value × Value × Value × Value × Value × Value × Value × Value × Value × Value × Value × Value × Value) => match i with | (F', l_103, l_104, l_105, l_106, l_107, l_108, l_109, l_110, l_111, l_112, b_68, l_113, b_69, l_114, b_70, l_115, b_71, b_67, v_103, v_104, v_105, v_106, v_107, v_108, v_109, v_110, v_111, v_112, v_113, v_114, v_115) => [(11, fun h => (Blk h b_67 (.cells #[.bool false, .slice none 0 0, .slice none 0 0] 24 (0, 0))))]) (fuel1 := 3) (listed1 := #[true, true, true, true, true, true, true, true, false, true, false, false]) (fun (i : Fz × (List T_api_Addr) × (List T_api_Addr) × (List T_api_Addr) × (List T_api_Addr) × (List T_api_Addr) × (List T_api_Addr) × (List T_api_Addr) × (List T_api_Addr) × (List T_api_Addr) × (List T_api_Addr) × Bool × (List T_api_Addr) × Bool × (List T_api_Addr) × Bool × (List T_api_Addr) × Bool × Nat × Value × Value × Value × Value × Value × Value × Value × Value × Value × Value × Value × Value × Value) f h => match i with | (F', l_103, l_104, l_105, l_106, l_107, l_108, l_109, l_110, l_111, l_112, b_68, l_113, b_69, l_114, b_70, l_115, b_71, b_67, v_103, v_104, v_105, v_106, v_107, v_108, v_109, v_110, v_111, v_112, v_113, v_114, v_115) => f 0 = .agg #[.bool s_Exclude, vs_On, vs_Off] ∧ f 1 = .agg (e_api_Addr a).toArray ∧ f 2 = vr_1 ∧ f 3 = .pointer (some ⟨b_1, 0, none⟩) ∧ f 4 = .pointer (some ⟨b_2, 0, none⟩) ∧ f 6 = .bool false ∧ f 8 = .pointer (some ⟨b_67, 0, none⟩) ∧ f 9 = .agg #[.bool s_Exclude, vs_On, vs_Off] ∧ f 10 = .agg #[.bool r_0_1, vr_1_1, v_111] ∧ f 11 = vl ∧ f 12 = vr_1 ∧ f 13 = .agg #[.bool r_0_1, vr_1_1, v_112] ∧ f 14 = .agg #[.bool b_68, v_113, v_106] ∧ f 15 = vr_1 ∧ f 16 = v_107 ∧ f 17 = .agg #[.bool b_69, v_108, v_109] ∧ f 18 = .agg #[.bool r_0_1, vr_1_1, v_114] ∧ f 19 = .agg #[.bool b_70, v_115, v_103] ∧ f 20 = .agg #[.bool b_71, v_104, v_105] ∧ Kp F h0 F' h ∧ St F' (Ow.box b_67 24 #[.bool false, .slice none 0 0, .slice none 0 0] :: Ow.own 34 17 e_api_Addr v_103 l_103 :: Ow.own 34 17 e_api_Addr v_104 l_104 :: Ow.own 34 17 e_api_Addr v_105 l_105 :: Ow.own 34 17 e_api_Addr v_106 l_106 :: Ow.own 34 17 e_api_Addr v_107 l_107 :: Ow.own 34 17 e_api_Addr v_108 l_108 :: Ow.own 34 17 e_api_Addr v_109 l_109 :: Ow.own 34 17 e_api_Addr vr_1 r_2 :: Ow.box b_2 34 (e_api_Addr a).toArray :: Ow.box b_1 24 #[.bool r_0_1, vr_1_1, v_110] :: fr) h ∧ (SliceF F' h 17 e_api_Addr vs_On s_On) ∧ (SliceF F' h 17 e_api_Addr vs_Off s_Off) ∧ (SliceF F' h 17 e_api_Addr vl l) ∧ (SliceF F' h 17 e_api_Addr vr_1_1 r_1_1) ∧ (SliceF F' h 17 e_api_Addr v_110 l_110) ∧ (SliceF F' h 17 e_api_Addr v_111 l_111) ∧ (SliceF F' h 17 e_api_Addr v_112 l_112) ∧ (SliceF F' h 17 e_api_Addr v_113 l_113) ∧ (SliceF F' h 17 e_api_Addr v_114 l_114) ∧ (SliceF F' h 17 e_api_Addr v_115 l_115) ∧ law15_FilterLets_j1 a Q r_0_1 r_1_1 r_2 l_110 b_69 l_108 l_109 b_71 l_104 l_105) ?_ (fun N_3 => ?_)
    · rintro ⟨F_41, l_103, l_104, l_105, l_106, l_107, l_108, l_109, l_110, l_111, l_112, b_68, l_113, b_69, l_114, b_70, l_115, b_71, b_67, v_103, v_104, v_105, v_106, v_107, v_108, v_109, v_110, v_111, v_112, v_113, v_114, v_115⟩ f_3 h_57 ⟨e0, e1, e2, e3, e4, e6, e8, e9, e10, e11, e12, e13, e14, e15, e16, e17, e18, e19, e20, hK, hS, hL_s_On, hL_s_Off, hL_l, hL_1, hL_93, hL_94, hL_95, hL_96, hL_97, hL_98, hM⟩
      refine HA.fr [(0, .agg #[.bool s_Exclude, vs_On, vs_Off]), (1, .agg (e_api_Addr a).toArray), (2, vr_1), (3, .pointer (some ⟨b_1, 0, none⟩)), (4, .pointer (some ⟨b_2, 0, none⟩)), (6, .bool false), (8, .pointer (some ⟨b_67, 0, none⟩)), (9, .agg #[.bool s_Exclude, vs_On, vs_Off]), (10, .agg #[.bool r_0_1, vr_1_1, v_111]), (11, vl), (12, vr_1), (13, .agg #[.bool r_0_1, vr_1_1, v_112]), (14, .agg #[.bool b_68, v_113, v_106]), (15, vr_1), (16, v_107), (17, .agg #[.bool b_69, v_108, v_109]), (18, .agg #[.bool r_0_1, vr_1_1, v_114]), (19, .agg #[.bool b_70, v_115, v_103]), (20, .agg #[.bool b_71, v_104, v_105])] ⟨e0, e1, e2, e3, e4, e6, e8, e9, e10, e11, e12, e13, e14, e15, e16, e17, e18, e19, e20, trivial⟩ ?_
      refine HA.one (k := 8) ⟨⟨hL_s_On.is, hL_s_Off.is, hL_l.is, hL_1.is, hL_93.is, hL_94.is, hL_95.is, hL_96.is, hL_97.is, hL_98.is, (hS.own 1 rfl), (hS.own 2 rfl), (hS.own 3 rfl), (hS.own 4 rfl), (hS.own 5 rfl), (hS.own 6 rfl), (hS.own 7 rfl), (hS.own 8 rfl), (hS.box 9 rfl), (hS.box 10 rfl)⟩, (at_now (hS.box 0 rfl) (Go.Wk.at_nil _ _))⟩ (by kernel_rfl) ?_
      refine HS.eff rfl (want_none) rfl (st_alloc (c := #[.bool false, .slice none 0 0, .slice none 0 0]) hS tz_24 rfl) ?_
      rintro _ h_58 ⟨b_85, rfl, hS, hk⟩
      replace hK := hK.trans hk
      replace hL_s_On := hL_s_On.kp hk
      replace hL_s_Off := hL_s_Off.kp hk
      replace hL_l := hL_l.kp hk
      replace hL_1 := hL_1.kp hk
      replace hL_93 := hL_93.kp hk
      replace hL_94 := hL_94.kp hk
      replace hL_95 := hL_95.kp hk
      replace hL_96 := hL_96.kp hk
      replace hL_97 := hL_97.kp hk
      replace hL_98 := hL_98.kp hk
      replace hS : St F_41 (Ow.box b_67 24 #[.bool false, .slice none 0 0, .slice none 0 0] :: Ow.box b_85 24 #[.bool false, .slice none 0 0, .slice none 0 0] :: Ow.own 34 17 e_api_Addr v_103 l_103 :: Ow.own 34 17 e_api_Addr v_104 l_104 :: Ow.own 34 17 e_api_Addr v_105 l_105 :: Ow.own 34 17 e_api_Addr v_106 l_106 :: Ow.own 34 17 e_api_Addr v_107 l_107 :: Ow.own 34 17 e_api_Addr v_108 l_108 :: Ow.own 34 17 e_api_Addr v_109 l_109 :: Ow.own 34 17 e_api_Addr vr_1 r_2 :: Ow.box b_2 34 (e_api_Addr a).toArray :: Ow.box b_1 24 #[.bool r_0_1, vr_1_1, v_110] :: fr) h_58 := hS.perm2 [1, 0, 2, 3, 4, 5, 6, 7, 8, 9, 10, 11] 12 rfl rfl
      refine Go.Wk.HA.re (fun h => (SliceIs h 17 e_api_Addr vs_On s_On) ∧ (SliceIs h 17 e_api_Addr vs_Off s_Off) ∧ (SliceIs h 17 e_api_Addr vl l) ∧ (SliceIs h 17 e_api_Addr vr_1_1 r_1_1) ∧ (SliceIs h 17 e_api_Addr v_110 l_110) ∧ (SliceIs h 17 e_api_Addr v_111 l_111) ∧ (SliceIs h 17 e_api_Addr v_112 l_112) ∧ (SliceIs h 17 e_api_Addr v_113 l_113) ∧ (SliceIs h 17 e_api_Addr v_114 l_114) ∧ (SliceIs h 17 e_api_Addr v_115 l_115) ∧ (OwnIs h 0 34 17 e_api_Addr v_103 l_103) ∧ (OwnIs h 0 34 17 e_api_Addr v_104 l_104) ∧ (OwnIs h 0 34 17 e_api_Addr v_105 l_105) ∧ (OwnIs h 0 34 17 e_api_Addr v_106 l_106) ∧ (OwnIs h 0 34 17 e_api_Addr v_107 l_107) ∧ (OwnIs h 0 34 17 e_api_Addr v_108 l_108) ∧ (OwnIs h 0 34 17 e_api_Addr v_109 l_109) ∧ (OwnIs h 0 34 17 e_api_Addr vr_1 r_2) ∧ (Blk h b_2 (.cells (e_api_Addr a).toArray 34 (0, 0))) ∧ (Blk h b_1 (.cells #[.bool r_0_1, vr_1_1, v_110] 24 (0, 0)))) [(10, fun h => (Blk h b_85 (.cells #[.bool false, .slice none 0 0, .slice none 0 0] 24 (0, 0)))), (11, fun h => (Blk h b_67 (.cells #[.bool false, .slice none 0 0, .slice none 0 0] 24 (0, 0))))] (fun L_ h_ hL_ ⟨hL_s_On, hL_s_Off, hL_l, hL_1, hL_93, hL_94, hL_95, hL_96, hL_97, hL_98, c250, c256, c257, c220, c232, c238, c239, c204, c202, c201⟩ hs_ => ⟨⟨hL_s_On, hL_s_Off, hL_l, hL_1, hL_93, hL_94, hL_95, hL_96, hL_97, hL_98, c250, c256, c257, c220, c232, c238, c239, c204, c202, c201⟩, (at_keep 1 rfl hs_ (fun c268 => c268) (Go.Wk.at_nil _ _))⟩) ?_
      exact N_1 (F_41, l_103, l_104, l_105, l_106, l_107, l_108, l_109, l_110, l_111, l_112, b_68, l_113, b_69, l_114, b_70, l_115, b_71, b_67, b_85, v_103, v_104, v_105, v_106, v_107, v_108, v_109, v_110, v_111, v_112, v_113, v_114, v_115) _ _ ⟨rfl, rfl, rfl, rfl, rfl, rfl, rfl, rfl, rfl, rfl, rfl, rfl, rfl, rfl, rfl, rfl, rfl, rfl, rfl, rfl, hK, hS, hL_s_On, hL_s_Off, hL_l, hL_1, hL_93, hL_94, hL_95, hL_96, hL_97, hL_98, hM⟩
    refine HA.node (C1 := fun (i : Fz × (List T_api_Addr) × (List T_api_Addr) × (List T_api_Addr) × (List T_api_Addr) × (List T_api_Addr) × (List T_api_Addr) × (List T_api_Addr) × (List T_api_Addr) × Bool × (List T_api_Addr) × Bool × (List T_api_Addr) × Bool × (List T_api_Addr) × Nat × Nat × Value × Value × Value × Value × Value × Value × Value × Value × Value × Value × Value) => match i with | (F', l_116, l_117, l_118, l_119, l_120, l_121, l_122, l_123, b_75, l_124, b_76, l_125, b_77, l_126, b_73, b_74, v_116, v_117, v_118, v_119, v_120, v_121, v_122, v_123, v_124, v_125, v_126) => fun h => (SliceIs h 17 e_api_Addr vs_On s_On) ∧ (SliceIs h 17 e_api_Addr vs_Off s_Off) ∧ (SliceIs h 17 e_api_Addr vl l) ∧ (SliceIs h 17 e_api_Addr vr_1_1 r_1_1) ∧ (SliceIs h 17 e_api_Addr v_121 l_121) ∧ (SliceIs h 17 e_api_Addr v_122 l_122) ∧ (SliceIs h 17 e_api_Addr v_123 l_123) ∧ (SliceIs h 17 e_api_Addr v_124 l_124) ∧ (SliceIs h 17 e_api_Addr v_125 l_125) ∧ (SliceIs h 17 e_api_Addr v_126 l_126) ∧ (OwnIs h 0 34 17 e_api_Addr v_116 l_116) ∧ (OwnIs h 0 34 17 e_api_Addr v_117 l_117) ∧ (OwnIs h 0 34 17 e_api_Addr v_118 l_118) ∧ (OwnIs h 0 34 17 e_api_Addr v_119 l_119) ∧ (OwnIs h 0 34 17 e_api_Addr v_120 l_120) ∧ (OwnIs h 0 34 17 e_api_Addr vr_1 r_2) ∧ (Blk h b_2 (.cells (e_api_Addr a).toArray 34 (0, 0))) ∧ (Blk h b_1 (.cells #[.bool r_0_1, vr_1_1, v_121] 24 (0, 0)))) (cs1 := fun (i : Fz × (List T_api_Addr) × (List T_api_Addr) × (List T_api_Addr) × (List T_api_Addr) × (List T_api_Addr) × (List T_api_Addr) × (List T_api_Addr) × (List T_api_Addr) × Bool × (List T_api_Addr) × Bool × (List T_api_Addr) × Bool × (List T_api_Addr) × Nat × Nat × Value × Value × Value × Value × Value × Value × Value × Value × Value × Value × Value) => match i with | (F', l_116, l_117, l_118, l_119, l_120, l_121, l_122, l_123, b_75, l_124, b_76, l_125, b_77, l_126, b_73, b_74, v_116, v_117, v_118, v_119, v_120, v_121, v_122, v_123, v_124, v_125, v_126) => [(10, fun h => (Blk h b_74 (.cells #[.bool false, .slice none 0 0, .slice none 0 0] 24 (0, 0)))), (11, fun h => (Blk h b_73 (.cells #[.bool false, .slice none 0 0, .slice none 0 0] 24 (0, 0))))]) (fuel1 := 3) (listed1 := #[true, true, true, true, true, true, true, false, true, true, false, false]) (fun (i : Fz × (List T_api_Addr) × (List T_api_Addr) × (List T_api_Addr) × (List T_api_Addr) × (List T_api_Addr) × (List T_api_Addr) × (List T_api_Addr) × (List T_api_Addr) × Bool × (List T_api_Addr) × Bool × (List T_api_Addr) × Bool × (List T_api_Addr) × Nat × Nat × Value × Value × Value × Value × Value × Value × Value × Value × Value × Value × Value) f h => match i with | (F', l_116, l_117, l_118, l_119, l_120, l_121, l_122, l_123, b_75, l_124, b_76, l_125, b_77, l_126, b_73, b_74, v_116, v_117, v_118, v_119, v_120, v_121, v_122, v_123, v_124, v_125, v_126) => f 0 = .agg #[.bool s_Exclude, vs_On, vs_Off] ∧ f 1 = .agg (e_api_Addr a).toArray ∧ f 2 = vr_1 ∧ f 3 = .pointer (some ⟨b_1, 0, none⟩) ∧ f 4 = .pointer (some ⟨b_2, 0, none⟩) ∧ f 6 = .bool false ∧ f 7 = .pointer (some ⟨b_74, 0, none⟩) ∧ f 8 = .pointer (some ⟨b_73, 0, none⟩) ∧ f 9 = .agg #[.bool s_Exclude, vs_On, vs_Off] ∧ f 10 = .agg #[.bool r_0_1, vr_1_1, v_122] ∧ f 11 = vl ∧ f 12 = vr_1 ∧ f 13 = .agg #[.bool r_0_1, vr_1_1, v_123] ∧ f 14 = .agg #[.bool b_75, v_124, v_117] ∧ f 15 = vr_1 ∧ f 16 = v_118 ∧ f 17 = .agg #[.bool b_76, v_119, v_120] ∧ f 18 = .agg #[.bool r_0_1, vr_1_1, v_125] ∧ f 19 = .agg #[.bool b_77, v_126, v_116] ∧ Kp F h0 F' h ∧ St F' (Ow.box b_73 24 #[.bool false, .slice none 0 0, .slice none 0 0] :: Ow.box b_74 24 #[.bool false, .slice none 0 0, .slice none 0 0] :: Ow.own 34 17 e_api_Addr v_116 l_116 :: Ow.own 34 17 e_api_Addr v_117 l_117 :: Ow.own 34 17 e_api_Addr v_118 l_118 :: Ow.own 34 17 e_api_Addr v_119 l_119 :: Ow.own 34 17 e_api_Addr v_120 l_120 :: Ow.own 34 17 e_api_Addr vr_1 r_2 :: Ow.box b_2 34 (e_api_Addr a).toArray :: Ow.box b_1 24 #[.bool r_0_1, vr_1_1, v_121] :: fr) h ∧ (SliceF F' h 17 e_api_Addr vs_On s_On) ∧ (SliceF F' h 17 e_api_Addr vs_Off s_Off) ∧ (SliceF F' h 17 e_api_Addr vl l) ∧ (SliceF F' h 17 e_api_Addr vr_1_1 r_1_1) ∧ (SliceF F' h 17 e_api_Addr v_121 l_121) ∧ (SliceF F' h 17 e_api_Addr v_122 l_122) ∧ (SliceF F' h 17 e_api_Addr v_123 l_123) ∧ (SliceF F' h 17 e_api_Addr v_124 l_124) ∧ (SliceF F' h 17 e_api_Addr v_125 l_125) ∧ (SliceF F' h 17 e_api_Addr v_126 l_126) ∧ filter_Turn_W b_77 l_126 l_116 (fun r_0_18 r_1_18 r_2_18 => law15_FilterLets_j1 a Q r_0_1 r_1_1 r_2 l_121 b_76 l_119 l_120 r_0_18 r_1_18 r_2_18)) ?_ (fun N_4 => ?_)
    · rintro ⟨F_42, l_116, l_117, l_118, l_119, l_120, l_121, l_122, l_123, b_75, l_124, b_76, l_125, b_77, l_126, b_73, b_74, v_116, v_117, v_118, v_119, v_120, v_121, v_122, v_123, v_124, v_125, v_126⟩ f_4 h_59 ⟨e0, e1, e2, e3, e4, e6, e7, e8, e9, e10, e11, e12, e13, e14, e15, e16, e17, e18, e19, hK, hS, hL_s_On, hL_s_Off, hL_l, hL_1, hL_99, hL_100, hL_101, hL_102, hL_103, hL_104, hM⟩
      refine HA.fr [(0, .agg #[.bool s_Exclude, vs_On, vs_Off]), (1, .agg (e_api_Addr a).toArray), (2, vr_1), (3, .pointer (some ⟨b_1, 0, none⟩)), (4, .pointer (some ⟨b_2, 0, none⟩)), (6, .bool false), (7, .pointer (some ⟨b_74, 0, none⟩)), (8, .pointer (some ⟨b_73, 0, none⟩)), (9, .agg #[.bool s_Exclude, vs_On, vs_Off]), (10, .agg #[.bool r_0_1, vr_1_1, v_122]), (11, vl), (12, vr_1), (13, .agg #[.bool r_0_1, vr_1_1, v_123]), (14, .agg #[.bool b_75, v_124, v_117]), (15, vr_1), (16, v_118), (17, .agg #[.bool b_76, v_119, v_120]), (18, .agg #[.bool r_0_1, vr_1_1, v_125]), (19, .agg #[.bool b_77, v_126, v_116])] ⟨e0, e1, e2, e3, e4, e6, e7, e8, e9, e10, e11, e12, e13, e14, e15, e16, e17, e18, e19, trivial⟩ ?_
      refine HA.one (k := 7) ⟨⟨hL_s_On.is, hL_s_Off.is, hL_l.is, hL_1.is, hL_99.is, hL_100.is, hL_101.is, hL_102.is, hL_103.is, hL_104.is, (hS.own 2 rfl), (hS.own 3 rfl), (hS.own 4 rfl), (hS.own 5 rfl), (hS.own 6 rfl), (hS.own 7 rfl), (hS.box 8 rfl), (hS.box 9 rfl)⟩, (at_now (hS.box 1 rfl) (at_now (hS.box 0 rfl) (Go.Wk.at_nil _ _)))⟩ (by kernel_rfl) ?_
      replace hS : St F_42 (Ow.own 34 17 e_api_Addr v_116 l_116 :: Ow.box b_73 24 #[.bool false, .slice none 0 0, .slice none 0 0] :: Ow.box b_74 24 #[.bool false, .slice none 0 0, .slice none 0 0] :: Ow.own 34 17 e_api_Addr v_117 l_117 :: Ow.own 34 17 e_api_Addr v_118 l_118 :: Ow.own 34 17 e_api_Addr v_119 l_119 :: Ow.own 34 17 e_api_Addr v_120 l_120 :: Ow.own 34 17 e_api_Addr vr_1 r_2 :: Ow.box b_2 34 (e_api_Addr a).toArray :: Ow.box b_1 24 #[.bool r_0_1, vr_1_1, v_121] :: fr) h_59 := hS.perm2 [2, 0, 1, 3, 4, 5, 6, 7, 8, 9] 10 rfl rfl
      have hZ_17 := hS
      have hkz_17 := (hS.freeze).2
      replace hS := hS.freeze.1
      have hL_112 : SliceF (fun b => F_42 b ∨ (Ow.own 34 17 e_api_Addr v_116 l_116).foot b) h_59 17 e_api_Addr v_116 l_116 := ⟨(hZ_17.own 0 rfl).slice, fun _ b hb => .inr hb⟩
      refine HS.call rfl (want_none) rfl (ec en_20 rfl rfl) (filter_Turn_walk (fr := (Ow.box b_73 24 #[.bool false, .slice none 0 0, .slice none 0 0] :: Ow.box b_74 24 #[.bool false, .slice none 0 0, .slice none 0 0] :: Ow.own 34 17 e_api_Addr v_117 l_117 :: Ow.own 34 17 e_api_Addr v_118 l_118 :: Ow.own 34 17 e_api_Addr v_119 l_119 :: Ow.own 34 17 e_api_Addr v_120 l_120 :: Ow.own 34 17 e_api_Addr vr_1 r_2 :: Ow.box b_2 34 (e_api_Addr a).toArray :: Ow.box b_1 24 #[.bool r_0_1, vr_1_1, v_121] :: fr)) b_77 l_126 l_116 v_126 v_116 hS (hL_104.kp hkz_17) hL_112 hM) ?_
      rintro _ h_60 ⟨F_43, r_0_18, r_1_18, r_2_18, vr_1_18, vr_2_18, rfl, hk, hS, _, _, hM⟩
      obtain ⟨hS, hk⟩ := hZ_17.back hk hS
      generalize (fun b => F_43 b ∧ ¬ (Ow.own 34 17 e_api_Addr v_116 l_116).foot b) = F_44 at hS hk
      replace hK := hK.trans hk
      replace hL_s_On := hL_s_On.kp hk
      replace hL_s_Off := hL_s_Off.kp hk
      replace hL_l := hL_l.kp hk
      replace hL_1 := hL_1.kp hk
      replace hL_99 := hL_99.kp hk
      replace hL_100 := hL_100.kp hk
      replace hL_101 := hL_101.kp hk
      replace hL_102 := hL_102.kp hk
      replace hL_103 := hL_103.kp hk
      replace hL_104 := hL_104.kp hk
      replace hS : St F_44 (Ow.box b_73 24 #[.bool false, .slice none 0 0, .slice none 0 0] :: Ow.box b_74 24 #[.bool false, .slice none 0 0, .slice none 0 0] :: Ow.own 34 17 e_api_Addr v_116 l_116 :: Ow.own 34 17 e_api_Addr vr_1_18 r_1_18 :: Ow.own 34 17 e_api_Addr vr_2_18 r_2_18 :: Ow.own 34 17 e_api_Addr v_117 l_117 :: Ow.own 34 17 e_api_Addr v_118 l_118 :: Ow.own 34 17 e_api_Addr v_119 l_119 :: Ow.own 34 17 e_api_Addr v_120 l_120 :: Ow.own 34 17 e_api_Addr vr_1 r_2 :: Ow.box b_2 34 (e_api_Addr a).toArray :: Ow.box b_1 24 #[.bool r_0_1, vr_1_1, v_121] :: fr) h_60 := hS.perm2 [3, 4, 0, 1, 2, 5, 6, 7, 8, 9, 10, 11] 12 rfl rfl
      refine Go.Wk.HA.re (fun h => (SliceIs h 17 e_api_Addr vs_On s_On) ∧ (SliceIs h 17 e_api_Addr vs_Off s_Off) ∧ (SliceIs h 17 e_api_Addr vl l) ∧ (SliceIs h 17 e_api_Addr vr_1_1 r_1_1) ∧ (SliceIs h 17 e_api_Addr v_121 l_121) ∧ (SliceIs h 17 e_api_Addr v_122 l_122) ∧ (SliceIs h 17 e_api_Addr v_123 l_123) ∧ (SliceIs h 17 e_api_Addr v_124 l_124) ∧ (SliceIs h 17 e_api_Addr v_125 l_125) ∧ (SliceIs h 17 e_api_Addr v_126 l_126) ∧ (OwnIs h 0 34 17 e_api_Addr v_116 l_116) ∧ (OwnIs h 0 34 17 e_api_Addr vr_1_18 r_1_18) ∧ (OwnIs h 0 34 17 e_api_Addr vr_2_18 r_2_18) ∧ (OwnIs h 0 34 17 e_api_Addr v_117 l_117) ∧ (OwnIs h 0 34 17 e_api_Addr v_118 l_118) ∧ (OwnIs h 0 34 17 e_api_Addr v_119 l_119) ∧ (OwnIs h 0 34 17 e_api_Addr v_120 l_120) ∧ (OwnIs h 0 34 17 e_api_Addr vr_1 r_2) ∧ (Blk h b_2 (.cells (e_api_Addr a).toArray 34 (0, 0))) ∧ (Blk h b_1 (.cells #[.bool r_0_1, vr_1_1, v_121] 24 (0, 0)))) [(10, fun h => (Blk h b_74 (.cells #[.bool false, .slice none 0 0, .slice none 0 0] 24 (0, 0)))), (11, fun h => (Blk h b_73 (.cells #[.bool false, .slice none 0 0, .slice none 0 0] 24 (0, 0))))] (fun L_ h_ hL_ ⟨hL_s_On, hL_s_Off, hL_l, hL_1, hL_99, hL_100, hL_101, hL_102, hL_103, hL_104, c250, c256, c257, c220, c232, c238, c239, c204, c202, c201⟩ hs_ => ⟨⟨hL_s_On, hL_s_Off, hL_l, hL_1, hL_99, hL_100, hL_101, hL_102, hL_103, hL_104, c250, c220, c232, c238, c239, c204, c202, c201⟩, (at_keep 0 rfl hs_ (fun c262 => c262) (at_keep 1 rfl hs_ (fun c268 => c268) (Go.Wk.at_nil _ _)))⟩) ?_
      exact N_1 (F_44, l_116, r_1_18, r_2_18, l_117, l_118, l_119, l_120, l_121, l_122, l_123, b_75, l_124, b_76, l_125, b_77, l_126, r_0_18, b_73, b_74, v_116, vr_1_18, vr_2_18, v_117, v_118, v_119, v_120, v_121, v_122, v_123, v_124, v_125, v_126) _ _ ⟨rfl, rfl, rfl, rfl, rfl, rfl, rfl, rfl, rfl, rfl, rfl, rfl, rfl, rfl, rfl, rfl, rfl, rfl, rfl, rfl, hK, hS, hL_s_On, hL_s_Off, hL_l, hL_1, hL_99, hL_100, hL_101, hL_102, hL_103, hL_104, hM⟩
    refine HA.node (C1 := fun (i : Fz × (List T_api_Addr) × (List T_api_Addr) × (List T_api_Addr) × (List T_api_Addr) × (List T_api_Addr) × (List T_api_Addr) × (List T_api_Addr) × (List T_api_Addr) × Bool × (List T_api_Addr) × Bool × (List T_api_Addr) × Bool × (List T_api_Addr) × Nat × Value × Value × Value × Value × Value × Value × Value × Value × Value × Value × Value) => match i with | (F', l_59, l_60, l_61, l_62, l_63, l_64, l_65, l_66, b_48, l_67, b_49, l_68, b_50, l_69, b_47, v_59, v_60, v_61, v_62, v_63, v_64, v_65, v_66, v_67, v_68, v_69) => fun h => (SliceIs h 17 e_api_Addr vs_On s_On) ∧ (SliceIs h 17 e_api_Addr vs_Off s_Off) ∧ (SliceIs h 17 e_api_Addr vl l) ∧ (SliceIs h 17 e_api_Addr vr_1_1 r_1_1) ∧ (SliceIs h 17 e_api_Addr v_64 l_64) ∧ (SliceIs h 17 e_api_Addr v_65 l_65) ∧ (SliceIs h 17 e_api_Addr v_66 l_66) ∧ (SliceIs h 17 e_api_Addr v_67 l_67) ∧ (SliceIs h 17 e_api_Addr v_68 l_68) ∧ (SliceIs h 17 e_api_Addr v_69 l_69) ∧ (OwnIs h 0 34 17 e_api_Addr v_59 l_59) ∧ (OwnIs h 0 34 17 e_api_Addr v_60 l_60) ∧ (OwnIs h 0 34 17 e_api_Addr v_61 l_61) ∧ (OwnIs h 0 34 17 e_api_Addr v_62 l_62) ∧ (OwnIs h 0 34 17 e_api_Addr v_63 l_63) ∧ (OwnIs h 0 34 17 e_api_Addr vr_1 r_2) ∧ (Blk h b_2 (.cells (e_api_Addr a).toArray 34 (0, 0))) ∧ (Blk h b_1 (.cells #[.bool r_0_1, vr_1_1, v_64] 24 (0, 0)))) (cs1 := fun (i : Fz × (List T_api_Addr) × (List T_api_Addr) × (List T_api_Addr) × (List T_api_Addr) × (List T_api_Addr) × (List T_api_Addr) × (List T_api_Addr) × (List T_api_Addr) × Bool × (List T_api_Addr) × Bool × (List T_api_Addr) × Bool × (List T_api_Addr) × Nat × Value × Value × Value × Value × Value × Value × Value × Value × Value × Value × Value) => match i with | (F', l_59, l_60, l_61, l_62, l_63, l_64, l_65, l_66, b_48, l_67, b_49, l_68, b_50, l_69, b_47, v_59, v_60, v_61, v_62, v_63, v_64, v_65, v_66, v_67, v_68, v_69) => [(10, fun h => (Blk h b_47 (.cells #[.bool false, .slice none 0 0, .slice none 0 0] 24 (0, 0))))]) (fuel1 := 4) (listed1 := #[true, true, true, true, true, true, true, false, true, false, false, false]) (fun (i : Fz × (List T_api_Addr) × (List T_api_Addr) × (List T_api_Addr) × (List T_api_Addr) × (List T_api_Addr) × (List T_api_Addr) × (List T_api_Addr) × (List T_api_Addr) × Bool × (List T_api_Addr) × Bool × (List T_api_Addr) × Bool × (List T_api_Addr) × Nat × Value × Value × Value × Value × Value × Value × Value × Value × Value × Value × Value) f h => match i with | (F', l_59, l_60, l_61, l_62, l_63, l_64, l_65, l_66, b_48, l_67, b_49, l_68, b_50, l_69, b_47, v_59, v_60, v_61, v_62, v_63, v_64, v_65, v_66, v_67, v_68, v_69) => f 0 = .agg #[.bool s_Exclude, vs_On, vs_Off] ∧ f 1 = .agg (e_api_Addr a).toArray ∧ f 2 = vr_1 ∧ f 3 = .pointer (some ⟨b_1, 0, none⟩) ∧ f 4 = .pointer (some ⟨b_2, 0, none⟩) ∧ f 6 = .bool false ∧ f 7 = .pointer (some ⟨b_47, 0, none⟩) ∧ f 9 = .agg #[.bool s_Exclude, vs_On, vs_Off] ∧ f 10 = .agg #[.bool r_0_1, vr_1_1, v_65] ∧ f 11 = vl ∧ f 12 = vr_1 ∧ f 13 = .agg #[.bool r_0_1, vr_1_1, v_66] ∧ f 14 = .agg #[.bool b_48, v_67, v_60] ∧ f 15 = vr_1 ∧ f 16 = v_61 ∧ f 17 = .agg #[.bool b_49, v_62, v_63] ∧ f 18 = .agg #[.bool r_0_1, vr_1_1, v_68] ∧ f 19 = .agg #[.bool b_50, v_69, v_59] ∧ Kp F h0 F' h ∧ St F' (Ow.box b_47 24 #[.bool false, .slice none 0 0, .slice none 0 0] :: Ow.own 34 17 e_api_Addr v_59 l_59 :: Ow.own 34 17 e_api_Addr v_60 l_60 :: Ow.own 34 17 e_api_Addr v_61 l_61 :: Ow.own 34 17 e_api_Addr v_62 l_62 :: Ow.own 34 17 e_api_Addr v_63 l_63 :: Ow.own 34 17 e_api_Addr vr_1 r_2 :: Ow.box b_2 34 (e_api_Addr a).toArray :: Ow.box b_1 24 #[.bool r_0_1, vr_1_1, v_64] :: fr) h ∧ (SliceF F' h 17 e_api_Addr vs_On s_On) ∧ (SliceF F' h 17 e_api_Addr vs_Off s_Off) ∧ (SliceF F' h 17 e_api_Addr vl l) ∧ (SliceF F' h 17 e_api_Addr vr_1_1 r_1_1) ∧ (SliceF F' h 17 e_api_Addr v_64 l_64) ∧ (SliceF F' h 17 e_api_Addr v_65 l_65) ∧ (SliceF F' h 17 e_api_Addr v_66 l_66) ∧ (SliceF F' h 17 e_api_Addr v_67 l_67) ∧ (SliceF F' h 17 e_api_Addr v_68 l_68) ∧ (SliceF F' h 17 e_api_Addr v_69 l_69) ∧ filter_Turn_W b_50 l_69 l_59 (fun r_0_19 r_1_19 r_2_19 => law15_FilterLets_j1 a Q r_0_1 r_1_1 r_2 l_64 b_49 l_62 l_63 r_0_19 r_1_19 r_2_19)) ?_ (fun N_5 => ?_)
    · rintro ⟨F_45, l_59, l_60, l_61, l_62, l_63, l_64, l_65, l_66, b_48, l_67, b_49, l_68, b_50, l_69, b_47, v_59, v_60, v_61, v_62, v_63, v_64, v_65, v_66, v_67, v_68, v_69⟩ f_5 h_61 ⟨e0, e1, e2, e3, e4, e6, e7, e9, e10, e11, e12, e13, e14, e15, e16, e17, e18, e19, hK, hS, hL_s_On, hL_s_Off, hL_l, hL_1, hL_67, hL_68, hL_69, hL_70, hL_71, hL_72, hM⟩
      refine HA.fr [(0, .agg #[.bool s_Exclude, vs_On, vs_Off]), (1, .agg (e_api_Addr a).toArray), (2, vr_1), (3, .pointer (some ⟨b_1, 0, none⟩)), (4, .pointer (some ⟨b_2, 0, none⟩)), (6, .bool false), (7, .pointer (some ⟨b_47, 0, none⟩)), (9, .agg #[.bool s_Exclude, vs_On, vs_Off]), (10, .agg #[.bool r_0_1, vr_1_1, v_65]), (11, vl), (12, vr_1), (13, .agg #[.bool r_0_1, vr_1_1, v_66]), (14, .agg #[.bool b_48, v_67, v_60]), (15, vr_1), (16, v_61), (17, .agg #[.bool b_49, v_62, v_63]), (18, .agg #[.bool r_0_1, vr_1_1, v_68]), (19, .agg #[.bool b_50, v_69, v_59])] ⟨e0, e1, e2, e3, e4, e6, e7, e9, e10, e11, e12, e13, e14, e15, e16, e17, e18, e19, trivial⟩ ?_
      refine HA.two (k := 7) (k' := 9) ⟨⟨hL_s_On.is, hL_s_Off.is, hL_l.is, hL_1.is, hL_67.is, hL_68.is, hL_69.is, hL_70.is, hL_71.is, hL_72.is, (hS.own 1 rfl), (hS.own 2 rfl), (hS.own 3 rfl), (hS.own 4 rfl), (hS.own 5 rfl), (hS.own 6 rfl), (hS.box 7 rfl), (hS.box 8 rfl)⟩, (at_now (hS.box 0 rfl) (Go.Wk.at_nil _ _))⟩ (by kernel_rfl) ?_ ?_
      · replace hS : St F_45 (Ow.own 34 17 e_api_Addr v_59 l_59 :: Ow.box b_47 24 #[.bool false, .slice none 0 0, .slice none 0 0] :: Ow.own 34 17 e_api_Addr v_60 l_60 :: Ow.own 34 17 e_api_Addr v_61 l_61 :: Ow.own 34 17 e_api_Addr v_62 l_62 :: Ow.own 34 17 e_api_Addr v_63 l_63 :: Ow.own 34 17 e_api_Addr vr_1 r_2 :: Ow.box b_2 34 (e_api_Addr a).toArray :: Ow.box b_1 24 #[.bool r_0_1, vr_1_1, v_64] :: fr) h_61 := hS.perm2 [1, 0, 2, 3, 4, 5, 6, 7, 8] 9 rfl rfl
        have hZ_18 := hS
        have hkz_18 := (hS.freeze).2
        replace hS := hS.freeze.1
        have hL_113 : SliceF (fun b => F_45 b ∨ (Ow.own 34 17 e_api_Addr v_59 l_59).foot b) h_61 17 e_api_Addr v_59 l_59 := ⟨(hZ_18.own 0 rfl).slice, fun _ b hb => .inr hb⟩
        refine HS.call rfl (want_none) rfl (ec en_20 rfl rfl) (filter_Turn_walk (fr := (Ow.box b_47 24 #[.bool false, .slice none 0 0, .slice none 0 0] :: Ow.own 34 17 e_api_Addr v_60 l_60 :: Ow.own 34 17 e_api_Addr v_61 l_61 :: Ow.own 34 17 e_api_Addr v_62 l_62 :: Ow.own 34 17 e_api_Addr v_63 l_63 :: Ow.own 34 17 e_api_Addr vr_1 r_2 :: Ow.box b_2 34 (e_api_Addr a).toArray :: Ow.box b_1 24 #[.bool r_0_1, vr_1_1, v_64] :: fr)) b_50 l_69 l_59 v_69 v_59 hS (hL_72.kp hkz_18) hL_113 hM) ?_
        rintro _ h_62 ⟨F_46, r_0_19, r_1_19, r_2_19, vr_1_19, vr_2_19, rfl, hk, hS, _, _, hM⟩
        obtain ⟨hS, hk⟩ := hZ_18.back hk hS
        generalize (fun b => F_46 b ∧ ¬ (Ow.own 34 17 e_api_Addr v_59 l_59).foot b) = F_47 at hS hk
        replace hK := hK.trans hk
        replace hL_s_On := hL_s_On.kp hk
        replace hL_s_Off := hL_s_Off.kp hk
        replace hL_l := hL_l.kp hk
        replace hL_1 := hL_1.kp hk
        replace hL_67 := hL_67.kp hk
        replace hL_68 := hL_68.kp hk
        replace hL_69 := hL_69.kp hk
        replace hL_70 := hL_70.kp hk
        replace hL_71 := hL_71.kp hk
        replace hL_72 := hL_72.kp hk
        replace hS : St F_47 (Ow.box b_47 24 #[.bool false, .slice none 0 0, .slice none 0 0] :: Ow.own 34 17 e_api_Addr v_59 l_59 :: Ow.own 34 17 e_api_Addr vr_1_19 r_1_19 :: Ow.own 34 17 e_api_Addr vr_2_19 r_2_19 :: Ow.own 34 17 e_api_Addr v_60 l_60 :: Ow.own 34 17 e_api_Addr v_61 l_61 :: Ow.own 34 17 e_api_Addr v_62 l_62 :: Ow.own 34 17 e_api_Addr v_63 l_63 :: Ow.own 34 17 e_api_Addr vr_1 r_2 :: Ow.box b_2 34 (e_api_Addr a).toArray :: Ow.box b_1 24 #[.bool r_0_1, vr_1_1, v_64] :: fr) h_62 := hS.perm2 [3, 0, 1, 2, 4, 5, 6, 7, 8, 9, 10] 11 rfl rfl
        refine Go.Wk.HA.re (fun h => (SliceIs h 17 e_api_Addr vs_On s_On) ∧ (SliceIs h 17 e_api_Addr vs_Off s_Off) ∧ (SliceIs h 17 e_api_Addr vl l) ∧ (SliceIs h 17 e_api_Addr vr_1_1 r_1_1) ∧ (SliceIs h 17 e_api_Addr v_64 l_64) ∧ (SliceIs h 17 e_api_Addr v_65 l_65) ∧ (SliceIs h 17 e_api_Addr v_66 l_66) ∧ (SliceIs h 17 e_api_Addr v_67 l_67) ∧ (SliceIs h 17 e_api_Addr v_68 l_68) ∧ (SliceIs h 17 e_api_Addr v_69 l_69) ∧ (OwnIs h 0 34 17 e_api_Addr v_59 l_59) ∧ (OwnIs h 0 34 17 e_api_Addr vr_1_19 r_1_19) ∧ (OwnIs h 0 34 17 e_api_Addr vr_2_19 r_2_19) ∧ (OwnIs h 0 34 17 e_api_Addr v_60 l_60) ∧ (OwnIs h 0 34 17 e_api_Addr v_61 l_61) ∧ (OwnIs h 0 34 17 e_api_Addr v_62 l_62) ∧ (OwnIs h 0 34 17 e_api_Addr v_63 l_63) ∧ (OwnIs h 0 34 17 e_api_Addr vr_1 r_2) ∧ (Blk h b_2 (.cells (e_api_Addr a).toArray 34 (0, 0))) ∧ (Blk h b_1 (.cells #[.bool r_0_1, vr_1_1, v_64] 24 (0, 0)))) [(10, fun h => (Blk h b_47 (.cells #[.bool false, .slice none 0 0, .slice none 0 0] 24 (0, 0))))] (fun L_ h_ hL_ ⟨hL_s_On, hL_s_Off, hL_l, hL_1, hL_67, hL_68, hL_69, hL_70, hL_71, hL_72, c250, c256, c257, c220, c232, c238, c239, c204, c202, c201⟩ hs_ => ⟨⟨hL_s_On, hL_s_Off, hL_l, hL_1, hL_67, hL_68, hL_69, hL_70, hL_71, hL_72, c250, c220, c232, c238, c239, c204, c202, c201⟩, (at_keep 0 rfl hs_ (fun c262 => c262) (Go.Wk.at_nil _ _))⟩) ?_
        exact N_2 (F_47, l_59, r_1_19, r_2_19, l_60, l_61, l_62, l_63, l_64, l_65, l_66, b_48, l_67, b_49, l_68, b_50, l_69, r_0_19, b_47, v_59, vr_1_19, vr_2_19, v_60, v_61, v_62, v_63, v_64, v_65, v_66, v_67, v_68, v_69) _ _ ⟨rfl, rfl, rfl, rfl, rfl, rfl, rfl, rfl, rfl, rfl, rfl, rfl, rfl, rfl, rfl, rfl, rfl, rfl, rfl, hK, hS, hL_s_On, hL_s_Off, hL_l, hL_1, hL_67, hL_68, hL_69, hL_70, hL_71, hL_72, hM⟩
      · refine HS.eff rfl (want_none) rfl (st_alloc (c := #[.bool false, .slice none 0 0, .slice none 0 0]) hS tz_24 rfl) ?_
        rintro _ h_62 ⟨b_86, rfl, hS, hk⟩
        replace hK := hK.trans hk
        replace hL_s_On := hL_s_On.kp hk
        replace hL_s_Off := hL_s_Off.kp hk
        replace hL_l := hL_l.kp hk
        replace hL_1 := hL_1.kp hk
        replace hL_67 := hL_67.kp hk
        replace hL_68 := hL_68.kp hk
        replace hL_69 := hL_69.kp hk
        replace hL_70 := hL_70.kp hk
        replace hL_71 := hL_71.kp hk
        replace hL_72 := hL_72.kp hk
        refine Go.Wk.HA.re (fun h => (SliceIs h 17 e_api_Addr vs_On s_On) ∧ (SliceIs h 17 e_api_Addr vs_Off s_Off) ∧ (SliceIs h 17 e_api_Addr vl l) ∧ (SliceIs h 17 e_api_Addr vr_1_1 r_1_1) ∧ (SliceIs h 17 e_api_Addr v_64 l_64) ∧ (SliceIs h 17 e_api_Addr v_65 l_65) ∧ (SliceIs h 17 e_api_Addr v_66 l_66) ∧ (SliceIs h 17 e_api_Addr v_67 l_67) ∧ (SliceIs h 17 e_api_Addr v_68 l_68) ∧ (SliceIs h 17 e_api_Addr v_69 l_69) ∧ (OwnIs h 0 34 17 e_api_Addr v_59 l_59) ∧ (OwnIs h 0 34 17 e_api_Addr v_60 l_60) ∧ (OwnIs h 0 34 17 e_api_Addr v_61 l_61) ∧ (OwnIs h 0 34 17 e_api_Addr v_62 l_62) ∧ (OwnIs h 0 34 17 e_api_Addr v_63 l_63) ∧ (OwnIs h 0 34 17 e_api_Addr vr_1 r_2) ∧ (Blk h b_2 (.cells (e_api_Addr a).toArray 34 (0, 0))) ∧ (Blk h b_1 (.cells #[.bool r_0_1, vr_1_1, v_64] 24 (0, 0)))) [(10, fun h => (Blk h b_47 (.cells #[.bool false, .slice none 0 0, .slice none 0 0] 24 (0, 0)))), (11, fun h => (Blk h b_86 (.cells #[.bool false, .slice none 0 0, .slice none 0 0] 24 (0, 0))))] (fun L_ h_ hL_ ⟨hL_s_On, hL_s_Off, hL_l, hL_1, hL_67, hL_68, hL_69, hL_70, hL_71, hL_72, c250, c220, c232, c238, c239, c204, c202, c201⟩ hs_ => ⟨⟨hL_s_On, hL_s_Off, hL_l, hL_1, hL_67, hL_68, hL_69, hL_70, hL_71, hL_72, c250, c220, c232, c238, c239, c204, c202, c201⟩, (at_keep 0 rfl hs_ (fun c262 => c262) (Go.Wk.at_nil _ _))⟩) ?_
        exact N_4 (F_45, l_59, l_60, l_61, l_62, l_63, l_64, l_65, l_66, b_48, l_67, b_49, l_68, b_50, l_69, b_86, b_47, v_59, v_60, v_61, v_62, v_63, v_64, v_65, v_66, v_67, v_68, v_69) _ _ ⟨rfl, rfl, rfl, rfl, rfl, rfl, rfl, rfl, rfl, rfl, rfl, rfl, rfl, rfl, rfl, rfl, rfl, rfl, rfl, hK, hS, hL_s_On, hL_s_Off, hL_l, hL_1, hL_67, hL_68, hL_69, hL_70, hL_71, hL_72, hM⟩
    refine HA.node (C1 := fun (i : Fz × (List T_api_Addr) × (List T_api_Addr) × (List T_api_Addr) × (List T_api_Addr) × (List T_api_Addr) × (List T_api_Addr) × (List T_api_Addr) × (List T_api_Addr) × Bool × (List T_api_Addr) × Bool × (List T_api_Addr) × Bool × (List T_api_Addr) × Nat × Value × Value × Value × Value × Value × Value × Value × Value × Value × Value × Value) => match i with | (F', l_70, l_71, l_72, l_73, l_74, l_75, l_76, l_77, b_53, l_78, b_54, l_79, b_55, l_80, b_52, v_70, v_71, v_72, v_73, v_74, v_75, v_76, v_77, v_78, v_79, v_80) => fun h => (SliceIs h 17 e_api_Addr vs_On s_On) ∧ (SliceIs h 17 e_api_Addr vs_Off s_Off) ∧ (SliceIs h 17 e_api_Addr vl l) ∧ (SliceIs h 17 e_api_Addr vr_1_1 r_1_1) ∧ (SliceIs h 17 e_api_Addr v_75 l_75) ∧ (SliceIs h 17 e_api_Addr v_76 l_76) ∧ (SliceIs h 17 e_api_Addr v_77 l_77) ∧ (SliceIs h 17 e_api_Addr v_78 l_78) ∧ (SliceIs h 17 e_api_Addr v_79 l_79) ∧ (SliceIs h 17 e_api_Addr v_80 l_80) ∧ (OwnIs h 0 34 17 e_api_Addr v_70 l_70) ∧ (OwnIs h 0 34 17 e_api_Addr v_71 l_71) ∧ (OwnIs h 0 34 17 e_api_Addr v_72 l_72) ∧ (OwnIs h 0 34 17 e_api_Addr v_73 l_73) ∧ (OwnIs h 0 34 17 e_api_Addr v_74 l_74) ∧ (OwnIs h 0 34 17 e_api_Addr vr_1 r_2) ∧ (Blk h b_2 (.cells (e_api_Addr a).toArray 34 (0, 0))) ∧ (Blk h b_1 (.cells #[.bool r_0_1, vr_1_1, v_75] 24 (0, 0)))) (cs1 := fun (i : Fz × (List T_api_Addr) × (List T_api_Addr) × (List T_api_Addr) × (List T_api_Addr) × (List T_api_Addr) × (List T_api_Addr) × (List T_api_Addr) × (List T_api_Addr) × Bool × (List T_api_Addr) × Bool × (List T_api_Addr) × Bool × (List T_api_Addr) × Nat × Value × Value × Value × Value × Value × Value × Value × Value × Value × Value × Value) => match i with | (F', l_70, l_71, l_72, l_73, l_74, l_75, l_76, l_77, b_53, l_78, b_54, l_79, b_55, l_80, b_52, v_70, v_71, v_72, v_73, v_74, v_75, v_76, v_77, v_78, v_79, v_80) => [(11, fun h => (Blk h b_52 (.cells #[.bool false, .slice none 0 0, .slice none 0 0] 24 (0, 0))))]) (fuel1 := 4) (listed1 := #[true, true, true, true, true, true, true, false, false, true, false, false]) (fun (i : Fz × (List T_api_Addr) × (List T_api_Addr) × (List T_api_Addr) × (List T_api_Addr) × (List T_api_Addr) × (List T_api_Addr) × (List T_api_Addr) × (List T_api_Addr) × Bool × (List T_api_Addr) × Bool × (List T_api_Addr) × Bool × (List T_api_Addr) × Nat × Value × Value × Value × Value × Value × Value × Value × Value × Value × Value × Value) f h => match i with | (F', l_70, l_71, l_72, l_73, l_74, l_75, l_76, l_77, b_53, l_78, b_54, l_79, b_55, l_80, b_52, v_70, v_71, v_72, v_73, v_74, v_75, v_76, v_77, v_78, v_79, v_80) => f 0 = .agg #[.bool s_Exclude, vs_On, vs_Off] ∧ f 1 = .agg (e_api_Addr a).toArray ∧ f 2 = vr_1 ∧ f 3 = .pointer (some ⟨b_1, 0, none⟩) ∧ f 4 = .pointer (some ⟨b_2, 0, none⟩) ∧ f 6 = .bool false ∧ f 8 = .pointer (some ⟨b_52, 0, none⟩) ∧ f 9 = .agg #[.bool s_Exclude, vs_On, vs_Off] ∧ f 10 = .agg #[.bool r_0_1, vr_1_1, v_76] ∧ f 11 = vl ∧ f 12 = vr_1 ∧ f 13 = .agg #[.bool r_0_1, vr_1_1, v_77] ∧ f 14 = .agg #[.bool b_53, v_78, v_71] ∧ f 15 = vr_1 ∧ f 16 = v_72 ∧ f 17 = .agg #[.bool b_54, v_73, v_74] ∧ f 18 = .agg #[.bool r_0_1, vr_1_1, v_79] ∧ f 19 = .agg #[.bool b_55, v_80, v_70] ∧ Kp F h0 F' h ∧ St F' (Ow.box b_52 24 #[.bool false, .slice none 0 0, .slice none 0 0] :: Ow.own 34 17 e_api_Addr v_70 l_70 :: Ow.own 34 17 e_api_Addr v_71 l_71 :: Ow.own 34 17 e_api_Addr v_72 l_72 :: Ow.own 34 17 e_api_Addr v_73 l_73 :: Ow.own 34 17 e_api_Addr v_74 l_74 :: Ow.own 34 17 e_api_Addr vr_1 r_2 :: Ow.box b_2 34 (e_api_Addr a).toArray :: Ow.box b_1 24 #[.bool r_0_1, vr_1_1, v_75] :: fr) h ∧ (SliceF F' h 17 e_api_Addr vs_On s_On) ∧ (SliceF F' h 17 e_api_Addr vs_Off s_Off) ∧ (SliceF F' h 17 e_api_Addr vl l) ∧ (SliceF F' h 17 e_api_Addr vr_1_1 r_1_1) ∧ (SliceF F' h 17 e_api_Addr v_75 l_75) ∧ (SliceF F' h 17 e_api_Addr v_76 l_76) ∧ (SliceF F' h 17 e_api_Addr v_77 l_77) ∧ (SliceF F' h 17 e_api_Addr v_78 l_78) ∧ (SliceF F' h 17 e_api_Addr v_79 l_79) ∧ (SliceF F' h 17 e_api_Addr v_80 l_80) ∧ filter_Turn_W b_55 l_80 l_70 (fun r_0_19 r_1_19 r_2_19 => law15_FilterLets_j1 a Q r_0_1 r_1_1 r_2 l_75 b_54 l_73 l_74 r_0_19 r_1_19 r_2_19)) ?_ (fun N_6 => ?_)
    · rintro ⟨F_46, l_70, l_71, l_72, l_73, l_74, l_75, l_76, l_77, b_53, l_78, b_54, l_79, b_55, l_80, b_52, v_70, v_71, v_72, v_73, v_74, v_75, v_76, v_77, v_78, v_79, v_80⟩ f_6 h_63 ⟨e0, e1, e2, e3, e4, e6, e8, e9, e10, e11, e12, e13, e14, e15, e16, e17, e18, e19, hK, hS, hL_s_On, hL_s_Off, hL_l, hL_1, hL_74, hL_75, hL_76, hL_77, hL_78, hL_79, hM⟩
      refine HA.fr [(0, .agg #[.bool s_Exclude, vs_On, vs_Off]), (1, .agg (e_api_Addr a).toArray), (2, vr_1), (3, .pointer (some ⟨b_1, 0, none⟩)), (4, .pointer (some ⟨b_2, 0, none⟩)), (6, .bool false), (8, .pointer (some ⟨b_52, 0, none⟩)), (9, .agg #[.bool s_Exclude, vs_On, vs_Off]), (10, .agg #[.bool r_0_1, vr_1_1, v_76]), (11, vl), (12, vr_1), (13, .agg #[.bool r_0_1, vr_1_1, v_77]), (14, .agg #[.bool b_53, v_78, v_71]), (15, vr_1), (16, v_72), (17, .agg #[.bool b_54, v_73, v_74]), (18, .agg #[.bool r_0_1, vr_1_1, v_79]), (19, .agg #[.bool b_55, v_80, v_70])] ⟨e0, e1, e2, e3, e4, e6, e8, e9, e10, e11, e12, e13, e14, e15, e16, e17, e18, e19, trivial⟩ ?_
      refine HA.two (k := 7) (k' := 8) ⟨⟨hL_s_On.is, hL_s_Off.is, hL_l.is, hL_1.is, hL_74.is, hL_75.is, hL_76.is, hL_77.is, hL_78.is, hL_79.is, (hS.own 1 rfl), (hS.own 2 rfl), (hS.own 3 rfl), (hS.own 4 rfl), (hS.own 5 rfl), (hS.own 6 rfl), (hS.box 7 rfl), (hS.box 8 rfl)⟩, (at_now (hS.box 0 rfl) (Go.Wk.at_nil _ _))⟩ (by kernel_rfl) ?_ ?_
      · replace hS : St F_46 (Ow.own 34 17 e_api_Addr v_70 l_70 :: Ow.box b_52 24 #[.bool false, .slice none 0 0, .slice none 0 0] :: Ow.own 34 17 e_api_Addr v_71 l_71 :: Ow.own 34 17 e_api_Addr v_72 l_72 :: Ow.own 34 17 e_api_Addr v_73 l_73 :: Ow.own 34 17 e_api_Addr v_74 l_74 :: Ow.own 34 17 e_api_Addr vr_1 r_2 :: Ow.box b_2 34 (e_api_Addr a).toArray :: Ow.box b_1 24 #[.bool r_0_1, vr_1_1, v_75] :: fr) h_63 := hS.perm2 [1, 0, 2, 3, 4, 5, 6, 7, 8] 9 rfl rfl
        have hZ_18 := hS
        have hkz_18 := (hS.freeze).2
        replace hS := hS.freeze.1
        have hL_113 : SliceF (fun b => F_46 b ∨ (Ow.own 34 17 e_api_Addr v_70 l_70).foot b) h_63 17 e_api_Addr v_70 l_70 := ⟨(hZ_18.own 0 rfl).slice, fun _ b hb => .inr hb⟩
        refine HS.call rfl (want_none) rfl (ec en_20 rfl rfl) (filter_Turn_walk (fr := (Ow.box b_52 24 #[.bool false, .slice none 0 0, .slice none 0 0] :: Ow.own 34 17 e_api_Addr v_71 l_71 :: Ow.own 34 17 e_api_Addr v_72 l_72 :: Ow.own 34 17 e_api_Addr v_73 l_73 :: Ow.own 34 17 e_api_Addr v_74 l_74 :: Ow.own 34 17 e_api_Addr vr_1 r_2 :: Ow.box b_2 34 (e_api_Addr a).toArray :: Ow.box b_1 24 #[.bool r_0_1, vr_1_1, v_75] :: fr)) b_55 l_80 l_70 v_80 v_70 hS (hL_79.kp hkz_18) hL_113 hM) ?_
        rintro _ h_64 ⟨F_47, r_0_19, r_1_19, r_2_19, vr_1_19, vr_2_19, rfl, hk, hS, _, _, hM⟩
        obtain ⟨hS, hk⟩ := hZ_18.back hk hS
        generalize (fun b => F_47 b ∧ ¬ (Ow.own 34 17 e_api_Addr v_70 l_70).foot b) = F_48 at hS hk
        replace hK := hK.trans hk
        replace hL_s_On := hL_s_On.kp hk
        replace hL_s_Off := hL_s_Off.kp hk
        replace hL_l := hL_l.kp hk
        replace hL_1 := hL_1.kp hk
        replace hL_74 := hL_74.kp hk
        replace hL_75 := hL_75.kp hk
        replace hL_76 := hL_76.kp hk
        replace hL_77 := hL_77.kp hk
        replace hL_78 := hL_78.kp hk
        replace hL_79 := hL_79.kp hk
        replace hS : St F_48 (Ow.box b_52 24 #[.bool false, .slice none 0 0, .slice none 0 0] :: Ow.own 34 17 e_api_Addr v_70 l_70 :: Ow.own 34 17 e_api_Addr vr_1_19 r_1_19 :: Ow.own 34 17 e_api_Addr vr_2_19 r_2_19 :: Ow.own 34 17 e_api_Addr v_71 l_71 :: Ow.own 34 17 e_api_Addr v_72 l_72 :: Ow.own 34 17 e_api_Addr v_73 l_73 :: Ow.own 34 17 e_api_Addr v_74 l_74 :: Ow.own 34 17 e_api_Addr vr_1 r_2 :: Ow.box b_2 34 (e_api_Addr a).toArray :: Ow.box b_1 24 #[.bool r_0_1, vr_1_1, v_75] :: fr) h_64 := hS.perm2 [3, 0, 1, 2, 4, 5, 6, 7, 8, 9, 10] 11 rfl rfl
        refine Go.Wk.HA.re (fun h => (SliceIs h 17 e_api_Addr vs_On s_On) ∧ (SliceIs h 17 e_api_Addr vs_Off s_Off) ∧ (SliceIs h 17 e_api_Addr vl l) ∧ (SliceIs h 17 e_api_Addr vr_1_1 r_1_1) ∧ (SliceIs h 17 e_api_Addr v_75 l_75) ∧ (SliceIs h 17 e_api_Addr v_76 l_76) ∧ (SliceIs h 17 e_api_Addr v_77 l_77) ∧ (SliceIs h 17 e_api_Addr v_78 l_78) ∧ (SliceIs h 17 e_api_Addr v_79 l_79) ∧ (SliceIs h 17 e_api_Addr v_80 l_80) ∧ (OwnIs h 0 34 17 e_api_Addr v_70 l_70) ∧ (OwnIs h 0 34 17 e_api_Addr vr_1_19 r_1_19) ∧ (OwnIs h 0 34 17 e_api_Addr vr_2_19 r_2_19) ∧ (OwnIs h 0 34 17 e_api_Addr v_71 l_71) ∧ (OwnIs h 0 34 17 e_api_Addr v_72 l_72) ∧ (OwnIs h 0 34 17 e_api_Addr v_73 l_73) ∧ (OwnIs h 0 34 17 e_api_Addr v_74 l_74) ∧ (OwnIs h 0 34 17 e_api_Addr vr_1 r_2) ∧ (Blk h b_2 (.cells (e_api_Addr a).toArray 34 (0, 0))) ∧ (Blk h b_1 (.cells #[.bool r_0_1, vr_1_1, v_75] 24 (0, 0)))) [(11, fun h => (Blk h b_52 (.cells #[.bool false, .slice none 0 0, .slice none 0 0] 24 (0, 0))))] (fun L_ h_ hL_ ⟨hL_s_On, hL_s_Off, hL_l, hL_1, hL_74, hL_75, hL_76, hL_77, hL_78, hL_79, c250, c256, c257, c220, c232, c238, c239, c204, c202, c201⟩ hs_ => ⟨⟨hL_s_On, hL_s_Off, hL_l, hL_1, hL_74, hL_75, hL_76, hL_77, hL_78, hL_79, c250, c220, c232, c238, c239, c204, c202, c201⟩, (at_keep 0 rfl hs_ (fun c268 => c268) (Go.Wk.at_nil _ _))⟩) ?_
        exact N_3 (F_48, l_70, r_1_19, r_2_19, l_71, l_72, l_73, l_74, l_75, l_76, l_77, b_53, l_78, b_54, l_79, b_55, l_80, r_0_19, b_52, v_70, vr_1_19, vr_2_19, v_71, v_72, v_73, v_74, v_75, v_76, v_77, v_78, v_79, v_80) _ _ ⟨rfl, rfl, rfl, rfl, rfl, rfl, rfl, rfl, rfl, rfl, rfl, rfl, rfl, rfl, rfl, rfl, rfl, rfl, rfl, hK, hS, hL_s_On, hL_s_Off, hL_l, hL_1, hL_74, hL_75, hL_76, hL_77, hL_78, hL_79, hM⟩
      · refine HS.eff rfl (want_none) rfl (st_alloc (c := #[.bool false, .slice none 0 0, .slice none 0 0]) hS tz_24 rfl) ?_
        rintro _ h_64 ⟨b_87, rfl, hS, hk⟩
        replace hK := hK.trans hk
        replace hL_s_On := hL_s_On.kp hk
        replace hL_s_Off := hL_s_Off.kp hk
        replace hL_l := hL_l.kp hk
        replace hL_1 := hL_1.kp hk
        replace hL_74 := hL_74.kp hk
        replace hL_75 := hL_75.kp hk
        replace hL_76 := hL_76.kp hk
        replace hL_77 := hL_77.kp hk
        replace hL_78 := hL_78.kp hk
        replace hL_79 := hL_79.kp hk
        replace hS : St F_46 (Ow.box b_52 24 #[.bool false, .slice none 0 0, .slice none 0 0] :: Ow.box b_87 24 #[.bool false, .slice none 0 0, .slice none 0 0] :: Ow.own 34 17 e_api_Addr v_70 l_70 :: Ow.own 34 17 e_api_Addr v_71 l_71 :: Ow.own 34 17 e_api_Addr v_72 l_72 :: Ow.own 34 17 e_api_Addr v_73 l_73 :: Ow.own 34 17 e_api_Addr v_74 l_74 :: Ow.own 34 17 e_api_Addr vr_1 r_2 :: Ow.box b_2 34 (e_api_Addr a).toArray :: Ow.box b_1 24 #[.bool r_0_1, vr_1_1, v_75] :: fr) h_64 := hS.perm2 [1, 0, 2, 3, 4, 5, 6, 7, 8, 9] 10 rfl rfl
        refine Go.Wk.HA.re (fun h => (SliceIs h 17 e_api_Addr vs_On s_On) ∧ (SliceIs h 17 e_api_Addr vs_Off s_Off) ∧ (SliceIs h 17 e_api_Addr vl l) ∧ (SliceIs h 17 e_api_Addr vr_1_1 r_1_1) ∧ (SliceIs h 17 e_api_Addr v_75 l_75) ∧ (SliceIs h 17 e_api_Addr v_76 l_76) ∧ (SliceIs h 17 e_api_Addr v_77 l_77) ∧ (SliceIs h 17 e_api_Addr v_78 l_78) ∧ (SliceIs h 17 e_api_Addr v_79 l_79) ∧ (SliceIs h 17 e_api_Addr v_80 l_80) ∧ (OwnIs h 0 34 17 e_api_Addr v_70 l_70) ∧ (OwnIs h 0 34 17 e_api_Addr v_71 l_71) ∧ (OwnIs h 0 34 17 e_api_Addr v_72 l_72) ∧ (OwnIs h 0 34 17 e_api_Addr v_73 l_73) ∧ (OwnIs h 0 34 17 e_api_Addr v_74 l_74) ∧ (OwnIs h 0 34 17 e_api_Addr vr_1 r_2) ∧ (Blk h b_2 (.cells (e_api_Addr a).toArray 34 (0, 0))) ∧ (Blk h b_1 (.cells #[.bool r_0_1, vr_1_1, v_75] 24 (0, 0)))) [(10, fun h => (Blk h b_87 (.cells #[.bool false, .slice none 0 0, .slice none 0 0] 24 (0, 0)))), (11, fun h => (Blk h b_52 (.cells #[.bool false, .slice none 0 0, .slice none 0 0] 24 (0, 0))))] (fun L_ h_ hL_ ⟨hL_s_On, hL_s_Off, hL_l, hL_1, hL_74, hL_75, hL_76, hL_77, hL_78, hL_79, c250, c220, c232, c238, c239, c204, c202, c201⟩ hs_ => ⟨⟨hL_s_On, hL_s_Off, hL_l, hL_1, hL_74, hL_75, hL_76, hL_77, hL_78, hL_79, c250, c220, c232, c238, c239, c204, c202, c201⟩, (at_keep 1 rfl hs_ (fun c268 => c268) (Go.Wk.at_nil _ _))⟩) ?_
        exact N_4 (F_46, l_70, l_71, l_72, l_73, l_74, l_75, l_76, l_77, b_53, l_78, b_54, l_79, b_55, l_80, b_52, b_87, v_70, v_71, v_72, v_73, v_74, v_75, v_76, v_77, v_78, v_79, v_80) _ _ ⟨rfl, rfl, rfl, rfl, rfl, rfl, rfl, rfl, rfl, rfl, rfl, rfl, rfl, rfl, rfl, rfl, rfl, rfl, rfl, hK, hS, hL_s_On, hL_s_Off, hL_l, hL_1, hL_74, hL_75, hL_76, hL_77, hL_78, hL_79, hM⟩
    refine HA.node (C1 := fun (i : Fz × (List T_api_Addr) × (List T_api_Addr) × (List T_api_Addr) × (List T_api_Addr) × (List T_api_Addr) × (List T_api_Addr) × (List T_api_Addr) × Bool × (List T_api_Addr) × Bool × (List T_api_Addr) × Nat × Nat × Value × Value × Value × Value × Value × Value × Value × Value × Value) => match i with | (F', l_81, l_82, l_83, l_84, l_85, l_86, l_87, b_59, l_88, b_60, l_89, b_57, b_58, v_81, v_82, v_83, v_84, v_85, v_86, v_87, v_88, v_89) => fun h => (SliceIs h 17 e_api_Addr vs_On s_On) ∧ (SliceIs h 17 e_api_Addr vs_Off s_Off) ∧ (SliceIs h 17 e_api_Addr vl l) ∧ (SliceIs h 17 e_api_Addr vr_1_1 r_1_1) ∧ (SliceIs h 17 e_api_Addr v_85 l_85) ∧ (SliceIs h 17 e_api_Addr v_86 l_86) ∧ (SliceIs h 17 e_api_Addr v_87 l_87) ∧ (SliceIs h 17 e_api_Addr v_88 l_88) ∧ (SliceIs h 17 e_api_Addr v_89 l_89) ∧ (OwnIs h 0 34 17 e_api_Addr v_81 l_81) ∧ (OwnIs h 0 34 17 e_api_Addr v_82 l_82) ∧ (OwnIs h 0 34 17 e_api_Addr v_83 l_83) ∧ (OwnIs h 0 34 17 e_api_Addr v_84 l_84) ∧ (OwnIs h 0 34 17 e_api_Addr vr_1 r_2) ∧ (Blk h b_2 (.cells (e_api_Addr a).toArray 34 (0, 0))) ∧ (Blk h b_1 (.cells #[.bool r_0_1, vr_1_1, v_85] 24 (0, 0)))) (cs1 := fun (i : Fz × (List T_api_Addr) × (List T_api_Addr) × (List T_api_Addr) × (List T_api_Addr) × (List T_api_Addr) × (List T_api_Addr) × (List T_api_Addr) × Bool × (List T_api_Addr) × Bool × (List T_api_Addr) × Nat × Nat × Value × Value × Value × Value × Value × Value × Value × Value × Value) => match i with | (F', l_81, l_82, l_83, l_84, l_85, l_86, l_87, b_59, l_88, b_60, l_89, b_57, b_58, v_81, v_82, v_83, v_84, v_85, v_86, v_87, v_88, v_89) => [(10, fun h => (Blk h b_58 (.cells #[.bool false, .slice none 0 0, .slice none 0 0] 24 (0, 0)))), (11, fun h => (Blk h b_57 (.cells #[.bool false, .slice none 0 0, .slice none 0 0] 24 (0, 0))))]) (fuel1 := 4) (listed1 := #[true, true, true, true, true, true, false, false, true, true, false, false]) (fun (i : Fz × (List T_api_Addr) × (List T_api_Addr) × (List T_api_Addr) × (List T_api_Addr) × (List T_api_Addr) × (List T_api_Addr) × (List T_api_Addr) × Bool × (List T_api_Addr) × Bool × (List T_api_Addr) × Nat × Nat × Value × Value × Value × Value × Value × Value × Value × Value × Value) f h => match i with | (F', l_81, l_82, l_83, l_84, l_85, l_86, l_87, b_59, l_88, b_60, l_89, b_57, b_58, v_81, v_82, v_83, v_84, v_85, v_86, v_87, v_88, v_89) => f 0 = .agg #[.bool s_Exclude, vs_On, vs_Off] ∧ f 1 = .agg (e_api_Addr a).toArray ∧ f 2 = vr_1 ∧ f 3 = .pointer (some ⟨b_1, 0, none⟩) ∧ f 4 = .pointer (some ⟨b_2, 0, none⟩) ∧ f 6 = .bool false ∧ f 7 = .pointer (some ⟨b_58, 0, none⟩) ∧ f 8 = .pointer (some ⟨b_57, 0, none⟩) ∧ f 9 = .agg #[.bool s_Exclude, vs_On, vs_Off] ∧ f 10 = .agg #[.bool r_0_1, vr_1_1, v_86] ∧ f 11 = vl ∧ f 12 = vr_1 ∧ f 13 = .agg #[.bool r_0_1, vr_1_1, v_87] ∧ f 14 = .agg #[.bool b_59, v_88, v_81] ∧ f 15 = vr_1 ∧ f 16 = v_82 ∧ f 17 = .agg #[.bool b_60, v_83, v_84] ∧ f 18 = .agg #[.bool r_0_1, vr_1_1, v_89] ∧ Kp F h0 F' h ∧ St F' (Ow.box b_57 24 #[.bool false, .slice none 0 0, .slice none 0 0] :: Ow.box b_58 24 #[.bool false, .slice none 0 0, .slice none 0 0] :: Ow.own 34 17 e_api_Addr v_81 l_81 :: Ow.own 34 17 e_api_Addr v_82 l_82 :: Ow.own 34 17 e_api_Addr v_83 l_83 :: Ow.own 34 17 e_api_Addr v_84 l_84 :: Ow.own 34 17 e_api_Addr vr_1 r_2 :: Ow.box b_2 34 (e_api_Addr a).toArray :: Ow.box b_1 24 #[.bool r_0_1, vr_1_1, v_85] :: fr) h ∧ (SliceF F' h 17 e_api_Addr vs_On s_On) ∧ (SliceF F' h 17 e_api_Addr vs_Off s_Off) ∧ (SliceF F' h 17 e_api_Addr vl l) ∧ (SliceF F' h 17 e_api_Addr vr_1_1 r_1_1) ∧ (SliceF F' h 17 e_api_Addr v_85 l_85) ∧ (SliceF F' h 17 e_api_Addr v_86 l_86) ∧ (SliceF F' h 17 e_api_Addr v_87 l_87) ∧ (SliceF F' h 17 e_api_Addr v_88 l_88) ∧ (SliceF F' h 17 e_api_Addr v_89 l_89) ∧ law15_Few_W r_0_1 r_1_1 l_89 (fun r_0_19 r_1_19 r_2_19 => filter_Turn_W r_0_19 r_1_19 r_2_19 (fun r_0_18 r_1_18 r_2_18 => law15_FilterLets_j1 a Q r_0_1 r_1_1 r_2 l_85 b_60 l_83 l_84 r_0_18 r_1_18 r_2_18))) ?_ (fun N_7 => ?_)
    · rintro ⟨F_47, l_81, l_82, l_83, l_84, l_85, l_86, l_87, b_59, l_88, b_60, l_89, b_57, b_58, v_81, v_82, v_83, v_84, v_85, v_86, v_87, v_88, v_89⟩ f_7 h_65 ⟨e0, e1, e2, e3, e4, e6, e7, e8, e9, e10, e11, e12, e13, e14, e15, e16, e17, e18, hK, hS, hL_s_On, hL_s_Off, hL_l, hL_1, hL_81, hL_82, hL_83, hL_84, hL_85, hM⟩
      refine HA.fr [(0, .agg #[.bool s_Exclude, vs_On, vs_Off]), (1, .agg (e_api_Addr a).toArray), (2, vr_1), (3, .pointer (some ⟨b_1, 0, none⟩)), (4, .pointer (some ⟨b_2, 0, none⟩)), (6, .bool false), (7, .pointer (some ⟨b_58, 0, none⟩)), (8, .pointer (some ⟨b_57, 0, none⟩)), (9, .agg #[.bool s_Exclude, vs_On, vs_Off]), (10, .agg #[.bool r_0_1, vr_1_1, v_86]), (11, vl), (12, vr_1), (13, .agg #[.bool r_0_1, vr_1_1, v_87]), (14, .agg #[.bool b_59, v_88, v_81]), (15, vr_1), (16, v_82), (17, .agg #[.bool b_60, v_83, v_84]), (18, .agg #[.bool r_0_1, vr_1_1, v_89])] ⟨e0, e1, e2, e3, e4, e6, e7, e8, e9, e10, e11, e12, e13, e14, e15, e16, e17, e18, trivial⟩ ?_
      refine HA.one (k := 6) ⟨⟨hL_s_On.is, hL_s_Off.is, hL_l.is, hL_1.is, hL_81.is, hL_82.is, hL_83.is, hL_84.is, hL_85.is, (hS.own 2 rfl), (hS.own 3 rfl), (hS.own 4 rfl), (hS.own 5 rfl), (hS.own 6 rfl), (hS.box 7 rfl), (hS.box 8 rfl)⟩, (at_now (hS.box 1 rfl) (at_now (hS.box 0 rfl) (Go.Wk.at_nil _ _)))⟩ (by kernel_rfl) ?_
      refine HS.call rfl (want_none) rfl (ec en_7 rfl rfl) (law15_Few_walk (fr := (Ow.box b_57 24 #[.bool false, .slice none 0 0, .slice none 0 0] :: Ow.box b_58 24 #[.bool false, .slice none 0 0, .slice none 0 0] :: Ow.own 34 17 e_api_Addr v_81 l_81 :: Ow.own 34 17 e_api_Addr v_82 l_82 :: Ow.own 34 17 e_api_Addr v_83 l_83 :: Ow.own 34 17 e_api_Addr v_84 l_84 :: Ow.own 34 17 e_api_Addr vr_1 r_2 :: Ow.box b_2 34 (e_api_Addr a).toArray :: Ow.box b_1 24 #[.bool r_0_1, vr_1_1, v_85] :: fr)) r_0_1 r_1_1 l_89 vr_1_1 v_89 hS hL_1 hL_85 hM) ?_
      rintro _ h_66 ⟨F_48, r_0_19, r_1_19, r_2_19, vr_1_19, vr_2_19, rfl, hk, hS, _, _, hL_113, hM⟩
      replace hK := hK.trans hk
      replace hL_s_On := hL_s_On.kp hk
      replace hL_s_Off := hL_s_Off.kp hk
      replace hL_l := hL_l.kp hk
      replace hL_1 := hL_1.kp hk
      replace hL_81 := hL_81.kp hk
      replace hL_82 := hL_82.kp hk
      replace hL_83 := hL_83.kp hk
      replace hL_84 := hL_84.kp hk
      replace hL_85 := hL_85.kp hk
      replace hS : St F_48 (Ow.box b_57 24 #[.bool false, .slice none 0 0, .slice none 0 0] :: Ow.box b_58 24 #[.bool false, .slice none 0 0, .slice none 0 0] :: Ow.own 34 17 e_api_Addr vr_2_19 r_2_19 :: Ow.own 34 17 e_api_Addr v_81 l_81 :: Ow.own 34 17 e_api_Addr v_82 l_82 :: Ow.own 34 17 e_api_Addr v_83 l_83 :: Ow.own 34 17 e_api_Addr v_84 l_84 :: Ow.own 34 17 e_api_Addr vr_1 r_2 :: Ow.box b_2 34 (e_api_Addr a).toArray :: Ow.box b_1 24 #[.bool r_0_1, vr_1_1, v_85] :: fr) h_66 := hS.perm2 [1, 2, 0, 3, 4, 5, 6, 7, 8, 9] 10 rfl rfl
      refine Go.Wk.HA.re (fun h => (SliceIs h 17 e_api_Addr vs_On s_On) ∧ (SliceIs h 17 e_api_Addr vs_Off s_Off) ∧ (SliceIs h 17 e_api_Addr vl l) ∧ (SliceIs h 17 e_api_Addr vr_1_1 r_1_1) ∧ (SliceIs h 17 e_api_Addr v_85 l_85) ∧ (SliceIs h 17 e_api_Addr v_86 l_86) ∧ (SliceIs h 17 e_api_Addr v_87 l_87) ∧ (SliceIs h 17 e_api_Addr v_88 l_88) ∧ (SliceIs h 17 e_api_Addr v_89 l_89) ∧ (SliceIs h 17 e_api_Addr vr_1_19 r_1_19) ∧ (OwnIs h 0 34 17 e_api_Addr vr_2_19 r_2_19) ∧ (OwnIs h 0 34 17 e_api_Addr v_81 l_81) ∧ (OwnIs h 0 34 17 e_api_Addr v_82 l_82) ∧ (OwnIs h 0 34 17 e_api_Addr v_83 l_83) ∧ (OwnIs h 0 34 17 e_api_Addr v_84 l_84) ∧ (OwnIs h 0 34 17 e_api_Addr vr_1 r_2) ∧ (Blk h b_2 (.cells (e_api_Addr a).toArray 34 (0, 0))) ∧ (Blk h b_1 (.cells #[.bool r_0_1, vr_1_1, v_85] 24 (0, 0)))) [(10, fun h => (Blk h b_58 (.cells #[.bool false, .slice none 0 0, .slice none 0 0] 24 (0, 0)))), (11, fun h => (Blk h b_57 (.cells #[.bool false, .slice none 0 0, .slice none 0 0] 24 (0, 0))))] (fun L_ h_ hL_ ⟨hL_s_On, hL_s_Off, hL_l, hL_1, hL_81, hL_82, hL_83, hL_84, hL_85, hL_113, c250, c220, c232, c238, c239, c204, c202, c201⟩ hs_ => ⟨⟨hL_s_On, hL_s_Off, hL_l, hL_1, hL_81, hL_82, hL_83, hL_84, hL_85, c220, c232, c238, c239, c204, c202, c201⟩, (at_keep 0 rfl hs_ (fun c262 => c262) (at_keep 1 rfl hs_ (fun c268 => c268) (Go.Wk.at_nil _ _)))⟩) ?_
      exact N_4 (F_48, r_2_19, l_81, l_82, l_83, l_84, l_85, l_86, l_87, b_59, l_88, b_60, l_89, r_0_19, r_1_19, b_57, b_58, vr_2_19, v_81, v_82, v_83, v_84, v_85, v_86, v_87, v_88, v_89, vr_1_19) _ _ ⟨rfl, rfl, rfl, rfl, rfl, rfl, rfl, rfl, rfl, rfl, rfl, rfl, rfl, rfl, rfl, rfl, rfl, rfl, rfl, hK, hS, hL_s_On, hL_s_Off, hL_l, hL_1, hL_81, hL_82, hL_83, hL_84, hL_85, hL_113, hM⟩
    refine HA.node (C1 := fun (i : Fz × (List T_api_Addr) × (List T_api_Addr) × (List T_api_Addr) × (List T_api_Addr) × (List T_api_Addr) × (List T_api_Addr) × (List T_api_Addr) × Bool × (List T_api_Addr) × Bool × (List T_api_Addr) × Nat × Value × Value × Value × Value × Value × Value × Value × Value × Value) => match i with | (F', l_34, l_35, l_36, l_37, l_38, l_39, l_40, b_35, l_41, b_36, l_42, b_34, v_34, v_35, v_36, v_37, v_38, v_39, v_40, v_41, v_42) => fun h => (SliceIs h 17 e_api_Addr vs_On s_On) ∧ (SliceIs h 17 e_api_Addr vs_Off s_Off) ∧ (SliceIs h 17 e_api_Addr vl l) ∧ (SliceIs h 17 e_api_Addr vr_1_1 r_1_1) ∧ (SliceIs h 17 e_api_Addr v_38 l_38) ∧ (SliceIs h 17 e_api_Addr v_39 l_39) ∧ (SliceIs h 17 e_api_Addr v_40 l_40) ∧ (SliceIs h 17 e_api_Addr v_41 l_41) ∧ (SliceIs h 17 e_api_Addr v_42 l_42) ∧ (OwnIs h 0 34 17 e_api_Addr v_34 l_34) ∧ (OwnIs h 0 34 17 e_api_Addr v_35 l_35) ∧ (OwnIs h 0 34 17 e_api_Addr v_36 l_36) ∧ (OwnIs h 0 34 17 e_api_Addr v_37 l_37) ∧ (OwnIs h 0 34 17 e_api_Addr vr_1 r_2) ∧ (Blk h b_2 (.cells (e_api_Addr a).toArray 34 (0, 0))) ∧ (Blk h b_1 (.cells #[.bool r_0_1, vr_1_1, v_38] 24 (0, 0)))) (cs1 := fun (i : Fz × (List T_api_Addr) × (List T_api_Addr) × (List T_api_Addr) × (List T_api_Addr) × (List T_api_Addr) × (List T_api_Addr) × (List T_api_Addr) × Bool × (List T_api_Addr) × Bool × (List T_api_Addr) × Nat × Value × Value × Value × Value × Value × Value × Value × Value × Value) => match i with | (F', l_34, l_35, l_36, l_37, l_38, l_39, l_40, b_35, l_41, b_36, l_42, b_34, v_34, v_35, v_36, v_37, v_38, v_39, v_40, v_41, v_42) => [(10, fun h => (Blk h b_34 (.cells #[.bool false, .slice none 0 0, .slice none 0 0] 24 (0, 0))))]) (fuel1 := 5) (listed1 := #[true, true, true, true, true, true, false, false, true, false, false, false]) (fun (i : Fz × (List T_api_Addr) × (List T_api_Addr) × (List T_api_Addr) × (List T_api_Addr) × (List T_api_Addr) × (List T_api_Addr) × (List T_api_Addr) × Bool × (List T_api_Addr) × Bool × (List T_api_Addr) × Nat × Value × Value × Value × Value × Value × Value × Value × Value × Value) f h => match i with | (F', l_34, l_35, l_36, l_37, l_38, l_39, l_40, b_35, l_41, b_36, l_42, b_34, v_34, v_35, v_36, v_37, v_38, v_39, v_40, v_41, v_42) => f 0 = .agg #[.bool s_Exclude, vs_On, vs_Off] ∧ f 1 = .agg (e_api_Addr a).toArray ∧ f 2 = vr_1 ∧ f 3 = .pointer (some ⟨b_1, 0, none⟩) ∧ f 4 = .pointer (some ⟨b_2, 0, none⟩) ∧ f 6 = .bool false ∧ f 7 = .pointer (some ⟨b_34, 0, none⟩) ∧ f 9 = .agg #[.bool s_Exclude, vs_On, vs_Off] ∧ f 10 = .agg #[.bool r_0_1, vr_1_1, v_39] ∧ f 11 = vl ∧ f 12 = vr_1 ∧ f 13 = .agg #[.bool r_0_1, vr_1_1, v_40] ∧ f 14 = .agg #[.bool b_35, v_41, v_34] ∧ f 15 = vr_1 ∧ f 16 = v_35 ∧ f 17 = .agg #[.bool b_36, v_36, v_37] ∧ f 18 = .agg #[.bool r_0_1, vr_1_1, v_42] ∧ Kp F h0 F' h ∧ St F' (Ow.box b_34 24 #[.bool false, .slice none 0 0, .slice none 0 0] :: Ow.own 34 17 e_api_Addr v_34 l_34 :: Ow.own 34 17 e_api_Addr v_35 l_35 :: Ow.own 34 17 e_api_Addr v_36 l_36 :: Ow.own 34 17 e_api_Addr v_37 l_37 :: Ow.own 34 17 e_api_Addr vr_1 r_2 :: Ow.box b_2 34 (e_api_Addr a).toArray :: Ow.box b_1 24 #[.bool r_0_1, vr_1_1, v_38] :: fr) h ∧ (SliceF F' h 17 e_api_Addr vs_On s_On) ∧ (SliceF F' h 17 e_api_Addr vs_Off s_Off) ∧ (SliceF F' h 17 e_api_Addr vl l) ∧ (SliceF F' h 17 e_api_Addr vr_1_1 r_1_1) ∧ (SliceF F' h 17 e_api_Addr v_38 l_38) ∧ (SliceF F' h 17 e_api_Addr v_39 l_39) ∧ (SliceF F' h 17 e_api_Addr v_40 l_40) ∧ (SliceF F' h 17 e_api_Addr v_41 l_41) ∧ (SliceF F' h 17 e_api_Addr v_42 l_42) ∧ law15_Few_W r_0_1 r_1_1 l_42 (fun r_0_20 r_1_20 r_2_20 => filter_Turn_W r_0_20 r_1_20 r_2_20 (fun r_0_19 r_1_19 r_2_19 => law15_FilterLets_j1 a Q r_0_1 r_1_1 r_2 l_38 b_36 l_36 l_37 r_0_19 r_1_19 r_2_19))) ?_ (fun N_8 => ?_)
    · rintro ⟨F_49, l_34, l_35, l_36, l_37, l_38, l_39, l_40, b_35, l_41, b_36, l_42, b_34, v_34, v_35, v_36, v_37, v_38, v_39, v_40, v_41, v_42⟩ f_8 h_67 ⟨e0, e1, e2, e3, e4, e6, e7, e9, e10, e11, e12, e13, e14, e15, e16, e17, e18, hK, hS, hL_s_On, hL_s_Off, hL_l, hL_1, hL_48, hL_49, hL_50, hL_51, hL_52, hM⟩
      refine HA.fr [(0, .agg #[.bool s_Exclude, vs_On, vs_Off]), (1, .agg (e_api_Addr a).toArray), (2, vr_1), (3, .pointer (some ⟨b_1, 0, none⟩)), (4, .pointer (some ⟨b_2, 0, none⟩)), (6, .bool false), (7, .pointer (some ⟨b_34, 0, none⟩)), (9, .agg #[.bool s_Exclude, vs_On, vs_Off]), (10, .agg #[.bool r_0_1, vr_1_1, v_39]), (11, vl), (12, vr_1), (13, .agg #[.bool r_0_1, vr_1_1, v_40]), (14, .agg #[.bool b_35, v_41, v_34]), (15, vr_1), (16, v_35), (17, .agg #[.bool b_36, v_36, v_37]), (18, .agg #[.bool r_0_1, vr_1_1, v_42])] ⟨e0, e1, e2, e3, e4, e6, e7, e9, e10, e11, e12, e13, e14, e15, e16, e17, e18, trivial⟩ ?_
      refine HA.two (k := 6) (k' := 9) ⟨⟨hL_s_On.is, hL_s_Off.is, hL_l.is, hL_1.is, hL_48.is, hL_49.is, hL_50.is, hL_51.is, hL_52.is, (hS.own 1 rfl), (hS.own 2 rfl), (hS.own 3 rfl), (hS.own 4 rfl), (hS.own 5 rfl), (hS.box 6 rfl), (hS.box 7 rfl)⟩, (at_now (hS.box 0 rfl) (Go.Wk.at_nil _ _))⟩ (by kernel_rfl) ?_ ?_
      · refine HS.call rfl (want_none) rfl (ec en_7 rfl rfl) (law15_Few_walk (fr := (Ow.box b_34 24 #[.bool false, .slice none 0 0, .slice none 0 0] :: Ow.own 34 17 e_api_Addr v_34 l_34 :: Ow.own 34 17 e_api_Addr v_35 l_35 :: Ow.own 34 17 e_api_Addr v_36 l_36 :: Ow.own 34 17 e_api_Addr v_37 l_37 :: Ow.own 34 17 e_api_Addr vr_1 r_2 :: Ow.box b_2 34 (e_api_Addr a).toArray :: Ow.box b_1 24 #[.bool r_0_1, vr_1_1, v_38] :: fr)) r_0_1 r_1_1 l_42 vr_1_1 v_42 hS hL_1 hL_52 hM) ?_
        rintro _ h_68 ⟨F_50, r_0_20, r_1_20, r_2_20, vr_1_20, vr_2_20, rfl, hk, hS, _, _, hL_114, hM⟩
        replace hK := hK.trans hk
        replace hL_s_On := hL_s_On.kp hk
        replace hL_s_Off := hL_s_Off.kp hk
        replace hL_l := hL_l.kp hk
        replace hL_1 := hL_1.kp hk
        replace hL_48 := hL_48.kp hk
        replace hL_49 := hL_49.kp hk
        replace hL_50 := hL_50.kp hk
        replace hL_51 := hL_51.kp hk
        replace hL_52 := hL_52.kp hk
        replace hS : St F_50 (Ow.box b_34 24 #[.bool false, .slice none 0 0, .slice none 0 0] :: Ow.own 34 17 e_api_Addr vr_2_20 r_2_20 :: Ow.own 34 17 e_api_Addr v_34 l_34 :: Ow.own 34 17 e_api_Addr v_35 l_35 :: Ow.own 34 17 e_api_Addr v_36 l_36 :: Ow.own 34 17 e_api_Addr v_37 l_37 :: Ow.own 34 17 e_api_Addr vr_1 r_2 :: Ow.box b_2 34 (e_api_Addr a).toArray :: Ow.box b_1 24 #[.bool r_0_1, vr_1_1, v_38] :: fr) h_68 := hS.perm2 [1, 0, 2, 3, 4, 5, 6, 7, 8] 9 rfl rfl
        refine Go.Wk.HA.re (fun h => (SliceIs h 17 e_api_Addr vs_On s_On) ∧ (SliceIs h 17 e_api_Addr vs_Off s_Off) ∧ (SliceIs h 17 e_api_Addr vl l) ∧ (SliceIs h 17 e_api_Addr vr_1_1 r_1_1) ∧ (SliceIs h 17 e_api_Addr v_38 l_38) ∧ (SliceIs h 17 e_api_Addr v_39 l_39) ∧ (SliceIs h 17 e_api_Addr v_40 l_40) ∧ (SliceIs h 17 e_api_Addr v_41 l_41) ∧ (SliceIs h 17 e_api_Addr v_42 l_42) ∧ (SliceIs h 17 e_api_Addr vr_1_20 r_1_20) ∧ (OwnIs h 0 34 17 e_api_Addr vr_2_20 r_2_20) ∧ (OwnIs h 0 34 17 e_api_Addr v_34 l_34) ∧ (OwnIs h 0 34 17 e_api_Addr v_35 l_35) ∧ (OwnIs h 0 34 17 e_api_Addr v_36 l_36) ∧ (OwnIs h 0 34 17 e_api_Addr v_37 l_37) ∧ (OwnIs h 0 34 17 e_api_Addr vr_1 r_2) ∧ (Blk h b_2 (.cells (e_api_Addr a).toArray 34 (0, 0))) ∧ (Blk h b_1 (.cells #[.bool r_0_1, vr_1_1, v_38] 24 (0, 0)))) [(10, fun h => (Blk h b_34 (.cells #[.bool false, .slice none 0 0, .slice none 0 0] 24 (0, 0))))] (fun L_ h_ hL_ ⟨hL_s_On, hL_s_Off, hL_l, hL_1, hL_48, hL_49, hL_50, hL_51, hL_52, hL_114, c250, c220, c232, c238, c239, c204, c202, c201⟩ hs_ => ⟨⟨hL_s_On, hL_s_Off, hL_l, hL_1, hL_48, hL_49, hL_50, hL_51, hL_52, c220, c232, c238, c239, c204, c202, c201⟩, (at_keep 0 rfl hs_ (fun c262 => c262) (Go.Wk.at_nil _ _))⟩) ?_
        exact N_5 (F_50, r_2_20, l_34, l_35, l_36, l_37, l_38, l_39, l_40, b_35, l_41, b_36, l_42, r_0_20, r_1_20, b_34, vr_2_20, v_34, v_35, v_36, v_37, v_38, v_39, v_40, v_41, v_42, vr_1_20) _ _ ⟨rfl, rfl, rfl, rfl, rfl, rfl, rfl, rfl, rfl, rfl, rfl, rfl, rfl, rfl, rfl, rfl, rfl, rfl, hK, hS, hL_s_On, hL_s_Off, hL_l, hL_1, hL_48, hL_49, hL_50, hL_51, hL_52, hL_114, hM⟩
      · refine HS.eff rfl (want_none) rfl (st_alloc (c := #[.bool false, .slice none 0 0, .slice none 0 0]) hS tz_24 rfl) ?_
        rintro _ h_68 ⟨b_88, rfl, hS, hk⟩
        replace hK := hK.trans hk
        replace hL_s_On := hL_s_On.kp hk
        replace hL_s_Off := hL_s_Off.kp hk
        replace hL_l := hL_l.kp hk
        replace hL_1 := hL_1.kp hk
        replace hL_48 := hL_48.kp hk
        replace hL_49 := hL_49.kp hk
        replace hL_50 := hL_50.kp hk
        replace hL_51 := hL_51.kp hk
        replace hL_52 := hL_52.kp hk
        refine Go.Wk.HA.re (fun h => (SliceIs h 17 e_api_Addr vs_On s_On) ∧ (SliceIs h 17 e_api_Addr vs_Off s_Off) ∧ (SliceIs h 17 e_api_Addr vl l) ∧ (SliceIs h 17 e_api_Addr vr_1_1 r_1_1) ∧ (SliceIs h 17 e_api_Addr v_38 l_38) ∧ (SliceIs h 17 e_api_Addr v_39 l_39) ∧ (SliceIs h 17 e_api_Addr v_40 l_40) ∧ (SliceIs h 17 e_api_Addr v_41 l_41) ∧ (SliceIs h 17 e_api_Addr v_42 l_42) ∧ (OwnIs h 0 34 17 e_api_Addr v_34 l_34) ∧ (OwnIs h 0 34 17 e_api_Addr v_35 l_35) ∧ (OwnIs h 0 34 17 e_api_Addr v_36 l_36) ∧ (OwnIs h 0 34 17 e_api_Addr v_37 l_37) ∧ (OwnIs h 0 34 17 e_api_Addr vr_1 r_2) ∧ (Blk h b_2 (.cells (e_api_Addr a).toArray 34 (0, 0))) ∧ (Blk h b_1 (.cells #[.bool r_0_1, vr_1_1, v_38] 24 (0, 0)))) [(10, fun h => (Blk h b_34 (.cells #[.bool false, .slice none 0 0, .slice none 0 0] 24 (0, 0)))), (11, fun h => (Blk h b_88 (.cells #[.bool false, .slice none 0 0, .slice none 0 0] 24 (0, 0))))] (fun L_ h_ hL_ ⟨hL_s_On, hL_s_Off, hL_l, hL_1, hL_48, hL_49, hL_50, hL_51, hL_52, c220, c232, c238, c239, c204, c202, c201⟩ hs_ => ⟨⟨hL_s_On, hL_s_Off, hL_l, hL_1, hL_48, hL_49, hL_50, hL_51, hL_52, c220, c232, c238, c239, c204, c202, c201⟩, (at_keep 0 rfl hs_ (fun c262 => c262) (Go.Wk.at_nil _ _))⟩) ?_
        exact N_7 (F_49, l_34, l_35, l_36, l_37, l_38, l_39, l_40, b_35, l_41, b_36, l_42, b_88, b_34, v_34, v_35, v_36, v_37, v_38, v_39, v_40, v_41, v_42) _ _ ⟨rfl, rfl, rfl, rfl, rfl, rfl, rfl, rfl, rfl, rfl, rfl, rfl, rfl, rfl, rfl, rfl, rfl, rfl, hK, hS, hL_s_On, hL_s_Off, hL_l, hL_1, hL_48, hL_49, hL_50, hL_51, hL_52, hM⟩
    refine HA.node (C1 := fun (i : Fz × (List T_api_Addr) × (List T_api_Addr) × (List T_api_Addr) × (List T_api_Addr) × (List T_api_Addr) × (List T_api_Addr) × (List T_api_Addr) × Bool × (List T_api_Addr) × Bool × (List T_api_Addr) × Nat × Value × Value × Value × Value × Value × Value × Value × Value × Value) => match i with | (F', l_43, l_44, l_45, l_46, l_47, l_48, l_49, b_39, l_50, b_40, l_51, b_38, v_43, v_44, v_45, v_46, v_47, v_48, v_49, v_50, v_51) => fun h => (SliceIs h 17 e_api_Addr vs_On s_On) ∧ (SliceIs h 17 e_api_Addr vs_Off s_Off) ∧ (SliceIs h 17 e_api_Addr vl l) ∧ (SliceIs h 17 e_api_Addr vr_1_1 r_1_1) ∧ (SliceIs h 17 e_api_Addr v_47 l_47) ∧ (SliceIs h 17 e_api_Addr v_48 l_48) ∧ (SliceIs h 17 e_api_Addr v_49 l_49) ∧ (SliceIs h 17 e_api_Addr v_50 l_50) ∧ (SliceIs h 17 e_api_Addr v_51 l_51) ∧ (OwnIs h 0 34 17 e_api_Addr v_43 l_43) ∧ (OwnIs h 0 34 17 e_api_Addr v_44 l_44) ∧ (OwnIs h 0 34 17 e_api_Addr v_45 l_45) ∧ (OwnIs h 0 34 17 e_api_Addr v_46 l_46) ∧ (OwnIs h 0 34 17 e_api_Addr vr_1 r_2) ∧ (Blk h b_2 (.cells (e_api_Addr a).toArray 34 (0, 0))) ∧ (Blk h b_1 (.cells #[.bool r_0_1, vr_1_1, v_47] 24 (0, 0)))) (cs1 := fun (i : Fz × (List T_api_Addr) × (List T_api_Addr) × (List T_api_Addr) × (List T_api_Addr) × (List T_api_Addr) × (List T_api_Addr) × (List T_api_Addr) × Bool × (List T_api_Addr) × Bool × (List T_api_Addr) × Nat × Value × Value × Value × Value × Value × Value × Value × Value × Value) => match i with | (F', l_43, l_44, l_45, l_46, l_47, l_48, l_49, b_39, l_50, b_40, l_51, b_38, v_43, v_44, v_45, v_46, v_47, v_48, v_49, v_50, v_51) => [(11, fun h => (Blk h b_38 (.cells #[.bool false, .slice none 0 0, .slice none 0 0] 24 (0, 0))))]) (fuel1 := 5) (listed1 := #[true, true, true, true, true, true, false, false, false, true, false, false]) (fun (i : Fz × (List T_api_Addr) × (List T_api_Addr) × (List T_api_Addr) × (List T_api_Addr) × (List T_api_Addr) × (List T_api_Addr) × (List T_api_Addr) × Bool × (List T_api_Addr) × Bool × (List T_api_Addr) × Nat × Value × Value × Value × Value × Value × Value × Value × Value × Value) f h => match i with | (F', l_43, l_44, l_45, l_46, l_47, l_48, l_49, b_39, l_50, b_40, l_51, b_38, v_43, v_44, v_45, v_46, v_47, v_48, v_49, v_50, v_51) => f 0 = .agg #[.bool s_Exclude, vs_On, vs_Off] ∧ f 1 = .agg (e_api_Addr a).toArray ∧ f 2 = vr_1 ∧ f 3 = .pointer (some ⟨b_1, 0, none⟩) ∧ f 4 = .pointer (some ⟨b_2, 0, none⟩) ∧ f 6 = .bool false ∧ f 8 = .pointer (some ⟨b_38, 0, none⟩) ∧ f 9 = .agg #[.bool s_Exclude, vs_On, vs_Off] ∧ f 10 = .agg #[.bool r_0_1, vr_1_1, v_48] ∧ f 11 = vl ∧ f 12 = vr_1 ∧ f 13 = .agg #[.bool r_0_1, vr_1_1, v_49] ∧ f 14 = .agg #[.bool b_39, v_50, v_43] ∧ f 15 = vr_1 ∧ f 16 = v_44 ∧ f 17 = .agg #[.bool b_40, v_45, v_46] ∧ f 18 = .agg #[.bool r_0_1, vr_1_1, v_51] ∧ Kp F h0 F' h ∧ St F' (Ow.box b_38 24 #[.bool false, .slice none 0 0, .slice none 0 0] :: Ow.own 34 17 e_api_Addr v_43 l_43 :: Ow.own 34 17 e_api_Addr v_44 l_44 :: Ow.own 34 17 e_api_Addr v_45 l_45 :: Ow.own 34 17 e_api_Addr v_46 l_46 :: Ow.own 34 17 e_api_Addr vr_1 r_2 :: Ow.box b_2 34 (e_api_Addr a).toArray :: Ow.box b_1 24 #[.bool r_0_1, vr_1_1, v_47] :: fr) h ∧ (SliceF F' h 17 e_api_Addr vs_On s_On) ∧ (SliceF F' h 17 e_api_Addr vs_Off s_Off) ∧ (SliceF F' h 17 e_api_Addr vl l) ∧ (SliceF F' h 17 e_api_Addr vr_1_1 r_1_1) ∧ (SliceF F' h 17 e_api_Addr v_47 l_47) ∧ (SliceF F' h 17 e_api_Addr v_48 l_48) ∧ (SliceF F' h 17 e_api_Addr v_49 l_49) ∧ (SliceF F' h 17 e_api_Addr v_50 l_50) ∧ (SliceF F' h 17 e_api_Addr v_51 l_51) ∧ law15_Few_W r_0_1 r_1_1 l_51 (fun r_0_20 r_1_20 r_2_20 => filter_Turn_W r_0_20 r_1_20 r_2_20 (fun r_0_19 r_1_19 r_2_19 => law15_FilterLets_j1 a Q r_0_1 r_1_1 r_2 l_47 b_40 l_45 l_46 r_0_19 r_1_19 r_2_19))) ?_ (fun N_9 => ?_)
    · rintro ⟨F_50, l_43, l_44, l_45, l_46, l_47, l_48, l_49, b_39, l_50, b_40, l_51, b_38, v_43, v_44, v_45, v_46, v_47, v_48, v_49, v_50, v_51⟩ f_9 h_69 ⟨e0, e1, e2, e3, e4, e6, e8, e9, e10, e11, e12, e13, e14, e15, e16, e17, e18, hK, hS, hL_s_On, hL_s_Off, hL_l, hL_1, hL_54, hL_55, hL_56, hL_57, hL_58, hM⟩
      refine HA.fr [(0, .agg #[.bool s_Exclude, vs_On, vs_Off]), (1, .agg (e_api_Addr a).toArray), (2, vr_1), (3, .pointer (some ⟨b_1, 0, none⟩)), (4, .pointer (some ⟨b_2, 0, none⟩)), (6, .bool false), (8, .pointer (some ⟨b_38, 0, none⟩)), (9, .agg #[.bool s_Exclude, vs_On, vs_Off]), (10, .agg #[.bool r_0_1, vr_1_1, v_48]), (11, vl), (12, vr_1), (13, .agg #[.bool r_0_1, vr_1_1, v_49]), (14, .agg #[.bool b_39, v_50, v_43]), (15, vr_1), (16, v_44), (17, .agg #[.bool b_40, v_45, v_46]), (18, .agg #[.bool r_0_1, vr_1_1, v_51])] ⟨e0, e1, e2, e3, e4, e6, e8, e9, e10, e11, e12, e13, e14, e15, e16, e17, e18, trivial⟩ ?_
      refine HA.two (k := 6) (k' := 8) ⟨⟨hL_s_On.is, hL_s_Off.is, hL_l.is, hL_1.is, hL_54.is, hL_55.is, hL_56.is, hL_57.is, hL_58.is, (hS.own 1 rfl), (hS.own 2 rfl), (hS.own 3 rfl), (hS.own 4 rfl), (hS.own 5 rfl), (hS.box 6 rfl), (hS.box 7 rfl)⟩, (at_now (hS.box 0 rfl) (Go.Wk.at_nil _ _))⟩ (by kernel_rfl) ?_ ?_
      · refine HS.call rfl (want_none) rfl (ec en_7 rfl rfl) (law15_Few_walk (fr := (Ow.box b_38 24 #[.bool false, .slice none 0 0, .slice none 0 0] :: Ow.own 34 17 e_api_Addr v_43 l_43 :: Ow.own 34 17 e_api_Addr v_44 l_44 :: Ow.own 34 17 e_api_Addr v_45 l_45 :: Ow.own 34 17 e_api_Addr v_46 l_46 :: Ow.own 34 17 e_api_Addr vr_1 r_2 :: Ow.box b_2 34 (e_api_Addr a).toArray :: Ow.box b_1 24 #[.bool r_0_1, vr_1_1, v_47] :: fr)) r_0_1 r_1_1 l_51 vr_1_1 v_51 hS hL_1 hL_58 hM) ?_
        rintro _ h_70 ⟨F_51, r_0_20, r_1_20, r_2_20, vr_1_20, vr_2_20, rfl, hk, hS, _, _, hL_114, hM⟩
        replace hK := hK.trans hk
        replace hL_s_On := hL_s_On.kp hk
        replace hL_s_Off := hL_s_Off.kp hk
        replace hL_l := hL_l.kp hk
        replace hL_1 := hL_1.kp hk
        replace hL_54 := hL_54.kp hk
        replace hL_55 := hL_55.kp hk
        replace hL_56 := hL_56.kp hk
        replace hL_57 := hL_57.kp hk
        replace hL_58 := hL_58.kp hk
        replace hS : St F_51 (Ow.box b_38 24 #[.bool false, .slice none 0 0, .slice none 0 0] :: Ow.own 34 17 e_api_Addr vr_2_20 r_2_20 :: Ow.own 34 17 e_api_Addr v_43 l_43 :: Ow.own 34 17 e_api_Addr v_44 l_44 :: Ow.own 34 17 e_api_Addr v_45 l_45 :: Ow.own 34 17 e_api_Addr v_46 l_46 :: Ow.own 34 17 e_api_Addr vr_1 r_2 :: Ow.box b_2 34 (e_api_Addr a).toArray :: Ow.box b_1 24 #[.bool r_0_1, vr_1_1, v_47] :: fr) h_70 := hS.perm2 [1, 0, 2, 3, 4, 5, 6, 7, 8] 9 rfl rfl
        refine Go.Wk.HA.re (fun h => (SliceIs h 17 e_api_Addr vs_On s_On) ∧ (SliceIs h 17 e_api_Addr vs_Off s_Off) ∧ (SliceIs h 17 e_api_Addr vl l) ∧ (SliceIs h 17 e_api_Addr vr_1_1 r_1_1) ∧ (SliceIs h 17 e_api_Addr v_47 l_47) ∧ (SliceIs h 17 e_api_Addr v_48 l_48) ∧ (SliceIs h 17 e_api_Addr v_49 l_49) ∧ (SliceIs h 17 e_api_Addr v_50 l_50) ∧ (SliceIs h 17 e_api_Addr v_51 l_51) ∧ (SliceIs h 17 e_api_Addr vr_1_20 r_1_20) ∧ (OwnIs h 0 34 17 e_api_Addr vr_2_20 r_2_20) ∧ (OwnIs h 0 34 17 e_api_Addr v_43 l_43) ∧ (OwnIs h 0 34 17 e_api_Addr v_44 l_44) ∧ (OwnIs h 0 34 17 e_api_Addr v_45 l_45) ∧ (OwnIs h 0 34 17 e_api_Addr v_46 l_46) ∧ (OwnIs h 0 34 17 e_api_Addr vr_1 r_2) ∧ (Blk h b_2 (.cells (e_api_Addr a).toArray 34 (0, 0))) ∧ (Blk h b_1 (.cells #[.bool r_0_1, vr_1_1, v_47] 24 (0, 0)))) [(11, fun h => (Blk h b_38 (.cells #[.bool false, .slice none 0 0, .slice none 0 0] 24 (0, 0))))] (fun L_ h_ hL_ ⟨hL_s_On, hL_s_Off, hL_l, hL_1, hL_54, hL_55, hL_56, hL_57, hL_58, hL_114, c250, c220, c232, c238, c239, c204, c202, c201⟩ hs_ => ⟨⟨hL_s_On, hL_s_Off, hL_l, hL_1, hL_54, hL_55, hL_56, hL_57, hL_58, c220, c232, c238, c239, c204, c202, c201⟩, (at_keep 0 rfl hs_ (fun c268 => c268) (Go.Wk.at_nil _ _))⟩) ?_
        exact N_6 (F_51, r_2_20, l_43, l_44, l_45, l_46, l_47, l_48, l_49, b_39, l_50, b_40, l_51, r_0_20, r_1_20, b_38, vr_2_20, v_43, v_44, v_45, v_46, v_47, v_48, v_49, v_50, v_51, vr_1_20) _ _ ⟨rfl, rfl, rfl, rfl, rfl, rfl, rfl, rfl, rfl, rfl, rfl, rfl, rfl, rfl, rfl, rfl, rfl, rfl, hK, hS, hL_s_On, hL_s_Off, hL_l, hL_1, hL_54, hL_55, hL_56, hL_57, hL_58, hL_114, hM⟩
      · refine HS.eff rfl (want_none) rfl (st_alloc (c := #[.bool false, .slice none 0 0, .slice none 0 0]) hS tz_24 rfl) ?_
        rintro _ h_70 ⟨b_89, rfl, hS, hk⟩
        replace hK := hK.trans hk
        replace hL_s_On := hL_s_On.kp hk
        replace hL_s_Off := hL_s_Off.kp hk
        replace hL_l := hL_l.kp hk
        replace hL_1 := hL_1.kp hk
        replace hL_54 := hL_54.kp hk
        replace hL_55 := hL_55.kp hk
        replace hL_56 := hL_56.kp hk
        replace hL_57 := hL_57.kp hk
        replace hL_58 := hL_58.kp hk
        replace hS : St F_50 (Ow.box b_38 24 #[.bool false, .slice none 0 0, .slice none 0 0] :: Ow.box b_89 24 #[.bool false, .slice none 0 0, .slice none 0 0] :: Ow.own 34 17 e_api_Addr v_43 l_43 :: Ow.own 34 17 e_api_Addr v_44 l_44 :: Ow.own 34 17 e_api_Addr v_45 l_45 :: Ow.own 34 17 e_api_Addr v_46 l_46 :: Ow.own 34 17 e_api_Addr vr_1 r_2 :: Ow.box b_2 34 (e_api_Addr a).toArray :: Ow.box b_1 24 #[.bool r_0_1, vr_1_1, v_47] :: fr) h_70 := hS.perm2 [1, 0, 2, 3, 4, 5, 6, 7, 8] 9 rfl rfl
        refine Go.Wk.HA.re (fun h => (SliceIs h 17 e_api_Addr vs_On s_On) ∧ (SliceIs h 17 e_api_Addr vs_Off s_Off) ∧ (SliceIs h 17 e_api_Addr vl l) ∧ (SliceIs h 17 e_api_Addr vr_1_1 r_1_1) ∧ (SliceIs h 17 e_api_Addr v_47 l_47) ∧ (SliceIs h 17 e_api_Addr v_48 l_48) ∧ (SliceIs h 17 e_api_Addr v_49 l_49) ∧ (SliceIs h 17 e_api_Addr v_50 l_50) ∧ (SliceIs h 17 e_api_Addr v_51 l_51) ∧ (OwnIs h 0 34 17 e_api_Addr v_43 l_43) ∧ (OwnIs h 0 34 17 e_api_Addr v_44 l_44) ∧ (OwnIs h 0 34 17 e_api_Addr v_45 l_45) ∧ (OwnIs h 0 34 17 e_api_Addr v_46 l_46) ∧ (OwnIs h 0 34 17 e_api_Addr vr_1 r_2) ∧ (Blk h b_2 (.cells (e_api_Addr a).toArray 34 (0, 0))) ∧ (Blk h b_1 (.cells #[.bool r_0_1, vr_1_1, v_47] 24 (0, 0)))) [(10, fun h => (Blk h b_89 (.cells #[.bool false, .slice none 0 0, .slice none 0 0] 24 (0, 0)))), (11, fun h => (Blk h b_38 (.cells #[.bool false, .slice none 0 0, .slice none 0 0] 24 (0, 0))))] (fun L_ h_ hL_ ⟨hL_s_On, hL_s_Off, hL_l, hL_1, hL_54, hL_55, hL_56, hL_57, hL_58, c220, c232, c238, c239, c204, c202, c201⟩ hs_ => ⟨⟨hL_s_On, hL_s_Off, hL_l, hL_1, hL_54, hL_55, hL_56, hL_57, hL_58, c220, c232, c238, c239, c204, c202, c201⟩, (at_keep 1 rfl hs_ (fun c268 => c268) (Go.Wk.at_nil _ _))⟩) ?_
        exact N_7 (F_50, l_43, l_44, l_45, l_46, l_47, l_48, l_49, b_39, l_50, b_40, l_51, b_38, b_89, v_43, v_44, v_45, v_46, v_47, v_48, v_49, v_50, v_51) _ _ ⟨rfl, rfl, rfl, rfl, rfl, rfl, rfl, rfl, rfl, rfl, rfl, rfl, rfl, rfl, rfl, rfl, rfl, rfl, hK, hS, hL_s_On, hL_s_Off, hL_l, hL_1, hL_54, hL_55, hL_56, hL_57, hL_58, hM⟩
    refine HA.node (C1 := fun (i : Fz × (List T_api_Addr) × (List T_api_Addr) × (List T_api_Addr) × (List T_api_Addr) × (List T_api_Addr) × Bool × (List T_api_Addr) × (List T_api_Addr) × Nat × Nat × Value × Value × Value × Value × Value × Value × Value) => match i with | (F', l_52, l_53, l_54, l_55, l_56, b_44, l_57, l_58, b_42, b_43, v_52, v_53, v_54, v_55, v_56, v_57, v_58) => fun h => (SliceIs h 17 e_api_Addr vs_On s_On) ∧ (SliceIs h 17 e_api_Addr vs_Off s_Off) ∧ (SliceIs h 17 e_api_Addr vl l) ∧ (SliceIs h 17 e_api_Addr vr_1_1 r_1_1) ∧ (SliceIs h 17 e_api_Addr v_54 l_54) ∧ (SliceIs h 17 e_api_Addr v_55 l_55) ∧ (SliceIs h 17 e_api_Addr v_56 l_56) ∧ (SliceIs h 17 e_api_Addr v_57 l_57) ∧ (SliceIs h 17 e_api_Addr v_58 l_58) ∧ (OwnIs h 0 34 17 e_api_Addr vr_1 r_2) ∧ (OwnIs h 0 34 17 e_api_Addr v_52 l_52) ∧ (OwnIs h 0 34 17 e_api_Addr v_53 l_53) ∧ (Blk h b_2 (.cells (e_api_Addr a).toArray 34 (0, 0))) ∧ (Blk h b_1 (.cells #[.bool r_0_1, vr_1_1, v_54] 24 (0, 0)))) (cs1 := fun (i : Fz × (List T_api_Addr) × (List T_api_Addr) × (List T_api_Addr) × (List T_api_Addr) × (List T_api_Addr) × Bool × (List T_api_Addr) × (List T_api_Addr) × Nat × Nat × Value × Value × Value × Value × Value × Value × Value) => match i with | (F', l_52, l_53, l_54, l_55, l_56, b_44, l_57, l_58, b_42, b_43, v_52, v_53, v_54, v_55, v_56, v_57, v_58) => [(10, fun h => (Blk h b_43 (.cells #[.bool false, .slice none 0 0, .slice none 0 0] 24 (0, 0)))), (11, fun h => (Blk h b_42 (.cells #[.bool false, .slice none 0 0, .slice none 0 0] 24 (0, 0))))]) (fuel1 := 5) (listed1 := #[true, true, true, true, false, true, false, false, true, true, false, false]) (fun (i : Fz × (List T_api_Addr) × (List T_api_Addr) × (List T_api_Addr) × (List T_api_Addr) × (List T_api_Addr) × Bool × (List T_api_Addr) × (List T_api_Addr) × Nat × Nat × Value × Value × Value × Value × Value × Value × Value) f h => match i with | (F', l_52, l_53, l_54, l_55, l_56, b_44, l_57, l_58, b_42, b_43, v_52, v_53, v_54, v_55, v_56, v_57, v_58) => f 0 = .agg #[.bool s_Exclude, vs_On, vs_Off] ∧ f 1 = .agg (e_api_Addr a).toArray ∧ f 2 = vr_1 ∧ f 3 = .pointer (some ⟨b_1, 0, none⟩) ∧ f 4 = .pointer (some ⟨b_2, 0, none⟩) ∧ f 6 = .bool false ∧ f 7 = .pointer (some ⟨b_43, 0, none⟩) ∧ f 8 = .pointer (some ⟨b_42, 0, none⟩) ∧ f 9 = .agg #[.bool s_Exclude, vs_On, vs_Off] ∧ f 10 = .agg #[.bool r_0_1, vr_1_1, v_55] ∧ f 11 = vl ∧ f 12 = vr_1 ∧ f 13 = .agg #[.bool r_0_1, vr_1_1, v_56] ∧ f 14 = .agg #[.bool b_44, v_57, v_53] ∧ f 15 = vr_1 ∧ f 16 = v_52 ∧ f 18 = .agg #[.bool r_0_1, vr_1_1, v_58] ∧ Kp F h0 F' h ∧ St F' (Ow.box b_42 24 #[.bool false, .slice none 0 0, .slice none 0 0] :: Ow.box b_43 24 #[.bool false, .slice none 0 0, .slice none 0 0] :: Ow.own 34 17 e_api_Addr vr_1 r_2 :: Ow.own 34 17 e_api_Addr v_52 l_52 :: Ow.own 34 17 e_api_Addr v_53 l_53 :: Ow.box b_2 34 (e_api_Addr a).toArray :: Ow.box b_1 24 #[.bool r_0_1, vr_1_1, v_54] :: fr) h ∧ (SliceF F' h 17 e_api_Addr vs_On s_On) ∧ (SliceF F' h 17 e_api_Addr vs_Off s_Off) ∧ (SliceF F' h 17 e_api_Addr vl l) ∧ (SliceF F' h 17 e_api_Addr vr_1_1 r_1_1) ∧ (SliceF F' h 17 e_api_Addr v_54 l_54) ∧ (SliceF F' h 17 e_api_Addr v_55 l_55) ∧ (SliceF F' h 17 e_api_Addr v_56 l_56) ∧ (SliceF F' h 17 e_api_Addr v_57 l_57) ∧ (SliceF F' h 17 e_api_Addr v_58 l_58) ∧ filter_Expire_W b_44 l_57 l_53 l_52 (fun r_0_20 r_1_20 r_2_20 => law15_Few_W r_0_1 r_1_1 l_58 (fun r_0_19 r_1_19 r_2_19 => filter_Turn_W r_0_19 r_1_19 r_2_19 (fun r_0_18 r_1_18 r_2_18 => law15_FilterLets_j1 a Q r_0_1 r_1_1 r_2 l_54 r_0_20 r_1_20 r_2_20 r_0_18 r_1_18 r_2_18)))) ?_ (fun N_10 => ?_)
    · rintro ⟨F_51, l_52, l_53, l_54, l_55, l_56, b_44, l_57, l_58, b_42, b_43, v_52, v_53, v_54, v_55, v_56, v_57, v_58⟩ f_10 h_71 ⟨e0, e1, e2, e3, e4, e6, e7, e8, e9, e10, e11, e12, e13, e14, e15, e16, e18, hK, hS, hL_s_On, hL_s_Off, hL_l, hL_1, hL_60, hL_61, hL_62, hL_63, hL_64, hM⟩
      refine HA.fr [(0, .agg #[.bool s_Exclude, vs_On, vs_Off]), (1, .agg (e_api_Addr a).toArray), (2, vr_1), (3, .pointer (some ⟨b_1, 0, none⟩)), (4, .pointer (some ⟨b_2, 0, none⟩)), (6, .bool false), (7, .pointer (some ⟨b_43, 0, none⟩)), (8, .pointer (some ⟨b_42, 0, none⟩)), (9, .agg #[.bool s_Exclude, vs_On, vs_Off]), (10, .agg #[.bool r_0_1, vr_1_1, v_55]), (11, vl), (12, vr_1), (13, .agg #[.bool r_0_1, vr_1_1, v_56]), (14, .agg #[.bool b_44, v_57, v_53]), (15, vr_1), (16, v_52), (18, .agg #[.bool r_0_1, vr_1_1, v_58])] ⟨e0, e1, e2, e3, e4, e6, e7, e8, e9, e10, e11, e12, e13, e14, e15, e16, e18, trivial⟩ ?_
      refine HA.one (k := 4) ⟨⟨hL_s_On.is, hL_s_Off.is, hL_l.is, hL_1.is, hL_60.is, hL_61.is, hL_62.is, hL_63.is, hL_64.is, (hS.own 2 rfl), (hS.own 3 rfl), (hS.own 4 rfl), (hS.box 5 rfl), (hS.box 6 rfl)⟩, (at_now (hS.box 1 rfl) (at_now (hS.box 0 rfl) (Go.Wk.at_nil _ _)))⟩ (by kernel_rfl) ?_
      replace hS : St F_51 (Ow.own 34 17 e_api_Addr v_53 l_53 :: Ow.box b_42 24 #[.bool false, .slice none 0 0, .slice none 0 0] :: Ow.box b_43 24 #[.bool false, .slice none 0 0, .slice none 0 0] :: Ow.own 34 17 e_api_Addr vr_1 r_2 :: Ow.own 34 17 e_api_Addr v_52 l_52 :: Ow.box b_2 34 (e_api_Addr a).toArray :: Ow.box b_1 24 #[.bool r_0_1, vr_1_1, v_54] :: fr) h_71 := hS.perm2 [4, 0, 1, 2, 3, 5, 6] 7 rfl rfl
      have hZ_18 := hS
      have hkz_18 := (hS.freeze).2
      replace hS := hS.freeze.1
      have hL_114 : SliceF (fun b => F_51 b ∨ (Ow.own 34 17 e_api_Addr v_53 l_53).foot b) h_71 17 e_api_Addr v_53 l_53 := ⟨(hZ_18.own 0 rfl).slice, fun _ b hb => .inr hb⟩
      replace hS : St (fun b => F_51 b ∨ (Ow.own 34 17 e_api_Addr v_53 l_53).foot b) (Ow.own 34 17 e_api_Addr v_52 l_52 :: Ow.box b_42 24 #[.bool false, .slice none 0 0, .slice none 0 0] :: Ow.box b_43 24 #[.bool false, .slice none 0 0, .slice none 0 0] :: Ow.own 34 17 e_api_Addr vr_1 r_2 :: Ow.box b_2 34 (e_api_Addr a).toArray :: Ow.box b_1 24 #[.bool r_0_1, vr_1_1, v_54] :: fr) h_71 := hS.perm2 [3, 0, 1, 2, 4, 5] 6 rfl rfl
      have hZ_19 := hS
      have hkz_19 := (hS.freeze).2
      replace hS := hS.freeze.1
      have hL_115 : SliceF (fun b => (fun b => F_51 b ∨ (Ow.own 34 17 e_api_Addr v_53 l_53).foot b) b ∨ (Ow.own 34 17 e_api_Addr v_52 l_52).foot b) h_71 17 e_api_Addr v_52 l_52 := ⟨(hZ_19.own 0 rfl).slice, fun _ b hb => .inr hb⟩
      refine HS.call rfl (want_none) rfl (ec en_19 rfl rfl) (filter_Expire_walk (fr := (Ow.box b_42 24 #[.bool false, .slice none 0 0, .slice none 0 0] :: Ow.box b_43 24 #[.bool false, .slice none 0 0, .slice none 0 0] :: Ow.own 34 17 e_api_Addr vr_1 r_2 :: Ow.box b_2 34 (e_api_Addr a).toArray :: Ow.box b_1 24 #[.bool r_0_1, vr_1_1, v_54] :: fr)) b_44 l_57 l_53 l_52 v_57 v_53 v_52 hS ((hL_63.kp hkz_18).kp hkz_19) (hL_114.kp hkz_19) hL_115 hM) ?_
      rintro _ h_72 ⟨F_52, r_0_20, r_1_20, r_2_20, vr_1_20, vr_2_20, rfl, hk, hS, _, _, _, hM⟩
      obtain ⟨hS, hk⟩ := hZ_19.back hk hS
      obtain ⟨hS, hk⟩ := hZ_18.back hk hS
      generalize (fun b => (fun b => F_52 b ∧ ¬ (Ow.own 34 17 e_api_Addr v_52 l_52).foot b) b ∧ ¬ (Ow.own 34 17 e_api_Addr v_53 l_53).foot b) = F_53 at hS hk
      replace hK := hK.trans hk
      replace hL_s_On := hL_s_On.kp hk
      replace hL_s_Off := hL_s_Off.kp hk
      replace hL_l := hL_l.kp hk
      replace hL_1 := hL_1.kp hk
      replace hL_60 := hL_60.kp hk
      replace hL_61 := hL_61.kp hk
      replace hL_62 := hL_62.kp hk
      replace hL_63 := hL_63.kp hk
      replace hL_64 := hL_64.kp hk
      replace hS : St F_53 (Ow.box b_42 24 #[.bool false, .slice none 0 0, .slice none 0 0] :: Ow.box b_43 24 #[.bool false, .slice none 0 0, .slice none 0 0] :: Ow.own 34 17 e_api_Addr v_53 l_53 :: Ow.own 34 17 e_api_Addr v_52 l_52 :: Ow.own 34 17 e_api_Addr vr_1_20 r_1_20 :: Ow.own 34 17 e_api_Addr vr_2_20 r_2_20 :: Ow.own 34 17 e_api_Addr vr_1 r_2 :: Ow.box b_2 34 (e_api_Addr a).toArray :: Ow.box b_1 24 #[.bool r_0_1, vr_1_1, v_54] :: fr) h_72 := hS.perm2 [4, 5, 0, 1, 2, 3, 6, 7, 8] 9 rfl rfl
      refine Go.Wk.HA.re (fun h => (SliceIs h 17 e_api_Addr vs_On s_On) ∧ (SliceIs h 17 e_api_Addr vs_Off s_Off) ∧ (SliceIs h 17 e_api_Addr vl l) ∧ (SliceIs h 17 e_api_Addr vr_1_1 r_1_1) ∧ (SliceIs h 17 e_api_Addr v_54 l_54) ∧ (SliceIs h 17 e_api_Addr v_55 l_55) ∧ (SliceIs h 17 e_api_Addr v_56 l_56) ∧ (SliceIs h 17 e_api_Addr v_57 l_57) ∧ (SliceIs h 17 e_api_Addr v_58 l_58) ∧ (OwnIs h 0 34 17 e_api_Addr v_53 l_53) ∧ (OwnIs h 0 34 17 e_api_Addr v_52 l_52) ∧ (OwnIs h 0 34 17 e_api_Addr vr_1_20 r_1_20) ∧ (OwnIs h 0 34 17 e_api_Addr vr_2_20 r_2_20) ∧ (OwnIs h 0 34 17 e_api_Addr vr_1 r_2) ∧ (Blk h b_2 (.cells (e_api_Addr a).toArray 34 (0, 0))) ∧ (Blk h b_1 (.cells #[.bool r_0_1, vr_1_1, v_54] 24 (0, 0)))) [(10, fun h => (Blk h b_43 (.cells #[.bool false, .slice none 0 0, .slice none 0 0] 24 (0, 0)))), (11, fun h => (Blk h b_42 (.cells #[.bool false, .slice none 0 0, .slice none 0 0] 24 (0, 0))))] (fun L_ h_ hL_ ⟨hL_s_On, hL_s_Off, hL_l, hL_1, hL_60, hL_61, hL_62, hL_63, hL_64, c220, c232, c238, c239, c204, c202, c201⟩ hs_ => ⟨⟨hL_s_On, hL_s_Off, hL_l, hL_1, hL_60, hL_61, hL_62, hL_63, hL_64, c204, c232, c220, c202, c201⟩, (at_keep 0 rfl hs_ (fun c262 => c262) (at_keep 1 rfl hs_ (fun c268 => c268) (Go.Wk.at_nil _ _)))⟩) ?_
      exact N_7 (F_53, l_53, l_52, r_1_20, r_2_20, l_54, l_55, l_56, b_44, l_57, r_0_20, l_58, b_42, b_43, v_53, v_52, vr_1_20, vr_2_20, v_54, v_55, v_56, v_57, v_58) _ _ ⟨rfl, rfl, rfl, rfl, rfl, rfl, rfl, rfl, rfl, rfl, rfl, rfl, rfl, rfl, rfl, rfl, rfl, rfl, hK, hS, hL_s_On, hL_s_Off, hL_l, hL_1, hL_60, hL_61, hL_62, hL_63, hL_64, hM⟩
    refine HA.node (C1 := fun (i : Fz × (List T_api_Addr) × (List T_api_Addr) × (List T_api_Addr) × (List T_api_Addr) × (List T_api_Addr) × Bool × (List T_api_Addr) × (List T_api_Addr) × Nat × Value × Value × Value × Value × Value × Value × Value) => match i with | (F', l_14, l_15, l_16, l_17, l_18, b_24, l_19, l_20, b_23, v_14, v_15, v_16, v_17, v_18, v_19, v_20) => fun h => (SliceIs h 17 e_api_Addr vs_On s_On) ∧ (SliceIs h 17 e_api_Addr vs_Off s_Off) ∧ (SliceIs h 17 e_api_Addr vl l) ∧ (SliceIs h 17 e_api_Addr vr_1_1 r_1_1) ∧ (SliceIs h 17 e_api_Addr v_16 l_16) ∧ (SliceIs h 17 e_api_Addr v_17 l_17) ∧ (SliceIs h 17 e_api_Addr v_18 l_18) ∧ (SliceIs h 17 e_api_Addr v_19 l_19) ∧ (SliceIs h 17 e_api_Addr v_20 l_20) ∧ (OwnIs h 0 34 17 e_api_Addr vr_1 r_2) ∧ (OwnIs h 0 34 17 e_api_Addr v_14 l_14) ∧ (OwnIs h 0 34 17 e_api_Addr v_15 l_15) ∧ (Blk h b_2 (.cells (e_api_Addr a).toArray 34 (0, 0))) ∧ (Blk h b_1 (.cells #[.bool r_0_1, vr_1_1, v_16] 24 (0, 0)))) (cs1 := fun (i : Fz × (List T_api_Addr) × (List T_api_Addr) × (List T_api_Addr) × (List T_api_Addr) × (List T_api_Addr) × Bool × (List T_api_Addr) × (List T_api_Addr) × Nat × Value × Value × Value × Value × Value × Value × Value) => match i with | (F', l_14, l_15, l_16, l_17, l_18, b_24, l_19, l_20, b_23, v_14, v_15, v_16, v_17, v_18, v_19, v_20) => [(10, fun h => (Blk h b_23 (.cells #[.bool false, .slice none 0 0, .slice none 0 0] 24 (0, 0))))]) (fuel1 := 6) (listed1 := #[true, true, true, true, false, true, false, false, true, false, false, false]) (fun (i : Fz × (List T_api_Addr) × (List T_api_Addr) × (List T_api_Addr) × (List T_api_Addr) × (List T_api_Addr) × Bool × (List T_api_Addr) × (List T_api_Addr) × Nat × Value × Value × Value × Value × Value × Value × Value) f h => match i with | (F', l_14, l_15, l_16, l_17, l_18, b_24, l_19, l_20, b_23, v_14, v_15, v_16, v_17, v_18, v_19, v_20) => f 0 = .agg #[.bool s_Exclude, vs_On, vs_Off] ∧ f 1 = .agg (e_api_Addr a).toArray ∧ f 2 = vr_1 ∧ f 3 = .pointer (some ⟨b_1, 0, none⟩) ∧ f 4 = .pointer (some ⟨b_2, 0, none⟩) ∧ f 6 = .bool false ∧ f 7 = .pointer (some ⟨b_23, 0, none⟩) ∧ f 9 = .agg #[.bool s_Exclude, vs_On, vs_Off] ∧ f 10 = .agg #[.bool r_0_1, vr_1_1, v_17] ∧ f 11 = vl ∧ f 12 = vr_1 ∧ f 13 = .agg #[.bool r_0_1, vr_1_1, v_18] ∧ f 14 = .agg #[.bool b_24, v_19, v_15] ∧ f 15 = vr_1 ∧ f 16 = v_14 ∧ f 18 = .agg #[.bool r_0_1, vr_1_1, v_20] ∧ Kp F h0 F' h ∧ St F' (Ow.box b_23 24 #[.bool false, .slice none 0 0, .slice none 0 0] :: Ow.own 34 17 e_api_Addr vr_1 r_2 :: Ow.own 34 17 e_api_Addr v_14 l_14 :: Ow.own 34 17 e_api_Addr v_15 l_15 :: Ow.box b_2 34 (e_api_Addr a).toArray :: Ow.box b_1 24 #[.bool r_0_1, vr_1_1, v_16] :: fr) h ∧ (SliceF F' h 17 e_api_Addr vs_On s_On) ∧ (SliceF F' h 17 e_api_Addr vs_Off s_Off) ∧ (SliceF F' h 17 e_api_Addr vl l) ∧ (SliceF F' h 17 e_api_Addr vr_1_1 r_1_1) ∧ (SliceF F' h 17 e_api_Addr v_16 l_16) ∧ (SliceF F' h 17 e_api_Addr v_17 l_17) ∧ (SliceF F' h 17 e_api_Addr v_18 l_18) ∧ (SliceF F' h 17 e_api_Addr v_19 l_19) ∧ (SliceF F' h 17 e_api_Addr v_20 l_20) ∧ filter_Expire_W b_24 l_19 l_15 l_14 (fun r_0_21 r_1_21 r_2_21 => law15_Few_W r_0_1 r_1_1 l_20 (fun r_0_20 r_1_20 r_2_20 => filter_Turn_W r_0_20 r_1_20 r_2_20 (fun r_0_19 r_1_19 r_2_19 => law15_FilterLets_j1 a Q r_0_1 r_1_1 r_2 l_16 r_0_21 r_1_21 r_2_21 r_0_19 r_1_19 r_2_19)))) ?_ (fun N_11 => ?_)
    · rintro ⟨F_54, l_14, l_15, l_16, l_17, l_18, b_24, l_19, l_20, b_23, v_14, v_15, v_16, v_17, v_18, v_19, v_20⟩ f_11 h_73 ⟨e0, e1, e2, e3, e4, e6, e7, e9, e10, e11, e12, e13, e14, e15, e16, e18, hK, hS, hL_s_On, hL_s_Off, hL_l, hL_1, hL_27, hL_28, hL_29, hL_30, hL_31, hM⟩
      refine HA.fr [(0, .agg #[.bool s_Exclude, vs_On, vs_Off]), (1, .agg (e_api_Addr a).toArray), (2, vr_1), (3, .pointer (some ⟨b_1, 0, none⟩)), (4, .pointer (some ⟨b_2, 0, none⟩)), (6, .bool false), (7, .pointer (some ⟨b_23, 0, none⟩)), (9, .agg #[.bool s_Exclude, vs_On, vs_Off]), (10, .agg #[.bool r_0_1, vr_1_1, v_17]), (11, vl), (12, vr_1), (13, .agg #[.bool r_0_1, vr_1_1, v_18]), (14, .agg #[.bool b_24, v_19, v_15]), (15, vr_1), (16, v_14), (18, .agg #[.bool r_0_1, vr_1_1, v_20])] ⟨e0, e1, e2, e3, e4, e6, e7, e9, e10, e11, e12, e13, e14, e15, e16, e18, trivial⟩ ?_
      refine HA.two (k := 4) (k' := 9) ⟨⟨hL_s_On.is, hL_s_Off.is, hL_l.is, hL_1.is, hL_27.is, hL_28.is, hL_29.is, hL_30.is, hL_31.is, (hS.own 1 rfl), (hS.own 2 rfl), (hS.own 3 rfl), (hS.box 4 rfl), (hS.box 5 rfl)⟩, (at_now (hS.box 0 rfl) (Go.Wk.at_nil _ _))⟩ (by kernel_rfl) ?_ ?_
      · replace hS : St F_54 (Ow.own 34 17 e_api_Addr v_15 l_15 :: Ow.box b_23 24 #[.bool false, .slice none 0 0, .slice none 0 0] :: Ow.own 34 17 e_api_Addr vr_1 r_2 :: Ow.own 34 17 e_api_Addr v_14 l_14 :: Ow.box b_2 34 (e_api_Addr a).toArray :: Ow.box b_1 24 #[.bool r_0_1, vr_1_1, v_16] :: fr) h_73 := hS.perm2 [3, 0, 1, 2, 4, 5] 6 rfl rfl
        have hZ_20 := hS
        have hkz_20 := (hS.freeze).2
        replace hS := hS.freeze.1
        have hL_116 : SliceF (fun b => F_54 b ∨ (Ow.own 34 17 e_api_Addr v_15 l_15).foot b) h_73 17 e_api_Addr v_15 l_15 := ⟨(hZ_20.own 0 rfl).slice, fun _ b hb => .inr hb⟩
        replace hS : St (fun b => F_54 b ∨ (Ow.own 34 17 e_api_Addr v_15 l_15).foot b) (Ow.own 34 17 e_api_Addr v_14 l_14 :: Ow.box b_23 24 #[.bool false, .slice none 0 0, .slice none 0 0] :: Ow.own 34 17 e_api_Addr vr_1 r_2 :: Ow.box b_2 34 (e_api_Addr a).toArray :: Ow.box b_1 24 #[.bool r_0_1, vr_1_1, v_16] :: fr) h_73 := hS.perm2 [2, 0, 1, 3, 4] 5 rfl rfl
        have hZ_21 := hS
        have hkz_21 := (hS.freeze).2
        replace hS := hS.freeze.1
        have hL_117 : SliceF (fun b => (fun b => F_54 b ∨ (Ow.own 34 17 e_api_Addr v_15 l_15).foot b) b ∨ (Ow.own 34 17 e_api_Addr v_14 l_14).foot b) h_73 17 e_api_Addr v_14 l_14 := ⟨(hZ_21.own 0 rfl).slice, fun _ b hb => .inr hb⟩
        refine HS.call rfl (want_none) rfl (ec en_19 rfl rfl) (filter_Expire_walk (fr := (Ow.box b_23 24 #[.bool false, .slice none 0 0, .slice none 0 0] :: Ow.own 34 17 e_api_Addr vr_1 r_2 :: Ow.box b_2 34 (e_api_Addr a).toArray :: Ow.box b_1 24 #[.bool r_0_1, vr_1_1, v_16] :: fr)) b_24 l_19 l_15 l_14 v_19 v_15 v_14 hS ((hL_30.kp hkz_20).kp hkz_21) (hL_116.kp hkz_21) hL_117 hM) ?_
        rintro _ h_74 ⟨F_55, r_0_21, r_1_21, r_2_21, vr_1_21, vr_2_21, rfl, hk, hS, _, _, _, hM⟩
        obtain ⟨hS, hk⟩ := hZ_21.back hk hS
        obtain ⟨hS, hk⟩ := hZ_20.back hk hS
        generalize (fun b => (fun b => F_55 b ∧ ¬ (Ow.own 34 17 e_api_Addr v_14 l_14).foot b) b ∧ ¬ (Ow.own 34 17 e_api_Addr v_15 l_15).foot b) = F_56 at hS hk
        replace hK := hK.trans hk
        replace hL_s_On := hL_s_On.kp hk
        replace hL_s_Off := hL_s_Off.kp hk
        replace hL_l := hL_l.kp hk
        replace hL_1 := hL_1.kp hk
        replace hL_27 := hL_27.kp hk
        replace hL_28 := hL_28.kp hk
        replace hL_29 := hL_29.kp hk
        replace hL_30 := hL_30.kp hk
        replace hL_31 := hL_31.kp hk
        replace hS : St F_56 (Ow.box b_23 24 #[.bool false, .slice none 0 0, .slice none 0 0] :: Ow.own 34 17 e_api_Addr v_15 l_15 :: Ow.own 34 17 e_api_Addr v_14 l_14 :: Ow.own 34 17 e_api_Addr vr_1_21 r_1_21 :: Ow.own 34 17 e_api_Addr vr_2_21 r_2_21 :: Ow.own 34 17 e_api_Addr vr_1 r_2 :: Ow.box b_2 34 (e_api_Addr a).toArray :: Ow.box b_1 24 #[.bool r_0_1, vr_1_1, v_16] :: fr) h_74 := hS.perm2 [4, 0, 1, 2, 3, 5, 6, 7] 8 rfl rfl
        refine Go.Wk.HA.re (fun h => (SliceIs h 17 e_api_Addr vs_On s_On) ∧ (SliceIs h 17 e_api_Addr vs_Off s_Off) ∧ (SliceIs h 17 e_api_Addr vl l) ∧ (SliceIs h 17 e_api_Addr vr_1_1 r_1_1) ∧ (SliceIs h 17 e_api_Addr v_16 l_16) ∧ (SliceIs h 17 e_api_Addr v_17 l_17) ∧ (SliceIs h 17 e_api_Addr v_18 l_18) ∧ (SliceIs h 17 e_api_Addr v_19 l_19) ∧ (SliceIs h 17 e_api_Addr v_20 l_20) ∧ (OwnIs h 0 34 17 e_api_Addr v_15 l_15) ∧ (OwnIs h 0 34 17 e_api_Addr v_14 l_14) ∧ (OwnIs h 0 34 17 e_api_Addr vr_1_21 r_1_21) ∧ (OwnIs h 0 34 17 e_api_Addr vr_2_21 r_2_21) ∧ (OwnIs h 0 34 17 e_api_Addr vr_1 r_2) ∧ (Blk h b_2 (.cells (e_api_Addr a).toArray 34 (0, 0))) ∧ (Blk h b_1 (.cells #[.bool r_0_1, vr_1_1, v_16] 24 (0, 0)))) [(10, fun h => (Blk h b_23 (.cells #[.bool false, .slice none 0 0, .slice none 0 0] 24 (0, 0))))] (fun L_ h_ hL_ ⟨hL_s_On, hL_s_Off, hL_l, hL_1, hL_27, hL_28, hL_29, hL_30, hL_31, c220, c232, c238, c239, c204, c202, c201⟩ hs_ => ⟨⟨hL_s_On, hL_s_Off, hL_l, hL_1, hL_27, hL_28, hL_29, hL_30, hL_31, c204, c232, c220, c202, c201⟩, (at_keep 0 rfl hs_ (fun c262 => c262) (Go.Wk.at_nil _ _))⟩) ?_
        exact N_8 (F_56, l_15, l_14, r_1_21, r_2_21, l_16, l_17, l_18, b_24, l_19, r_0_21, l_20, b_23, v_15, v_14, vr_1_21, vr_2_21, v_16, v_17, v_18, v_19, v_20) _ _ ⟨rfl, rfl, rfl, rfl, rfl, rfl, rfl, rfl, rfl, rfl, rfl, rfl, rfl, rfl, rfl, rfl, rfl, hK, hS, hL_s_On, hL_s_Off, hL_l, hL_1, hL_27, hL_28, hL_29, hL_30, hL_31, hM⟩
      · refine HS.eff rfl (want_none) rfl (st_alloc (c := #[.bool false, .slice none 0 0, .slice none 0 0]) hS tz_24 rfl) ?_
        rintro _ h_74 ⟨b_90, rfl, hS, hk⟩
        replace hK := hK.trans hk
        replace hL_s_On := hL_s_On.kp hk
        replace hL_s_Off := hL_s_Off.kp hk
        replace hL_l := hL_l.kp hk
        replace hL_1 := hL_1.kp hk
        replace hL_27 := hL_27.kp hk
        replace hL_28 := hL_28.kp hk
        replace hL_29 := hL_29.kp hk
        replace hL_30 := hL_30.kp hk
        replace hL_31 := hL_31.kp hk
        refine Go.Wk.HA.re (fun h => (SliceIs h 17 e_api_Addr vs_On s_On) ∧ (SliceIs h 17 e_api_Addr vs_Off s_Off) ∧ (SliceIs h 17 e_api_Addr vl l) ∧ (SliceIs h 17 e_api_Addr vr_1_1 r_1_1) ∧ (SliceIs h 17 e_api_Addr v_16 l_16) ∧ (SliceIs h 17 e_api_Addr v_17 l_17) ∧ (SliceIs h 17 e_api_Addr v_18 l_18) ∧ (SliceIs h 17 e_api_Addr v_19 l_19) ∧ (SliceIs h 17 e_api_Addr v_20 l_20) ∧ (OwnIs h 0 34 17 e_api_Addr vr_1 r_2) ∧ (OwnIs h 0 34 17 e_api_Addr v_14 l_14) ∧ (OwnIs h 0 34 17 e_api_Addr v_15 l_15) ∧ (Blk h b_2 (.cells (e_api_Addr a).toArray 34 (0, 0))) ∧ (Blk h b_1 (.cells #[.bool r_0_1, vr_1_1, v_16] 24 (0, 0)))) [(10, fun h => (Blk h b_23 (.cells #[.bool false, .slice none 0 0, .slice none 0 0] 24 (0, 0)))), (11, fun h => (Blk h b_90 (.cells #[.bool false, .slice none 0 0, .slice none 0 0] 24 (0, 0))))] (fun L_ h_ hL_ ⟨hL_s_On, hL_s_Off, hL_l, hL_1, hL_27, hL_28, hL_29, hL_30, hL_31, c204, c232, c220, c202, c201⟩ hs_ => ⟨⟨hL_s_On, hL_s_Off, hL_l, hL_1, hL_27, hL_28, hL_29, hL_30, hL_31, c204, c232, c220, c202, c201⟩, (at_keep 0 rfl hs_ (fun c262 => c262) (Go.Wk.at_nil _ _))⟩) ?_
        exact N_10 (F_54, l_14, l_15, l_16, l_17, l_18, b_24, l_19, l_20, b_90, b_23, v_14, v_15, v_16, v_17, v_18, v_19, v_20) _ _ ⟨rfl, rfl, rfl, rfl, rfl, rfl, rfl, rfl, rfl, rfl, rfl, rfl, rfl, rfl, rfl, rfl, rfl, hK, hS, hL_s_On, hL_s_Off, hL_l, hL_1, hL_27, hL_28, hL_29, hL_30, hL_31, hM⟩
    refine HA.node (C1 := fun (i : Fz × (List T_api_Addr) × (List T_api_Addr) × (List T_api_Addr) × (List T_api_Addr) × (List T_api_Addr) × Bool × (List T_api_Addr) × (List T_api_Addr) × Nat × Value × Value × Value × Value × Value × Value × Value) => match i with | (F', l_21, l_22, l_23, l_24, l_25, b_27, l_26, l_27, b_26, v_21, v_22, v_23, v_24, v_25, v_26, v_27) => fun h => (SliceIs h 17 e_api_Addr vs_On s_On) ∧ (SliceIs h 17 e_api_Addr vs_Off s_Off) ∧ (SliceIs h 17 e_api_Addr vl l) ∧ (SliceIs h 17 e_api_Addr vr_1_1 r_1_1) ∧ (SliceIs h 17 e_api_Addr v_23 l_23) ∧ (SliceIs h 17 e_api_Addr v_24 l_24) ∧ (SliceIs h 17 e_api_Addr v_25 l_25) ∧ (SliceIs h 17 e_api_Addr v_26 l_26) ∧ (SliceIs h 17 e_api_Addr v_27 l_27) ∧ (OwnIs h 0 34 17 e_api_Addr vr_1 r_2) ∧ (OwnIs h 0 34 17 e_api_Addr v_21 l_21) ∧ (OwnIs h 0 34 17 e_api_Addr v_22 l_22) ∧ (Blk h b_2 (.cells (e_api_Addr a).toArray 34 (0, 0))) ∧ (Blk h b_1 (.cells #[.bool r_0_1, vr_1_1, v_23] 24 (0, 0)))) (cs1 := fun (i : Fz × (List T_api_Addr) × (List T_api_Addr) × (List T_api_Addr) × (List T_api_Addr) × (List T_api_Addr) × Bool × (List T_api_Addr) × (List T_api_Addr) × Nat × Value × Value × Value × Value × Value × Value × Value) => match i with | (F', l_21, l_22, l_23, l_24, l_25, b_27, l_26, l_27, b_26, v_21, v_22, v_23, v_24, v_25, v_26, v_27) => [(11, fun h => (Blk h b_26 (.cells #[.bool false, .slice none 0 0, .slice none 0 0] 24 (0, 0))))]) (fuel1 := 6) (listed1 := #[true, true, true, true, false, true, false, false, false, true, false, false]) (fun (i : Fz × (List T_api_Addr) × (List T_api_Addr) × (List T_api_Addr) × (List T_api_Addr) × (List T_api_Addr) × Bool × (List T_api_Addr) × (List T_api_Addr) × Nat × Value × Value × Value × Value × Value × Value × Value) f h => match i with | (F', l_21, l_22, l_23, l_24, l_25, b_27, l_26, l_27, b_26, v_21, v_22, v_23, v_24, v_25, v_26, v_27) => f 0 = .agg #[.bool s_Exclude, vs_On, vs_Off] ∧ f 1 = .agg (e_api_Addr a).toArray ∧ f 2 = vr_1 ∧ f 3 = .pointer (some ⟨b_1, 0, none⟩) ∧ f 4 = .pointer (some ⟨b_2, 0, none⟩) ∧ f 6 = .bool false ∧ f 8 = .pointer (some ⟨b_26, 0, none⟩) ∧ f 9 = .agg #[.bool s_Exclude, vs_On, vs_Off] ∧ f 10 = .agg #[.bool r_0_1, vr_1_1, v_24] ∧ f 11 = vl ∧ f 12 = vr_1 ∧ f 13 = .agg #[.bool r_0_1, vr_1_1, v_25] ∧ f 14 = .agg #[.bool b_27, v_26, v_22] ∧ f 15 = vr_1 ∧ f 16 = v_21 ∧ f 18 = .agg #[.bool r_0_1, vr_1_1, v_27] ∧ Kp F h0 F' h ∧ St F' (Ow.box b_26 24 #[.bool false, .slice none 0 0, .slice none 0 0] :: Ow.own 34 17 e_api_Addr vr_1 r_2 :: Ow.own 34 17 e_api_Addr v_21 l_21 :: Ow.own 34 17 e_api_Addr v_22 l_22 :: Ow.box b_2 34 (e_api_Addr a).toArray :: Ow.box b_1 24 #[.bool r_0_1, vr_1_1, v_23] :: fr) h ∧ (SliceF F' h 17 e_api_Addr vs_On s_On) ∧ (SliceF F' h 17 e_api_Addr vs_Off s_Off) ∧ (SliceF F' h 17 e_api_Addr vl l) ∧ (SliceF F' h 17 e_api_Addr vr_1_1 r_1_1) ∧ (SliceF F' h 17 e_api_Addr v_23 l_23) ∧ (SliceF F' h 17 e_api_Addr v_24 l_24) ∧ (SliceF F' h 17 e_api_Addr v_25 l_25) ∧ (SliceF F' h 17 e_api_Addr v_26 l_26) ∧ (SliceF F' h 17 e_api_Addr v_27 l_27) ∧ filter_Expire_W b_27 l_26 l_22 l_21 (fun r_0_21 r_1_21 r_2_21 => law15_Few_W r_0_1 r_1_1 l_27 (fun r_0_20 r_1_20 r_2_20 => filter_Turn_W r_0_20 r_1_20 r_2_20 (fun r_0_19 r_1_19 r_2_19 => law15_FilterLets_j1 a Q r_0_1 r_1_1 r_2 l_23 r_0_21 r_1_21 r_2_21 r_0_19 r_1_19 r_2_19)))) ?_ (fun N_12 => ?_)
    · rintro ⟨F_55, l_21, l_22, l_23, l_24, l_25, b_27, l_26, l_27, b_26, v_21, v_22, v_23, v_24, v_25, v_26, v_27⟩ f_12 h_75 ⟨e0, e1, e2, e3, e4, e6, e8, e9, e10, e11, e12, e13, e14, e15, e16, e18, hK, hS, hL_s_On, hL_s_Off, hL_l, hL_1, hL_34, hL_35, hL_36, hL_37, hL_38, hM⟩
      refine HA.fr [(0, .agg #[.bool s_Exclude, vs_On, vs_Off]), (1, .agg (e_api_Addr a).toArray), (2, vr_1), (3, .pointer (some ⟨b_1, 0, none⟩)), (4, .pointer (some ⟨b_2, 0, none⟩)), (6, .bool false), (8, .pointer (some ⟨b_26, 0, none⟩)), (9, .agg #[.bool s_Exclude, vs_On, vs_Off]), (10, .agg #[.bool r_0_1, vr_1_1, v_24]), (11, vl), (12, vr_1), (13, .agg #[.bool r_0_1, vr_1_1, v_25]), (14, .agg #[.bool b_27, v_26, v_22]), (15, vr_1), (16, v_21), (18, .agg #[.bool r_0_1, vr_1_1, v_27])] ⟨e0, e1, e2, e3, e4, e6, e8, e9, e10, e11, e12, e13, e14, e15, e16, e18, trivial⟩ ?_
      refine HA.two (k := 4) (k' := 8) ⟨⟨hL_s_On.is, hL_s_Off.is, hL_l.is, hL_1.is, hL_34.is, hL_35.is, hL_36.is, hL_37.is, hL_38.is, (hS.own 1 rfl), (hS.own 2 rfl), (hS.own 3 rfl), (hS.box 4 rfl), (hS.box 5 rfl)⟩, (at_now (hS.box 0 rfl) (Go.Wk.at_nil _ _))⟩ (by kernel_rfl) ?_ ?_
      · replace hS : St F_55 (Ow.own 34 17 e_api_Addr v_22 l_22 :: Ow.box b_26 24 #[.bool false, .slice none 0 0, .slice none 0 0] :: Ow.own 34 17 e_api_Addr vr_1 r_2 :: Ow.own 34 17 e_api_Addr v_21 l_21 :: Ow.box b_2 34 (e_api_Addr a).toArray :: Ow.box b_1 24 #[.bool r_0_1, vr_1_1, v_23] :: fr) h_75 := hS.perm2 [3, 0, 1, 2, 4, 5] 6 rfl rfl
        have hZ_20 := hS
        have hkz_20 := (hS.freeze).2
        replace hS := hS.freeze.1
        have hL_116 : SliceF (fun b => F_55 b ∨ (Ow.own 34 17 e_api_Addr v_22 l_22).foot b) h_75 17 e_api_Addr v_22 l_22 := ⟨(hZ_20.own 0 rfl).slice, fun _ b hb => .inr hb⟩
        replace hS : St (fun b => F_55 b ∨ (Ow.own 34 17 e_api_Addr v_22 l_22).foot b) (Ow.own 34 17 e_api_Addr v_21 l_21 :: Ow.box b_26 24 #[.bool false, .slice none 0 0, .slice none 0 0] :: Ow.own 34 17 e_api_Addr vr_1 r_2 :: Ow.box b_2 34 (e_api_Addr a).toArray :: Ow.box b_1 24 #[.bool r_0_1, vr_1_1, v_23] :: fr) h_75 := hS.perm2 [2, 0, 1, 3, 4] 5 rfl rfl
        have hZ_21 := hS
        have hkz_21 := (hS.freeze).2
        replace hS := hS.freeze.1
        have hL_117 : SliceF (fun b => (fun b => F_55 b ∨ (Ow.own 34 17 e_api_Addr v_22 l_22).foot b) b ∨ (Ow.own 34 17 e_api_Addr v_21 l_21).foot b) h_75 17 e_api_Addr v_21 l_21 := ⟨(hZ_21.own 0 rfl).slice, fun _ b hb => .inr hb⟩
        refine HS.call rfl (want_none) rfl (ec en_19 rfl rfl) (filter_Expire_walk (fr := (Ow.box b_26 24 #[.bool false, .slice none 0 0, .slice none 0 0] :: Ow.own 34 17 e_api_Addr vr_1 r_2 :: Ow.box b_2 34 (e_api_Addr a).toArray :: Ow.box b_1 24 #[.bool r_0_1, vr_1_1, v_23] :: fr)) b_27 l_26 l_22 l_21 v_26 v_22 v_21 hS ((hL_37.kp hkz_20).kp hkz_21) (hL_116.kp hkz_21) hL_117 hM) ?_
        rintro _ h_76 ⟨F_56, r_0_21, r_1_21, r_2_21, vr_1_21, vr_2_21, rfl, hk, hS, _, _, _, hM⟩
        obtain ⟨hS, hk⟩ := hZ_21.back hk hS
        obtain ⟨hS, hk⟩ := hZ_20.back hk hS
        generalize (fun b => (fun b => F_56 b ∧ ¬ (Ow.own 34 17 e_api_Addr v_21 l_21).foot b) b ∧ ¬ (Ow.own 34 17 e_api_Addr v_22 l_22).foot b) = F_57 at hS hk
        replace hK := hK.trans hk
        replace hL_s_On := hL_s_On.kp hk
        replace hL_s_Off := hL_s_Off.kp hk
        replace hL_l := hL_l.kp hk
        replace hL_1 := hL_1.kp hk
        replace hL_34 := hL_34.kp hk
        replace hL_35 := hL_35.kp hk
        replace hL_36 := hL_36.kp hk
        replace hL_37 := hL_37.kp hk
        replace hL_38 := hL_38.kp hk
        replace hS : St F_57 (Ow.box b_26 24 #[.bool false, .slice none 0 0, .slice none 0 0] :: Ow.own 34 17 e_api_Addr v_22 l_22 :: Ow.own 34 17 e_api_Addr v_21 l_21 :: Ow.own 34 17 e_api_Addr vr_1_21 r_1_21 :: Ow.own 34 17 e_api_Addr vr_2_21 r_2_21 :: Ow.own 34 17 e_api_Addr vr_1 r_2 :: Ow.box b_2 34 (e_api_Addr a).toArray :: Ow.box b_1 24 #[.bool r_0_1, vr_1_1, v_23] :: fr) h_76 := hS.perm2 [4, 0, 1, 2, 3, 5, 6, 7] 8 rfl rfl
        refine Go.Wk.HA.re (fun h => (SliceIs h 17 e_api_Addr vs_On s_On) ∧ (SliceIs h 17 e_api_Addr vs_Off s_Off) ∧ (SliceIs h 17 e_api_Addr vl l) ∧ (SliceIs h 17 e_api_Addr vr_1_1 r_1_1) ∧ (SliceIs h 17 e_api_Addr v_23 l_23) ∧ (SliceIs h 17 e_api_Addr v_24 l_24) ∧ (SliceIs h 17 e_api_Addr v_25 l_25) ∧ (SliceIs h 17 e_api_Addr v_26 l_26) ∧ (SliceIs h 17 e_api_Addr v_27 l_27) ∧ (OwnIs h 0 34 17 e_api_Addr v_22 l_22) ∧ (OwnIs h 0 34 17 e_api_Addr v_21 l_21) ∧ (OwnIs h 0 34 17 e_api_Addr vr_1_21 r_1_21) ∧ (OwnIs h 0 34 17 e_api_Addr vr_2_21 r_2_21) ∧ (OwnIs h 0 34 17 e_api_Addr vr_1 r_2) ∧ (Blk h b_2 (.cells (e_api_Addr a).toArray 34 (0, 0))) ∧ (Blk h b_1 (.cells #[.bool r_0_1, vr_1_1, v_23] 24 (0, 0)))) [(11, fun h => (Blk h b_26 (.cells #[.bool false, .slice none 0 0, .slice none 0 0] 24 (0, 0))))] (fun L_ h_ hL_ ⟨hL_s_On, hL_s_Off, hL_l, hL_1, hL_34, hL_35, hL_36, hL_37, hL_38, c220, c232, c238, c239, c204, c202, c201⟩ hs_ => ⟨⟨hL_s_On, hL_s_Off, hL_l, hL_1, hL_34, hL_35, hL_36, hL_37, hL_38, c204, c232, c220, c202, c201⟩, (at_keep 0 rfl hs_ (fun c268 => c268) (Go.Wk.at_nil _ _))⟩) ?_
        exact N_9 (F_57, l_22, l_21, r_1_21, r_2_21, l_23, l_24, l_25, b_27, l_26, r_0_21, l_27, b_26, v_22, v_21, vr_1_21, vr_2_21, v_23, v_24, v_25, v_26, v_27) _ _ ⟨rfl, rfl, rfl, rfl, rfl, rfl, rfl, rfl, rfl, rfl, rfl, rfl, rfl, rfl, rfl, rfl, rfl, hK, hS, hL_s_On, hL_s_Off, hL_l, hL_1, hL_34, hL_35, hL_36, hL_37, hL_38, hM⟩
      · refine HS.eff rfl (want_none) rfl (st_alloc (c := #[.bool false, .slice none 0 0, .slice none 0 0]) hS tz_24 rfl) ?_
        rintro _ h_76 ⟨b_91, rfl, hS, hk⟩
        replace hK := hK.trans hk
        replace hL_s_On := hL_s_On.kp hk
        replace hL_s_Off := hL_s_Off.kp hk
        replace hL_l := hL_l.kp hk
        replace hL_1 := hL_1.kp hk
        replace hL_34 := hL_34.kp hk
        replace hL_35 := hL_35.kp hk
        replace hL_36 := hL_36.kp hk
        replace hL_37 := hL_37.kp hk
        replace hL_38 := hL_38.kp hk
        replace hS : St F_55 (Ow.box b_26 24 #[.bool false, .slice none 0 0, .slice none 0 0] :: Ow.box b_91 24 #[.bool false, .slice none 0 0, .slice none 0 0] :: Ow.own 34 17 e_api_Addr vr_1 r_2 :: Ow.own 34 17 e_api_Addr v_21 l_21 :: Ow.own 34 17 e_api_Addr v_22 l_22 :: Ow.box b_2 34 (e_api_Addr a).toArray :: Ow.box b_1 24 #[.bool r_0_1, vr_1_1, v_23] :: fr) h_76 := hS.perm2 [1, 0, 2, 3, 4, 5, 6] 7 rfl rfl
        refine Go.Wk.HA.re (fun h => (SliceIs h 17 e_api_Addr vs_On s_On) ∧ (SliceIs h 17 e_api_Addr vs_Off s_Off) ∧ (SliceIs h 17 e_api_Addr vl l) ∧ (SliceIs h 17 e_api_Addr vr_1_1 r_1_1) ∧ (SliceIs h 17 e_api_Addr v_23 l_23) ∧ (SliceIs h 17 e_api_Addr v_24 l_24) ∧ (SliceIs h 17 e_api_Addr v_25 l_25) ∧ (SliceIs h 17 e_api_Addr v_26 l_26) ∧ (SliceIs h 17 e_api_Addr v_27 l_27) ∧ (OwnIs h 0 34 17 e_api_Addr vr_1 r_2) ∧ (OwnIs h 0 34 17 e_api_Addr v_21 l_21) ∧ (OwnIs h 0 34 17 e_api_Addr v_22 l_22) ∧ (Blk h b_2 (.cells (e_api_Addr a).toArray 34 (0, 0))) ∧ (Blk h b_1 (.cells #[.bool r_0_1, vr_1_1, v_23] 24 (0, 0)))) [(10, fun h => (Blk h b_91 (.cells #[.bool false, .slice none 0 0, .slice none 0 0] 24 (0, 0)))), (11, fun h => (Blk h b_26 (.cells #[.bool false, .slice none 0 0, .slice none 0 0] 24 (0, 0))))] (fun L_ h_ hL_ ⟨hL_s_On, hL_s_Off, hL_l, hL_1, hL_34, hL_35, hL_36, hL_37, hL_38, c204, c232, c220, c202, c201⟩ hs_ => ⟨⟨hL_s_On, hL_s_Off, hL_l, hL_1, hL_34, hL_35, hL_36, hL_37, hL_38, c204, c232, c220, c202, c201⟩, (at_keep 1 rfl hs_ (fun c268 => c268) (Go.Wk.at_nil _ _))⟩) ?_
        exact N_10 (F_55, l_21, l_22, l_23, l_24, l_25, b_27, l_26, l_27, b_26, b_91, v_21, v_22, v_23, v_24, v_25, v_26, v_27) _ _ ⟨rfl, rfl, rfl, rfl, rfl, rfl, rfl, rfl, rfl, rfl, rfl, rfl, rfl, rfl, rfl, rfl, rfl, hK, hS, hL_s_On, hL_s_Off, hL_l, hL_1, hL_34, hL_35, hL_36, hL_37, hL_38, hM⟩
    refine HA.node (C1 := fun (i : Fz × (List T_api_Addr) × (List T_api_Addr) × (List T_api_Addr) × (List T_api_Addr) × Bool × (List T_api_Addr) × (List T_api_Addr) × Nat × Nat × Value × Value × Value × Value × Value × Value) => match i with | (F', l_28, l_29, l_30, l_31, b_31, l_32, l_33, b_29, b_30, v_28, v_29, v_30, v_31, v_32, v_33) => fun h => (SliceIs h 17 e_api_Addr vs_On s_On) ∧ (SliceIs h 17 e_api_Addr vs_Off s_Off) ∧ (SliceIs h 17 e_api_Addr vl l) ∧ (SliceIs h 17 e_api_Addr vr_1_1 r_1_1) ∧ (SliceIs h 17 e_api_Addr v_29 l_29) ∧ (SliceIs h 17 e_api_Addr v_30 l_30) ∧ (SliceIs h 17 e_api_Addr v_31 l_31) ∧ (SliceIs h 17 e_api_Addr v_32 l_32) ∧ (SliceIs h 17 e_api_Addr v_33 l_33) ∧ (OwnIs h 0 34 17 e_api_Addr v_28 l_28) ∧ (OwnIs h 0 34 17 e_api_Addr vr_1 r_2) ∧ (Blk h b_2 (.cells (e_api_Addr a).toArray 34 (0, 0))) ∧ (Blk h b_1 (.cells #[.bool r_0_1, vr_1_1, v_29] 24 (0, 0)))) (cs1 := fun (i : Fz × (List T_api_Addr) × (List T_api_Addr) × (List T_api_Addr) × (List T_api_Addr) × Bool × (List T_api_Addr) × (List T_api_Addr) × Nat × Nat × Value × Value × Value × Value × Value × Value) => match i with | (F', l_28, l_29, l_30, l_31, b_31, l_32, l_33, b_29, b_30, v_28, v_29, v_30, v_31, v_32, v_33) => [(10, fun h => (Blk h b_30 (.cells #[.bool false, .slice none 0 0, .slice none 0 0] 24 (0, 0)))), (11, fun h => (Blk h b_29 (.cells #[.bool false, .slice none 0 0, .slice none 0 0] 24 (0, 0))))]) (fuel1 := 6) (listed1 := #[true, true, true, false, false, true, false, false, true, true, false, false]) (fun (i : Fz × (List T_api_Addr) × (List T_api_Addr) × (List T_api_Addr) × (List T_api_Addr) × Bool × (List T_api_Addr) × (List T_api_Addr) × Nat × Nat × Value × Value × Value × Value × Value × Value) f h => match i with | (F', l_28, l_29, l_30, l_31, b_31, l_32, l_33, b_29, b_30, v_28, v_29, v_30, v_31, v_32, v_33) => f 0 = .agg #[.bool s_Exclude, vs_On, vs_Off] ∧ f 1 = .agg (e_api_Addr a).toArray ∧ f 2 = vr_1 ∧ f 3 = .pointer (some ⟨b_1, 0, none⟩) ∧ f 4 = .pointer (some ⟨b_2, 0, none⟩) ∧ f 6 = .bool false ∧ f 7 = .pointer (some ⟨b_30, 0, none⟩) ∧ f 8 = .pointer (some ⟨b_29, 0, none⟩) ∧ f 9 = .agg #[.bool s_Exclude, vs_On, vs_Off] ∧ f 10 = .agg #[.bool r_0_1, vr_1_1, v_30] ∧ f 11 = vl ∧ f 12 = vr_1 ∧ f 13 = .agg #[.bool r_0_1, vr_1_1, v_31] ∧ f 14 = .agg #[.bool b_31, v_32, v_28] ∧ f 15 = vr_1 ∧ f 18 = .agg #[.bool r_0_1, vr_1_1, v_33] ∧ Kp F h0 F' h ∧ St F' (Ow.box b_29 24 #[.bool false, .slice none 0 0, .slice none 0 0] :: Ow.box b_30 24 #[.bool false, .slice none 0 0, .slice none 0 0] :: Ow.own 34 17 e_api_Addr v_28 l_28 :: Ow.own 34 17 e_api_Addr vr_1 r_2 :: Ow.box b_2 34 (e_api_Addr a).toArray :: Ow.box b_1 24 #[.bool r_0_1, vr_1_1, v_29] :: fr) h ∧ (SliceF F' h 17 e_api_Addr vs_On s_On) ∧ (SliceF F' h 17 e_api_Addr vs_Off s_Off) ∧ (SliceF F' h 17 e_api_Addr vl l) ∧ (SliceF F' h 17 e_api_Addr vr_1_1 r_1_1) ∧ (SliceF F' h 17 e_api_Addr v_29 l_29) ∧ (SliceF F' h 17 e_api_Addr v_30 l_30) ∧ (SliceF F' h 17 e_api_Addr v_31 l_31) ∧ (SliceF F' h 17 e_api_Addr v_32 l_32) ∧ (SliceF F' h 17 e_api_Addr v_33 l_33) ∧ law08_Addrs_W r_2 6 (fun r_7 => filter_Expire_W b_31 l_32 l_28 r_7 (fun r_0_20 r_1_20 r_2_20 => law15_Few_W r_0_1 r_1_1 l_33 (fun r_0_19 r_1_19 r_2_19 => filter_Turn_W r_0_19 r_1_19 r_2_19 (fun r_0_18 r_1_18 r_2_18 => law15_FilterLets_j1 a Q r_0_1 r_1_1 r_2 l_29 r_0_20 r_1_20 r_2_20 r_0_18 r_1_18 r_2_18))))) ?_ (fun N_13 => ?_)
    · rintro ⟨F_56, l_28, l_29, l_30, l_31, b_31, l_32, l_33, b_29, b_30, v_28, v_29, v_30, v_31, v_32, v_33⟩ f_13 h_77 ⟨e0, e1, e2, e3, e4, e6, e7, e8, e9, e10, e11, e12, e13, e14, e15, e18, hK, hS, hL_s_On, hL_s_Off, hL_l, hL_1, hL_41, hL_42, hL_43, hL_44, hL_45, hM⟩
      refine HA.fr [(0, .agg #[.bool s_Exclude, vs_On, vs_Off]), (1, .agg (e_api_Addr a).toArray), (2, vr_1), (3, .pointer (some ⟨b_1, 0, none⟩)), (4, .pointer (some ⟨b_2, 0, none⟩)), (6, .bool false), (7, .pointer (some ⟨b_30, 0, none⟩)), (8, .pointer (some ⟨b_29, 0, none⟩)), (9, .agg #[.bool s_Exclude, vs_On, vs_Off]), (10, .agg #[.bool r_0_1, vr_1_1, v_30]), (11, vl), (12, vr_1), (13, .agg #[.bool r_0_1, vr_1_1, v_31]), (14, .agg #[.bool b_31, v_32, v_28]), (15, vr_1), (18, .agg #[.bool r_0_1, vr_1_1, v_33])] ⟨e0, e1, e2, e3, e4, e6, e7, e8, e9, e10, e11, e12, e13, e14, e15, e18, trivial⟩ ?_
      refine HA.one (k := 3) ⟨⟨hL_s_On.is, hL_s_Off.is, hL_l.is, hL_1.is, hL_41.is, hL_42.is, hL_43.is, hL_44.is, hL_45.is, (hS.own 2 rfl), (hS.own 3 rfl), (hS.box 4 rfl), (hS.box 5 rfl)⟩, (at_now (hS.box 1 rfl) (at_now (hS.box 0 rfl) (Go.Wk.at_nil _ _)))⟩ (by kernel_rfl) ?_
      replace hS : St F_56 (Ow.own 34 17 e_api_Addr vr_1 r_2 :: Ow.box b_29 24 #[.bool false, .slice none 0 0, .slice none 0 0] :: Ow.box b_30 24 #[.bool false, .slice none 0 0, .slice none 0 0] :: Ow.own 34 17 e_api_Addr v_28 l_28 :: Ow.box b_2 34 (e_api_Addr a).toArray :: Ow.box b_1 24 #[.bool r_0_1, vr_1_1, v_29] :: fr) h_77 := hS.perm2 [3, 0, 1, 2, 4, 5] 6 rfl rfl
      have hZ_20 := hS
      have hkz_20 := (hS.freeze).2
      replace hS := hS.freeze.1
      have hL_116 : SliceF (fun b => F_56 b ∨ (Ow.own 34 17 e_api_Addr vr_1 r_2).foot b) h_77 17 e_api_Addr vr_1 r_2 := ⟨(hZ_20.own 0 rfl).slice, fun _ b hb => .inr hb⟩
      refine HS.call rfl (want_none) rfl (ec en_9 rfl rfl) (law08_Addrs_walk (fr := (Ow.box b_29 24 #[.bool false, .slice none 0 0, .slice none 0 0] :: Ow.box b_30 24 #[.bool false, .slice none 0 0, .slice none 0 0] :: Ow.own 34 17 e_api_Addr v_28 l_28 :: Ow.box b_2 34 (e_api_Addr a).toArray :: Ow.box b_1 24 #[.bool r_0_1, vr_1_1, v_29] :: fr)) r_2 6 vr_1 hS hL_116 hM) ?_
      rintro vr_6 h_78 ⟨F_57, r_7, _, rfl, hk, hS, _, hM⟩
      obtain ⟨hS, hk⟩ := hZ_20.back hk hS
      generalize (fun b => F_57 b ∧ ¬ (Ow.own 34 17 e_api_Addr vr_1 r_2).foot b) = F_58 at hS hk
      replace hK := hK.trans hk
      replace hL_s_On := hL_s_On.kp hk
      replace hL_s_Off := hL_s_Off.kp hk
      replace hL_l := hL_l.kp hk
      replace hL_1 := hL_1.kp hk
      replace hL_41 := hL_41.kp hk
      replace hL_42 := hL_42.kp hk
      replace hL_43 := hL_43.kp hk
      replace hL_44 := hL_44.kp hk
      replace hL_45 := hL_45.kp hk
      replace hS : St F_58 (Ow.box b_29 24 #[.bool false, .slice none 0 0, .slice none 0 0] :: Ow.box b_30 24 #[.bool false, .slice none 0 0, .slice none 0 0] :: Ow.own 34 17 e_api_Addr vr_1 r_2 :: Ow.own 34 17 e_api_Addr vr_6 r_7 :: Ow.own 34 17 e_api_Addr v_28 l_28 :: Ow.box b_2 34 (e_api_Addr a).toArray :: Ow.box b_1 24 #[.bool r_0_1, vr_1_1, v_29] :: fr) h_78 := hS.perm2 [2, 3, 0, 1, 4, 5, 6] 7 rfl rfl
      refine Go.Wk.HA.re (fun h => (SliceIs h 17 e_api_Addr vs_On s_On) ∧ (SliceIs h 17 e_api_Addr vs_Off s_Off) ∧ (SliceIs h 17 e_api_Addr vl l) ∧ (SliceIs h 17 e_api_Addr vr_1_1 r_1_1) ∧ (SliceIs h 17 e_api_Addr v_29 l_29) ∧ (SliceIs h 17 e_api_Addr v_30 l_30) ∧ (SliceIs h 17 e_api_Addr v_31 l_31) ∧ (SliceIs h 17 e_api_Addr v_32 l_32) ∧ (SliceIs h 17 e_api_Addr v_33 l_33) ∧ (OwnIs h 0 34 17 e_api_Addr vr_1 r_2) ∧ (OwnIs h 0 34 17 e_api_Addr vr_6 r_7) ∧ (OwnIs h 0 34 17 e_api_Addr v_28 l_28) ∧ (Blk h b_2 (.cells (e_api_Addr a).toArray 34 (0, 0))) ∧ (Blk h b_1 (.cells #[.bool r_0_1, vr_1_1, v_29] 24 (0, 0)))) [(10, fun h => (Blk h b_30 (.cells #[.bool false, .slice none 0 0, .slice none 0 0] 24 (0, 0)))), (11, fun h => (Blk h b_29 (.cells #[.bool false, .slice none 0 0, .slice none 0 0] 24 (0, 0))))] (fun L_ h_ hL_ ⟨hL_s_On, hL_s_Off, hL_l, hL_1, hL_41, hL_42, hL_43, hL_44, hL_45, c204, c232, c220, c202, c201⟩ hs_ => ⟨⟨hL_s_On, hL_s_Off, hL_l, hL_1, hL_41, hL_42, hL_43, hL_44, hL_45, c220, c204, c202, c201⟩, (at_keep 0 rfl hs_ (fun c262 => c262) (at_keep 1 rfl hs_ (fun c268 => c268) (Go.Wk.at_nil _ _)))⟩) ?_
      exact N_10 (F_58, r_7, l_28, l_29, l_30, l_31, b_31, l_32, l_33, b_29, b_30, vr_6, v_28, v_29, v_30, v_31, v_32, v_33) _ _ ⟨rfl, rfl, rfl, rfl, rfl, rfl, rfl, rfl, rfl, rfl, rfl, rfl, rfl, rfl, rfl, rfl, rfl, hK, hS, hL_s_On, hL_s_Off, hL_l, hL_1, hL_41, hL_42, hL_43, hL_44, hL_45, hM⟩
    refine HA.node (C1 := fun (i : Fz × (List T_api_Addr) × (List T_api_Addr) × (List T_api_Addr) × (List T_api_Addr) × Bool × (List T_api_Addr) × (List T_api_Addr) × Nat × Value × Value × Value × Value × Value × Value) => match i with | (F', l_2, l_3, l_4, l_5, b_14, l_6, l_7, b_13, v_2, v_3, v_4, v_5, v_6, v_7) => fun h => (SliceIs h 17 e_api_Addr vs_On s_On) ∧ (SliceIs h 17 e_api_Addr vs_Off s_Off) ∧ (SliceIs h 17 e_api_Addr vl l) ∧ (SliceIs h 17 e_api_Addr vr_1_1 r_1_1) ∧ (SliceIs h 17 e_api_Addr v_3 l_3) ∧ (SliceIs h 17 e_api_Addr v_4 l_4) ∧ (SliceIs h 17 e_api_Addr v_5 l_5) ∧ (SliceIs h 17 e_api_Addr v_6 l_6) ∧ (SliceIs h 17 e_api_Addr v_7 l_7) ∧ (OwnIs h 0 34 17 e_api_Addr v_2 l_2) ∧ (OwnIs h 0 34 17 e_api_Addr vr_1 r_2) ∧ (Blk h b_2 (.cells (e_api_Addr a).toArray 34 (0, 0))) ∧ (Blk h b_1 (.cells #[.bool r_0_1, vr_1_1, v_3] 24 (0, 0)))) (cs1 := fun (i : Fz × (List T_api_Addr) × (List T_api_Addr) × (List T_api_Addr) × (List T_api_Addr) × Bool × (List T_api_Addr) × (List T_api_Addr) × Nat × Value × Value × Value × Value × Value × Value) => match i with | (F', l_2, l_3, l_4, l_5, b_14, l_6, l_7, b_13, v_2, v_3, v_4, v_5, v_6, v_7) => [(10, fun h => (Blk h b_13 (.cells #[.bool false, .slice none 0 0, .slice none 0 0] 24 (0, 0))))]) (fuel1 := 7) (listed1 := #[true, true, true, false, false, true, false, false, true, false, false, false]) (fun (i : Fz × (List T_api_Addr) × (List T_api_Addr) × (List T_api_Addr) × (List T_api_Addr) × Bool × (List T_api_Addr) × (List T_api_Addr) × Nat × Value × Value × Value × Value × Value × Value) f h => match i with | (F', l_2, l_3, l_4, l_5, b_14, l_6, l_7, b_13, v_2, v_3, v_4, v_5, v_6, v_7) => f 0 = .agg #[.bool s_Exclude, vs_On, vs_Off] ∧ f 1 = .agg (e_api_Addr a).toArray ∧ f 2 = vr_1 ∧ f 3 = .pointer (some ⟨b_1, 0, none⟩) ∧ f 4 = .pointer (some ⟨b_2, 0, none⟩) ∧ f 6 = .bool false ∧ f 7 = .pointer (some ⟨b_13, 0, none⟩) ∧ f 9 = .agg #[.bool s_Exclude, vs_On, vs_Off] ∧ f 10 = .agg #[.bool r_0_1, vr_1_1, v_4] ∧ f 11 = vl ∧ f 12 = vr_1 ∧ f 13 = .agg #[.bool r_0_1, vr_1_1, v_5] ∧ f 14 = .agg #[.bool b_14, v_6, v_2] ∧ f 15 = vr_1 ∧ f 18 = .agg #[.bool r_0_1, vr_1_1, v_7] ∧ Kp F h0 F' h ∧ St F' (Ow.box b_13 24 #[.bool false, .slice none 0 0, .slice none 0 0] :: Ow.own 34 17 e_api_Addr v_2 l_2 :: Ow.own 34 17 e_api_Addr vr_1 r_2 :: Ow.box b_2 34 (e_api_Addr a).toArray :: Ow.box b_1 24 #[.bool r_0_1, vr_1_1, v_3] :: fr) h ∧ (SliceF F' h 17 e_api_Addr vs_On s_On) ∧ (SliceF F' h 17 e_api_Addr vs_Off s_Off) ∧ (SliceF F' h 17 e_api_Addr vl l) ∧ (SliceF F' h 17 e_api_Addr vr_1_1 r_1_1) ∧ (SliceF F' h 17 e_api_Addr v_3 l_3) ∧ (SliceF F' h 17 e_api_Addr v_4 l_4) ∧ (SliceF F' h 17 e_api_Addr v_5 l_5) ∧ (SliceF F' h 17 e_api_Addr v_6 l_6) ∧ (SliceF F' h 17 e_api_Addr v_7 l_7) ∧ law08_Addrs_W r_2 6 (fun r_8 => filter_Expire_W b_14 l_6 l_2 r_8 (fun r_0_21 r_1_21 r_2_21 => law15_Few_W r_0_1 r_1_1 l_7 (fun r_0_20 r_1_20 r_2_20 => filter_Turn_W r_0_20 r_1_20 r_2_20 (fun r_0_19 r_1_19 r_2_19 => law15_FilterLets_j1 a Q r_0_1 r_1_1 r_2 l_3 r_0_21 r_1_21 r_2_21 r_0_19 r_1_19 r_2_19))))) ?_ (fun N_14 => ?_)
    · rintro ⟨F_59, l_2, l_3, l_4, l_5, b_14, l_6, l_7, b_13, v_2, v_3, v_4, v_5, v_6, v_7⟩ f_14 h_79 ⟨e0, e1, e2, e3, e4, e6, e7, e9, e10, e11, e12, e13, e14, e15, e18, hK, hS, hL_s_On, hL_s_Off, hL_l, hL_1, hL_12, hL_13, hL_14, hL_15, hL_16, hM⟩
      refine HA.fr [(0, .agg #[.bool s_Exclude, vs_On, vs_Off]), (1, .agg (e_api_Addr a).toArray), (2, vr_1), (3, .pointer (some ⟨b_1, 0, none⟩)), (4, .pointer (some ⟨b_2, 0, none⟩)), (6, .bool false), (7, .pointer (some ⟨b_13, 0, none⟩)), (9, .agg #[.bool s_Exclude, vs_On, vs_Off]), (10, .agg #[.bool r_0_1, vr_1_1, v_4]), (11, vl), (12, vr_1), (13, .agg #[.bool r_0_1, vr_1_1, v_5]), (14, .agg #[.bool b_14, v_6, v_2]), (15, vr_1), (18, .agg #[.bool r_0_1, vr_1_1, v_7])] ⟨e0, e1, e2, e3, e4, e6, e7, e9, e10, e11, e12, e13, e14, e15, e18, trivial⟩ ?_
      refine HA.two (k := 3) (k' := 9) ⟨⟨hL_s_On.is, hL_s_Off.is, hL_l.is, hL_1.is, hL_12.is, hL_13.is, hL_14.is, hL_15.is, hL_16.is, (hS.own 1 rfl), (hS.own 2 rfl), (hS.box 3 rfl), (hS.box 4 rfl)⟩, (at_now (hS.box 0 rfl) (Go.Wk.at_nil _ _))⟩ (by kernel_rfl) ?_ ?_
      · replace hS : St F_59 (Ow.own 34 17 e_api_Addr vr_1 r_2 :: Ow.box b_13 24 #[.bool false, .slice none 0 0, .slice none 0 0] :: Ow.own 34 17 e_api_Addr v_2 l_2 :: Ow.box b_2 34 (e_api_Addr a).toArray :: Ow.box b_1 24 #[.bool r_0_1, vr_1_1, v_3] :: fr) h_79 := hS.perm2 [2, 0, 1, 3, 4] 5 rfl rfl
        have hZ_21 := hS
        have hkz_21 := (hS.freeze).2
        replace hS := hS.freeze.1
        have hL_117 : SliceF (fun b => F_59 b ∨ (Ow.own 34 17 e_api_Addr vr_1 r_2).foot b) h_79 17 e_api_Addr vr_1 r_2 := ⟨(hZ_21.own 0 rfl).slice, fun _ b hb => .inr hb⟩
        refine HS.call rfl (want_none) rfl (ec en_9 rfl rfl) (law08_Addrs_walk (fr := (Ow.box b_13 24 #[.bool false, .slice none 0 0, .slice none 0 0] :: Ow.own 34 17 e_api_Addr v_2 l_2 :: Ow.box b_2 34 (e_api_Addr a).toArray :: Ow.box b_1 24 #[.bool r_0_1, vr_1_1, v_3] :: fr)) r_2 6 vr_1 hS hL_117 hM) ?_
        rintro vr_7 h_80 ⟨F_60, r_8, _, rfl, hk, hS, _, hM⟩
        obtain ⟨hS, hk⟩ := hZ_21.back hk hS
        generalize (fun b => F_60 b ∧ ¬ (Ow.own 34 17 e_api_Addr vr_1 r_2).foot b) = F_61 at hS hk
        replace hK := hK.trans hk
        replace hL_s_On := hL_s_On.kp hk
        replace hL_s_Off := hL_s_Off.kp hk
        replace hL_l := hL_l.kp hk
        replace hL_1 := hL_1.kp hk
        replace hL_12 := hL_12.kp hk
        replace hL_13 := hL_13.kp hk
        replace hL_14 := hL_14.kp hk
        replace hL_15 := hL_15.kp hk
        replace hL_16 := hL_16.kp hk
        replace hS : St F_61 (Ow.box b_13 24 #[.bool false, .slice none 0 0, .slice none 0 0] :: Ow.own 34 17 e_api_Addr vr_1 r_2 :: Ow.own 34 17 e_api_Addr vr_7 r_8 :: Ow.own 34 17 e_api_Addr v_2 l_2 :: Ow.box b_2 34 (e_api_Addr a).toArray :: Ow.box b_1 24 #[.bool r_0_1, vr_1_1, v_3] :: fr) h_80 := hS.perm2 [2, 0, 1, 3, 4, 5] 6 rfl rfl
        refine Go.Wk.HA.re (fun h => (SliceIs h 17 e_api_Addr vs_On s_On) ∧ (SliceIs h 17 e_api_Addr vs_Off s_Off) ∧ (SliceIs h 17 e_api_Addr vl l) ∧ (SliceIs h 17 e_api_Addr vr_1_1 r_1_1) ∧ (SliceIs h 17 e_api_Addr v_3 l_3) ∧ (SliceIs h 17 e_api_Addr v_4 l_4) ∧ (SliceIs h 17 e_api_Addr v_5 l_5) ∧ (SliceIs h 17 e_api_Addr v_6 l_6) ∧ (SliceIs h 17 e_api_Addr v_7 l_7) ∧ (OwnIs h 0 34 17 e_api_Addr vr_1 r_2) ∧ (OwnIs h 0 34 17 e_api_Addr vr_7 r_8) ∧ (OwnIs h 0 34 17 e_api_Addr v_2 l_2) ∧ (Blk h b_2 (.cells (e_api_Addr a).toArray 34 (0, 0))) ∧ (Blk h b_1 (.cells #[.bool r_0_1, vr_1_1, v_3] 24 (0, 0)))) [(10, fun h => (Blk h b_13 (.cells #[.bool false, .slice none 0 0, .slice none 0 0] 24 (0, 0))))] (fun L_ h_ hL_ ⟨hL_s_On, hL_s_Off, hL_l, hL_1, hL_12, hL_13, hL_14, hL_15, hL_16, c204, c232, c220, c202, c201⟩ hs_ => ⟨⟨hL_s_On, hL_s_Off, hL_l, hL_1, hL_12, hL_13, hL_14, hL_15, hL_16, c220, c204, c202, c201⟩, (at_keep 0 rfl hs_ (fun c262 => c262) (Go.Wk.at_nil _ _))⟩) ?_
        exact N_11 (F_61, r_8, l_2, l_3, l_4, l_5, b_14, l_6, l_7, b_13, vr_7, v_2, v_3, v_4, v_5, v_6, v_7) _ _ ⟨rfl, rfl, rfl, rfl, rfl, rfl, rfl, rfl, rfl, rfl, rfl, rfl, rfl, rfl, rfl, rfl, hK, hS, hL_s_On, hL_s_Off, hL_l, hL_1, hL_12, hL_13, hL_14, hL_15, hL_16, hM⟩
      · refine HS.eff rfl (want_none) rfl (st_alloc (c := #[.bool false, .slice none 0 0, .slice none 0 0]) hS tz_24 rfl) ?_
        rintro _ h_80 ⟨b_92, rfl, hS, hk⟩
        replace hK := hK.trans hk
        replace hL_s_On := hL_s_On.kp hk
        replace hL_s_Off := hL_s_Off.kp hk
        replace hL_l := hL_l.kp hk
        replace hL_1 := hL_1.kp hk
        replace hL_12 := hL_12.kp hk
        replace hL_13 := hL_13.kp hk
        replace hL_14 := hL_14.kp hk
        replace hL_15 := hL_15.kp hk
        replace hL_16 := hL_16.kp hk
        refine Go.Wk.HA.re (fun h => (SliceIs h 17 e_api_Addr vs_On s_On) ∧ (SliceIs h 17 e_api_Addr vs_Off s_Off) ∧ (SliceIs h 17 e_api_Addr vl l) ∧ (SliceIs h 17 e_api_Addr vr_1_1 r_1_1) ∧ (SliceIs h 17 e_api_Addr v_3 l_3) ∧ (SliceIs h 17 e_api_Addr v_4 l_4) ∧ (SliceIs h 17 e_api_Addr v_5 l_5) ∧ (SliceIs h 17 e_api_Addr v_6 l_6) ∧ (SliceIs h 17 e_api_Addr v_7 l_7) ∧ (OwnIs h 0 34 17 e_api_Addr v_2 l_2) ∧ (OwnIs h 0 34 17 e_api_Addr vr_1 r_2) ∧ (Blk h b_2 (.cells (e_api_Addr a).toArray 34 (0, 0))) ∧ (Blk h b_1 (.cells #[.bool r_0_1, vr_1_1, v_3] 24 (0, 0)))) [(10, fun h => (Blk h b_13 (.cells #[.bool false, .slice none 0 0, .slice none 0 0] 24 (0, 0)))), (11, fun h => (Blk h b_92 (.cells #[.bool false, .slice none 0 0, .slice none 0 0] 24 (0, 0))))] (fun L_ h_ hL_ ⟨hL_s_On, hL_s_Off, hL_l, hL_1, hL_12, hL_13, hL_14, hL_15, hL_16, c220, c204, c202, c201⟩ hs_ => ⟨⟨hL_s_On, hL_s_Off, hL_l, hL_1, hL_12, hL_13, hL_14, hL_15, hL_16, c220, c204, c202, c201⟩, (at_keep 0 rfl hs_ (fun c262 => c262) (Go.Wk.at_nil _ _))⟩) ?_
        exact N_13 (F_59, l_2, l_3, l_4, l_5, b_14, l_6, l_7, b_92, b_13, v_2, v_3, v_4, v_5, v_6, v_7) _ _ ⟨rfl, rfl, rfl, rfl, rfl, rfl, rfl, rfl, rfl, rfl, rfl, rfl, rfl, rfl, rfl, rfl, hK, hS, hL_s_On, hL_s_Off, hL_l, hL_1, hL_12, hL_13, hL_14, hL_15, hL_16, hM⟩
    refine HA.node (C1 := fun (i : Fz × (List T_api_Addr) × (List T_api_Addr) × (List T_api_Addr) × (List T_api_Addr) × Bool × (List T_api_Addr) × (List T_api_Addr) × Nat × Value × Value × Value × Value × Value × Value) => match i with | (F', l_8, l_9, l_10, l_11, b_17, l_12, l_13, b_16, v_8, v_9, v_10, v_11, v_12, v_13) => fun h => (SliceIs h 17 e_api_Addr vs_On s_On) ∧ (SliceIs h 17 e_api_Addr vs_Off s_Off) ∧ (SliceIs h 17 e_api_Addr vl l) ∧ (SliceIs h 17 e_api_Addr vr_1_1 r_1_1) ∧ (SliceIs h 17 e_api_Addr v_9 l_9) ∧ (SliceIs h 17 e_api_Addr v_10 l_10) ∧ (SliceIs h 17 e_api_Addr v_11 l_11) ∧ (SliceIs h 17 e_api_Addr v_12 l_12) ∧ (SliceIs h 17 e_api_Addr v_13 l_13) ∧ (OwnIs h 0 34 17 e_api_Addr v_8 l_8) ∧ (OwnIs h 0 34 17 e_api_Addr vr_1 r_2) ∧ (Blk h b_2 (.cells (e_api_Addr a).toArray 34 (0, 0))) ∧ (Blk h b_1 (.cells #[.bool r_0_1, vr_1_1, v_9] 24 (0, 0)))) (cs1 := fun (i : Fz × (List T_api_Addr) × (List T_api_Addr) × (List T_api_Addr) × (List T_api_Addr) × Bool × (List T_api_Addr) × (List T_api_Addr) × Nat × Value × Value × Value × Value × Value × Value) => match i with | (F', l_8, l_9, l_10, l_11, b_17, l_12, l_13, b_16, v_8, v_9, v_10, v_11, v_12, v_13) => [(11, fun h => (Blk h b_16 (.cells #[.bool false, .slice none 0 0, .slice none 0 0] 24 (0, 0))))]) (fuel1 := 7) (listed1 := #[true, true, true, false, false, true, false, false, false, true, false, false]) (fun (i : Fz × (List T_api_Addr) × (List T_api_Addr) × (List T_api_Addr) × (List T_api_Addr) × Bool × (List T_api_Addr) × (List T_api_Addr) × Nat × Value × Value × Value × Value × Value × Value) f h => match i with | (F', l_8, l_9, l_10, l_11, b_17, l_12, l_13, b_16, v_8, v_9, v_10, v_11, v_12, v_13) => f 0 = .agg #[.bool s_Exclude, vs_On, vs_Off] ∧ f 1 = .agg (e_api_Addr a).toArray ∧ f 2 = vr_1 ∧ f 3 = .pointer (some ⟨b_1, 0, none⟩) ∧ f 4 = .pointer (some ⟨b_2, 0, none⟩) ∧ f 6 = .bool false ∧ f 8 = .pointer (some ⟨b_16, 0, none⟩) ∧ f 9 = .agg #[.bool s_Exclude, vs_On, vs_Off] ∧ f 10 = .agg #[.bool r_0_1, vr_1_1, v_10] ∧ f 11 = vl ∧ f 12 = vr_1 ∧ f 13 = .agg #[.bool r_0_1, vr_1_1, v_11] ∧ f 14 = .agg #[.bool b_17, v_12, v_8] ∧ f 15 = vr_1 ∧ f 18 = .agg #[.bool r_0_1, vr_1_1, v_13] ∧ Kp F h0 F' h ∧ St F' (Ow.box b_16 24 #[.bool false, .slice none 0 0, .slice none 0 0] :: Ow.own 34 17 e_api_Addr v_8 l_8 :: Ow.own 34 17 e_api_Addr vr_1 r_2 :: Ow.box b_2 34 (e_api_Addr a).toArray :: Ow.box b_1 24 #[.bool r_0_1, vr_1_1, v_9] :: fr) h ∧ (SliceF F' h 17 e_api_Addr vs_On s_On) ∧ (SliceF F' h 17 e_api_Addr vs_Off s_Off) ∧ (SliceF F' h 17 e_api_Addr vl l) ∧ (SliceF F' h 17 e_api_Addr vr_1_1 r_1_1) ∧ (SliceF F' h 17 e_api_Addr v_9 l_9) ∧ (SliceF F' h 17 e_api_Addr v_10 l_10) ∧ (SliceF F' h 17 e_api_Addr v_11 l_11) ∧ (SliceF F' h 17 e_api_Addr v_12 l_12) ∧ (SliceF F' h 17 e_api_Addr v_13 l_13) ∧ law08_Addrs_W r_2 6 (fun r_8 => filter_Expire_W b_17 l_12 l_8 r_8 (fun r_0_21 r_1_21 r_2_21 => law15_Few_W r_0_1 r_1_1 l_13 (fun r_0_20 r_1_20 r_2_20 => filter_Turn_W r_0_20 r_1_20 r_2_20 (fun r_0_19 r_1_19 r_2_19 => law15_FilterLets_j1 a Q r_0_1 r_1_1 r_2 l_9 r_0_21 r_1_21 r_2_21 r_0_19 r_1_19 r_2_19))))) ?_ (fun N_15 => ?_)
    · rintro ⟨F_60, l_8, l_9, l_10, l_11, b_17, l_12, l_13, b_16, v_8, v_9, v_10, v_11, v_12, v_13⟩ f_15 h_81 ⟨e0, e1, e2, e3, e4, e6, e8, e9, e10, e11, e12, e13, e14, e15, e18, hK, hS, hL_s_On, hL_s_Off, hL_l, hL_1, hL_18, hL_19, hL_20, hL_21, hL_22, hM⟩
      refine HA.fr [(0, .agg #[.bool s_Exclude, vs_On, vs_Off]), (1, .agg (e_api_Addr a).toArray), (2, vr_1), (3, .pointer (some ⟨b_1, 0, none⟩)), (4, .pointer (some ⟨b_2, 0, none⟩)), (6, .bool false), (8, .pointer (some ⟨b_16, 0, none⟩)), (9, .agg #[.bool s_Exclude, vs_On, vs_Off]), (10, .agg #[.bool r_0_1, vr_1_1, v_10]), (11, vl), (12, vr_1), (13, .agg #[.bool r_0_1, vr_1_1, v_11]), (14, .agg #[.bool b_17, v_12, v_8]), (15, vr_1), (18, .agg #[.bool r_0_1, vr_1_1, v_13])] ⟨e0, e1, e2, e3, e4, e6, e8, e9, e10, e11, e12, e13, e14, e15, e18, trivial⟩ ?_
      refine HA.two (k := 3) (k' := 8) ⟨⟨hL_s_On.is, hL_s_Off.is, hL_l.is, hL_1.is, hL_18.is, hL_19.is, hL_20.is, hL_21.is, hL_22.is, (hS.own 1 rfl), (hS.own 2 rfl), (hS.box 3 rfl), (hS.box 4 rfl)⟩, (at_now (hS.box 0 rfl) (Go.Wk.at_nil _ _))⟩ (by kernel_rfl) ?_ ?_
      · replace hS : St F_60 (Ow.own 34 17 e_api_Addr vr_1 r_2 :: Ow.box b_16 24 #[.bool false, .slice none 0 0, .slice none 0 0] :: Ow.own 34 17 e_api_Addr v_8 l_8 :: Ow.box b_2 34 (e_api_Addr a).toArray :: Ow.box b_1 24 #[.bool r_0_1, vr_1_1, v_9] :: fr) h_81 := hS.perm2 [2, 0, 1, 3, 4] 5 rfl rfl
        have hZ_21 := hS
        have hkz_21 := (hS.freeze).2
        replace hS := hS.freeze.1
        have hL_117 : SliceF (fun b => F_60 b ∨ (Ow.own 34 17 e_api_Addr vr_1 r_2).foot b) h_81 17 e_api_Addr vr_1 r_2 := ⟨(hZ_21.own 0 rfl).slice, fun _ b hb => .inr hb⟩
        refine HS.call rfl (want_none) rfl (ec en_9 rfl rfl) (law08_Addrs_walk (fr := (Ow.box b_16 24 #[.bool false, .slice none 0 0, .slice none 0 0] :: Ow.own 34 17 e_api_Addr v_8 l_8 :: Ow.box b_2 34 (e_api_Addr a).toArray :: Ow.box b_1 24 #[.bool r_0_1, vr_1_1, v_9] :: fr)) r_2 6 vr_1 hS hL_117 hM) ?_
        rintro vr_7 h_82 ⟨F_61, r_8, _, rfl, hk, hS, _, hM⟩
        obtain ⟨hS, hk⟩ := hZ_21.back hk hS
        generalize (fun b => F_61 b ∧ ¬ (Ow.own 34 17 e_api_Addr vr_1 r_2).foot b) = F_62 at hS hk
        replace hK := hK.trans hk
        replace hL_s_On := hL_s_On.kp hk
        replace hL_s_Off := hL_s_Off.kp hk
        replace hL_l := hL_l.kp hk
        replace hL_1 := hL_1.kp hk
        replace hL_18 := hL_18.kp hk
        replace hL_19 := hL_19.kp hk
        replace hL_20 := hL_20.kp hk
        replace hL_21 := hL_21.kp hk
        replace hL_22 := hL_22.kp hk
        replace hS : St F_62 (Ow.box b_16 24 #[.bool false, .slice none 0 0, .slice none 0 0] :: Ow.own 34 17 e_api_Addr vr_1 r_2 :: Ow.own 34 17 e_api_Addr vr_7 r_8 :: Ow.own 34 17 e_api_Addr v_8 l_8 :: Ow.box b_2 34 (e_api_Addr a).toArray :: Ow.box b_1 24 #[.bool r_0_1, vr_1_1, v_9] :: fr) h_82 := hS.perm2 [2, 0, 1, 3, 4, 5] 6 rfl rfl
        refine Go.Wk.HA.re (fun h => (SliceIs h 17 e_api_Addr vs_On s_On) ∧ (SliceIs h 17 e_api_Addr vs_Off s_Off) ∧ (SliceIs h 17 e_api_Addr vl l) ∧ (SliceIs h 17 e_api_Addr vr_1_1 r_1_1) ∧ (SliceIs h 17 e_api_Addr v_9 l_9) ∧ (SliceIs h 17 e_api_Addr v_10 l_10) ∧ (SliceIs h 17 e_api_Addr v_11 l_11) ∧ (SliceIs h 17 e_api_Addr v_12 l_12) ∧ (SliceIs h 17 e_api_Addr v_13 l_13) ∧ (OwnIs h 0 34 17 e_api_Addr vr_1 r_2) ∧ (OwnIs h 0 34 17 e_api_Addr vr_7 r_8) ∧ (OwnIs h 0 34 17 e_api_Addr v_8 l_8) ∧ (Blk h b_2 (.cells (e_api_Addr a).toArray 34 (0, 0))) ∧ (Blk h b_1 (.cells #[.bool r_0_1, vr_1_1, v_9] 24 (0, 0)))) [(11, fun h => (Blk h b_16 (.cells #[.bool false, .slice none 0 0, .slice none 0 0] 24 (0, 0))))] (fun L_ h_ hL_ ⟨hL_s_On, hL_s_Off, hL_l, hL_1, hL_18, hL_19, hL_20, hL_21, hL_22, c204, c232, c220, c202, c201⟩ hs_ => ⟨⟨hL_s_On, hL_s_Off, hL_l, hL_1, hL_18, hL_19, hL_20, hL_21, hL_22, c220, c204, c202, c201⟩, (at_keep 0 rfl hs_ (fun c268 => c268) (Go.Wk.at_nil _ _))⟩) ?_
        exact N_12 (F_62, r_8, l_8, l_9, l_10, l_11, b_17, l_12, l_13, b_16, vr_7, v_8, v_9, v_10, v_11, v_12, v_13) _ _ ⟨rfl, rfl, rfl, rfl, rfl, rfl, rfl, rfl, rfl, rfl, rfl, rfl, rfl, rfl, rfl, rfl, hK, hS, hL_s_On, hL_s_Off, hL_l, hL_1, hL_18, hL_19, hL_20, hL_21, hL_22, hM⟩
      · refine HS.eff rfl (want_none) rfl (st_alloc (c := #[.bool false, .slice none 0 0, .slice none 0 0]) hS tz_24 rfl) ?_
        rintro _ h_82 ⟨b_93, rfl, hS, hk⟩
        replace hK := hK.trans hk
        replace hL_s_On := hL_s_On.kp hk
        replace hL_s_Off := hL_s_Off.kp hk
        replace hL_l := hL_l.kp hk
        replace hL_1 := hL_1.kp hk
        replace hL_18 := hL_18.kp hk
        replace hL_19 := hL_19.kp hk
        replace hL_20 := hL_20.kp hk
        replace hL_21 := hL_21.kp hk
        replace hL_22 := hL_22.kp hk
        replace hS : St F_60 (Ow.box b_16 24 #[.bool false, .slice none 0 0, .slice none 0 0] :: Ow.box b_93 24 #[.bool false, .slice none 0 0, .slice none 0 0] :: Ow.own 34 17 e_api_Addr v_8 l_8 :: Ow.own 34 17 e_api_Addr vr_1 r_2 :: Ow.box b_2 34 (e_api_Addr a).toArray :: Ow.box b_1 24 #[.bool r_0_1, vr_1_1, v_9] :: fr) h_82 := hS.perm2 [1, 0, 2, 3, 4, 5] 6 rfl rfl
        refine Go.Wk.HA.re (fun h => (SliceIs h 17 e_api_Addr vs_On s_On) ∧ (SliceIs h 17 e_api_Addr vs_Off s_Off) ∧ (SliceIs h 17 e_api_Addr vl l) ∧ (SliceIs h 17 e_api_Addr vr_1_1 r_1_1) ∧ (SliceIs h 17 e_api_Addr v_9 l_9) ∧ (SliceIs h 17 e_api_Addr v_10 l_10) ∧ (SliceIs h 17 e_api_Addr v_11 l_11) ∧ (SliceIs h 17 e_api_Addr v_12 l_12) ∧ (SliceIs h 17 e_api_Addr v_13 l_13) ∧ (OwnIs h 0 34 17 e_api_Addr v_8 l_8) ∧ (OwnIs h 0 34 17 e_api_Addr vr_1 r_2) ∧ (Blk h b_2 (.cells (e_api_Addr a).toArray 34 (0, 0))) ∧ (Blk h b_1 (.cells #[.bool r_0_1, vr_1_1, v_9] 24 (0, 0)))) [(10, fun h => (Blk h b_93 (.cells #[.bool false, .slice none 0 0, .slice none 0 0] 24 (0, 0)))), (11, fun h => (Blk h b_16 (.cells #[.bool false, .slice none 0 0, .slice none 0 0] 24 (0, 0))))] (fun L_ h_ hL_ ⟨hL_s_On, hL_s_Off, hL_l, hL_1, hL_18, hL_19, hL_20, hL_21, hL_22, c220, c204, c202, c201⟩ hs_ => ⟨⟨hL_s_On, hL_s_Off, hL_l, hL_1, hL_18, hL_19, hL_20, hL_21, hL_22, c220, c204, c202, c201⟩, (at_keep 1 rfl hs_ (fun c268 => c268) (Go.Wk.at_nil _ _))⟩) ?_
        exact N_13 (F_60, l_8, l_9, l_10, l_11, b_17, l_12, l_13, b_16, b_93, v_8, v_9, v_10, v_11, v_12, v_13) _ _ ⟨rfl, rfl, rfl, rfl, rfl, rfl, rfl, rfl, rfl, rfl, rfl, rfl, rfl, rfl, rfl, rfl, hK, hS, hL_s_On, hL_s_Off, hL_l, hL_1, hL_18, hL_19, hL_20, hL_21, hL_22, hM⟩
    refine HA.node (C1 := fun (i : Fz × Nat × Nat) => match i with | (F', b_19, b_20) => fun h => (SliceIs h 17 e_api_Addr vs_On s_On) ∧ (SliceIs h 17 e_api_Addr vs_Off s_Off) ∧ (SliceIs h 17 e_api_Addr vl l) ∧ (SliceIs h 17 e_api_Addr vr_1_1 r_1_1) ∧ (OwnIs h 0 34 17 e_api_Addr vr_1 r_2) ∧ (Blk h b_2 (.cells (e_api_Addr a).toArray 34 (0, 0))) ∧ (Blk h b_1 (.cells #[.bool r_0_1, vr_1_1, vr_2_1] 24 (0, 0)))) (cs1 := fun (i : Fz × Nat × Nat) => match i with | (F', b_19, b_20) => [(1, fun h => (OwnIs h 0 34 17 e_api_Addr vr_2_1 r_2_1)), (10, fun h => (Blk h b_20 (.cells #[.bool false, .slice none 0 0, .slice none 0 0] 24 (0, 0)))), (11, fun h => (Blk h b_19 (.cells #[.bool false, .slice none 0 0, .slice none 0 0] 24 (0, 0))))]) (fuel1 := 7) (listed1 := #[true, false, true, false, false, true, false, false, true, true, false, false]) (fun (i : Fz × Nat × Nat) f h => match i with | (F', b_19, b_20) => f 0 = .agg #[.bool s_Exclude, vs_On, vs_Off] ∧ f 1 = .agg (e_api_Addr a).toArray ∧ f 2 = vr_1 ∧ f 3 = .pointer (some ⟨b_1, 0, none⟩) ∧ f 4 = .pointer (some ⟨b_2, 0, none⟩) ∧ f 6 = .bool false ∧ f 7 = .pointer (some ⟨b_20, 0, none⟩) ∧ f 8 = .pointer (some ⟨b_19, 0, none⟩) ∧ f 9 = .agg #[.bool s_Exclude, vs_On, vs_Off] ∧ f 10 = .agg #[.bool r_0_1, vr_1_1, vr_2_1] ∧ f 11 = vl ∧ f 12 = vr_1 ∧ f 13 = .agg #[.bool r_0_1, vr_1_1, vr_2_1] ∧ f 15 = vr_1 ∧ f 18 = .agg #[.bool r_0_1, vr_1_1, vr_2_1] ∧ Kp F h0 F' h ∧ St F' (Ow.box b_19 24 #[.bool false, .slice none 0 0, .slice none 0 0] :: Ow.box b_20 24 #[.bool false, .slice none 0 0, .slice none 0 0] :: Ow.own 34 17 e_api_Addr vr_1 r_2 :: Ow.own 34 17 e_api_Addr vr_2_1 r_2_1 :: Ow.box b_2 34 (e_api_Addr a).toArray :: Ow.box b_1 24 #[.bool r_0_1, vr_1_1, vr_2_1] :: fr) h ∧ (SliceF F' h 17 e_api_Addr vs_On s_On) ∧ (SliceF F' h 17 e_api_Addr vs_Off s_Off) ∧ (SliceF F' h 17 e_api_Addr vl l) ∧ (SliceF F' h 17 e_api_Addr vr_1_1 r_1_1) ∧ law15_Few_W r_0_1 r_1_1 r_2_1 (fun r_0_21 r_1_21 r_2_21 => law08_Addrs_W r_2 6 (fun r_7 => filter_Expire_W r_0_21 r_1_21 r_2_21 r_7 (fun r_0_20 r_1_20 r_2_20 => law15_Few_W r_0_1 r_1_1 r_2_1 (fun r_0_19 r_1_19 r_2_19 => filter_Turn_W r_0_19 r_1_19 r_2_19 (fun r_0_18 r_1_18 r_2_18 => law15_FilterLets_j1 a Q r_0_1 r_1_1 r_2 r_2_1 r_0_20 r_1_20 r_2_20 r_0_18 r_1_18 r_2_18)))))) ?_ (fun N_16 => ?_)
    · rintro ⟨F_61, b_19, b_20⟩ f_16 h_83 ⟨e0, e1, e2, e3, e4, e6, e7, e8, e9, e10, e11, e12, e13, e15, e18, hK, hS, hL_s_On, hL_s_Off, hL_l, hL_1, hM⟩
      refine HA.fr [(0, .agg #[.bool s_Exclude, vs_On, vs_Off]), (1, .agg (e_api_Addr a).toArray), (2, vr_1), (3, .pointer (some ⟨b_1, 0, none⟩)), (4, .pointer (some ⟨b_2, 0, none⟩)), (6, .bool false), (7, .pointer (some ⟨b_20, 0, none⟩)), (8, .pointer (some ⟨b_19, 0, none⟩)), (9, .agg #[.bool s_Exclude, vs_On, vs_Off]), (10, .agg #[.bool r_0_1, vr_1_1, vr_2_1]), (11, vl), (12, vr_1), (13, .agg #[.bool r_0_1, vr_1_1, vr_2_1]), (15, vr_1), (18, .agg #[.bool r_0_1, vr_1_1, vr_2_1])] ⟨e0, e1, e2, e3, e4, e6, e7, e8, e9, e10, e11, e12, e13, e15, e18, trivial⟩ ?_
      refine HA.one (k := 1) ⟨⟨hL_s_On.is, hL_s_Off.is, hL_l.is, hL_1.is, (hS.own 2 rfl), (hS.box 4 rfl), (hS.box 5 rfl)⟩, (at_now (hS.own 3 rfl) (at_now (hS.box 1 rfl) (at_now (hS.box 0 rfl) (Go.Wk.at_nil _ _))))⟩ (by kernel_rfl) ?_
      replace hS : St F_61 (Ow.own 34 17 e_api_Addr vr_2_1 r_2_1 :: Ow.box b_19 24 #[.bool false, .slice none 0 0, .slice none 0 0] :: Ow.box b_20 24 #[.bool false, .slice none 0 0, .slice none 0 0] :: Ow.own 34 17 e_api_Addr vr_1 r_2 :: Ow.box b_2 34 (e_api_Addr a).toArray :: Ow.box b_1 24 #[.bool r_0_1, vr_1_1, vr_2_1] :: fr) h_83 := hS.perm2 [3, 0, 1, 2, 4, 5] 6 rfl rfl
      obtain ⟨F_62, hS, hk, hL_117⟩ := hS.freezeOwn
      replace hK := hK.trans hk
      replace hL_s_On := hL_s_On.kp hk
      replace hL_s_Off := hL_s_Off.kp hk
      replace hL_l := hL_l.kp hk
      replace hL_1 := hL_1.kp hk
      refine HS.call rfl (want_none) rfl (ec en_7 rfl rfl) (law15_Few_walk (fr := (Ow.box b_19 24 #[.bool false, .slice none 0 0, .slice none 0 0] :: Ow.box b_20 24 #[.bool false, .slice none 0 0, .slice none 0 0] :: Ow.own 34 17 e_api_Addr vr_1 r_2 :: Ow.box b_2 34 (e_api_Addr a).toArray :: Ow.box b_1 24 #[.bool r_0_1, vr_1_1, vr_2_1] :: fr)) r_0_1 r_1_1 r_2_1 vr_1_1 vr_2_1 hS hL_1 hL_117 hM) ?_
      rintro _ h_84 ⟨F_63, r_0_21, r_1_21, r_2_21, vr_1_21, vr_2_21, rfl, hk, hS, _, _, hL_118, hM⟩
      replace hK := hK.trans hk
      replace hL_s_On := hL_s_On.kp hk
      replace hL_s_Off := hL_s_Off.kp hk
      replace hL_l := hL_l.kp hk
      replace hL_1 := hL_1.kp hk
      replace hL_117 := hL_117.kp hk
      replace hS : St F_63 (Ow.box b_19 24 #[.bool false, .slice none 0 0, .slice none 0 0] :: Ow.box b_20 24 #[.bool false, .slice none 0 0, .slice none 0 0] :: Ow.own 34 17 e_api_Addr vr_2_21 r_2_21 :: Ow.own 34 17 e_api_Addr vr_1 r_2 :: Ow.box b_2 34 (e_api_Addr a).toArray :: Ow.box b_1 24 #[.bool r_0_1, vr_1_1, vr_2_1] :: fr) h_84 := hS.perm2 [1, 2, 0, 3, 4, 5] 6 rfl rfl
      refine Go.Wk.HA.re (fun h => (SliceIs h 17 e_api_Addr vs_On s_On) ∧ (SliceIs h 17 e_api_Addr vs_Off s_Off) ∧ (SliceIs h 17 e_api_Addr vl l) ∧ (SliceIs h 17 e_api_Addr vr_1_1 r_1_1) ∧ (SliceIs h 17 e_api_Addr vr_2_1 r_2_1) ∧ (SliceIs h 17 e_api_Addr vr_2_1 r_2_1) ∧ (SliceIs h 17 e_api_Addr vr_2_1 r_2_1) ∧ (SliceIs h 17 e_api_Addr vr_1_21 r_1_21) ∧ (SliceIs h 17 e_api_Addr vr_2_1 r_2_1) ∧ (OwnIs h 0 34 17 e_api_Addr vr_2_21 r_2_21) ∧ (OwnIs h 0 34 17 e_api_Addr vr_1 r_2) ∧ (Blk h b_2 (.cells (e_api_Addr a).toArray 34 (0, 0))) ∧ (Blk h b_1 (.cells #[.bool r_0_1, vr_1_1, vr_2_1] 24 (0, 0)))) [(10, fun h => (Blk h b_20 (.cells #[.bool false, .slice none 0 0, .slice none 0 0] 24 (0, 0)))), (11, fun h => (Blk h b_19 (.cells #[.bool false, .slice none 0 0, .slice none 0 0] 24 (0, 0))))] (fun L_ h_ hL_ ⟨hL_s_On, hL_s_Off, hL_l, hL_1, hL_117, _, _, hL_118, _, c220, c204, c202, c201⟩ hs_ => ⟨⟨hL_s_On, hL_s_Off, hL_l, hL_1, c204, c202, c201⟩, (at_gone hL_ (by kernel_rfl) (at_keep 0 rfl hs_ (fun c262 => c262) (at_keep 1 rfl hs_ (fun c268 => c268) (Go.Wk.at_nil _ _))))⟩) ?_
      exact N_13 (F_63, r_2_21, r_2_1, r_2_1, r_2_1, r_0_21, r_1_21, r_2_1, b_19, b_20, vr_2_21, vr_2_1, vr_2_1, vr_2_1, vr_1_21, vr_2_1) _ _ ⟨rfl, rfl, rfl, rfl, rfl, rfl, rfl, rfl, rfl, rfl, rfl, rfl, rfl, rfl, rfl, rfl, hK, hS, hL_s_On, hL_s_Off, hL_l, hL_1, hL_117, hL_117, hL_117, hL_118, hL_117, hM⟩
    refine HA.three (k := 1) (k' := 8) (k'' := 9) ⟨(hS.box 3 rfl), (Go.Wk.at_nil _ _)⟩ (by kernel_rfl) ?_ ?_ ?_
    · replace hS : St F_2 (Ow.own 34 17 e_api_Addr vr_2_1 r_2_1 :: Ow.own 34 17 e_api_Addr vr_1 r_2 :: Ow.box b_2 34 (e_api_Addr a).toArray :: Ow.box b_1 24 #[.bool r_0_1, vr_1_1, vr_2_1] :: fr) h_5 := hS.perm2 [1, 0, 2, 3] 4 rfl rfl
      obtain ⟨F_64, hS, hk, hL_119⟩ := hS.freezeOwn
      replace hK := hK.trans hk
      replace hL_s_On := hL_s_On.kp hk
      replace hL_s_Off := hL_s_Off.kp hk
      replace hL_l := hL_l.kp hk
      replace hL_1 := hL_1.kp hk
      refine HS.call rfl (want_none) rfl (ec en_7 rfl rfl) (law15_Few_walk (fr := (Ow.own 34 17 e_api_Addr vr_1 r_2 :: Ow.box b_2 34 (e_api_Addr a).toArray :: Ow.box b_1 24 #[.bool r_0_1, vr_1_1, vr_2_1] :: fr)) r_0_1 r_1_1 r_2_1 vr_1_1 vr_2_1 hS hL_1 hL_119 hM) ?_
      rintro _ h_85 ⟨F_65, r_0_22, r_1_22, r_2_22, vr_1_22, vr_2_22, rfl, hk, hS, _, _, hL_120, hM⟩
      replace hK := hK.trans hk
      replace hL_s_On := hL_s_On.kp hk
      replace hL_s_Off := hL_s_Off.kp hk
      replace hL_l := hL_l.kp hk
      replace hL_1 := hL_1.kp hk
      replace hL_119 := hL_119.kp hk
      refine HA.three (k := 3) (k' := 8) (k'' := 9) ⟨(hS.box 3 rfl), (Go.Wk.at_nil _ _)⟩ (by kernel_rfl) ?_ ?_ ?_
      · replace hS : St F_65 (Ow.own 34 17 e_api_Addr vr_1 r_2 :: Ow.own 34 17 e_api_Addr vr_2_22 r_2_22 :: Ow.box b_2 34 (e_api_Addr a).toArray :: Ow.box b_1 24 #[.bool r_0_1, vr_1_1, vr_2_1] :: fr) h_85 := hS.perm2 [1, 0, 2, 3] 4 rfl rfl
        have hZ_21 := hS
        have hkz_21 := (hS.freeze).2
        replace hS := hS.freeze.1
        have hL_121 : SliceF (fun b => F_65 b ∨ (Ow.own 34 17 e_api_Addr vr_1 r_2).foot b) h_85 17 e_api_Addr vr_1 r_2 := ⟨(hZ_21.own 0 rfl).slice, fun _ b hb => .inr hb⟩
        refine HS.call rfl (want_none) rfl (ec en_9 rfl rfl) (law08_Addrs_walk (fr := (Ow.own 34 17 e_api_Addr vr_2_22 r_2_22 :: Ow.box b_2 34 (e_api_Addr a).toArray :: Ow.box b_1 24 #[.bool r_0_1, vr_1_1, vr_2_1] :: fr)) r_2 6 vr_1 hS hL_121 hM) ?_
        rintro vr_7 h_86 ⟨F_66, r_8, _, rfl, hk, hS, _, hM⟩
        obtain ⟨hS, hk⟩ := hZ_21.back hk hS
        generalize (fun b => F_66 b ∧ ¬ (Ow.own 34 17 e_api_Addr vr_1 r_2).foot b) = F_67 at hS hk
        replace hK := hK.trans hk
        replace hL_s_On := hL_s_On.kp hk
        replace hL_s_Off := hL_s_Off.kp hk
        replace hL_l := hL_l.kp hk
        replace hL_1 := hL_1.kp hk
        replace hL_119 := hL_119.kp hk
        replace hL_120 := hL_120.kp hk
        refine HA.three (k := 4) (k' := 8) (k'' := 9) ⟨(hS.box 4 rfl), (Go.Wk.at_nil _ _)⟩ (by kernel_rfl) ?_ ?_ ?_
        · replace hS : St F_67 (Ow.own 34 17 e_api_Addr vr_2_22 r_2_22 :: Ow.own 34 17 e_api_Addr vr_1 r_2 :: Ow.own 34 17 e_api_Addr vr_7 r_8 :: Ow.box b_2 34 (e_api_Addr a).toArray :: Ow.box b_1 24 #[.bool r_0_1, vr_1_1, vr_2_1] :: fr) h_86 := hS.perm2 [2, 0, 1, 3, 4] 5 rfl rfl
          have hZ_22 := hS
          have hkz_22 := (hS.freeze).2
          replace hS := hS.freeze.1
          have hL_122 : SliceF (fun b => F_67 b ∨ (Ow.own 34 17 e_api_Addr vr_2_22 r_2_22).foot b) h_86 17 e_api_Addr vr_2_22 r_2_22 := ⟨(hZ_22.own 0 rfl).slice, fun _ b hb => .inr hb⟩
          replace hS : St (fun b => F_67 b ∨ (Ow.own 34 17 e_api_Addr vr_2_22 r_2_22).foot b) (Ow.own 34 17 e_api_Addr vr_7 r_8 :: Ow.own 34 17 e_api_Addr vr_1 r_2 :: Ow.box b_2 34 (e_api_Addr a).toArray :: Ow.box b_1 24 #[.bool r_0_1, vr_1_1, vr_2_1] :: fr) h_86 := hS.perm2 [1, 0, 2, 3] 4 rfl rfl
          have hZ_23 := hS
          have hkz_23 := (hS.freeze).2
          replace hS := hS.freeze.1
          have hL_123 : SliceF (fun b => (fun b => F_67 b ∨ (Ow.own 34 17 e_api_Addr vr_2_22 r_2_22).foot b) b ∨ (Ow.own 34 17 e_api_Addr vr_7 r_8).foot b) h_86 17 e_api_Addr vr_7 r_8 := ⟨(hZ_23.own 0 rfl).slice, fun _ b hb => .inr hb⟩
          refine HS.call rfl (want_none) rfl (ec en_19 rfl rfl) (filter_Expire_walk (fr := (Ow.own 34 17 e_api_Addr vr_1 r_2 :: Ow.box b_2 34 (e_api_Addr a).toArray :: Ow.box b_1 24 #[.bool r_0_1, vr_1_1, vr_2_1] :: fr)) r_0_22 r_1_22 r_2_22 r_8 vr_1_22 vr_2_22 vr_7 hS ((hL_120.kp hkz_22).kp hkz_23) (hL_122.kp hkz_23) hL_123 hM) ?_
          rintro _ h_87 ⟨F_68, r_0_23, r_1_23, r_2_23, vr_1_23, vr_2_23, rfl, hk, hS, _, _, _, hM⟩
          obtain ⟨hS, hk⟩ := hZ_23.back hk hS
          obtain ⟨hS, hk⟩ := hZ_22.back hk hS
          generalize (fun b => (fun b => F_68 b ∧ ¬ (Ow.own 34 17 e_api_Addr vr_7 r_8).foot b) b ∧ ¬ (Ow.own 34 17 e_api_Addr vr_2_22 r_2_22).foot b) = F_69 at hS hk
          replace hK := hK.trans hk
          replace hL_s_On := hL_s_On.kp hk
          replace hL_s_Off := hL_s_Off.kp hk
          replace hL_l := hL_l.kp hk
          replace hL_1 := hL_1.kp hk
          replace hL_119 := hL_119.kp hk
          replace hL_120 := hL_120.kp hk
          refine HA.three (k := 6) (k' := 8) (k'' := 9) ⟨(hS.box 6 rfl), (Go.Wk.at_nil _ _)⟩ (by kernel_rfl) ?_ ?_ ?_
          · refine HS.call rfl (want_none) rfl (ec en_7 rfl rfl) (law15_Few_walk (fr := (Ow.own 34 17 e_api_Addr vr_2_22 r_2_22 :: Ow.own 34 17 e_api_Addr vr_7 r_8 :: Ow.own 34 17 e_api_Addr vr_1_23 r_1_23 :: Ow.own 34 17 e_api_Addr vr_2_23 r_2_23 :: Ow.own 34 17 e_api_Addr vr_1 r_2 :: Ow.box b_2 34 (e_api_Addr a).toArray :: Ow.box b_1 24 #[.bool r_0_1, vr_1_1, vr_2_1] :: fr)) r_0_1 r_1_1 r_2_1 vr_1_1 vr_2_1 hS hL_1 hL_119 hM) ?_
            rintro _ h_88 ⟨F_70, r_0_24, r_1_24, r_2_24, vr_1_24, vr_2_24, rfl, hk, hS, _, _, hL_124, hM⟩
            replace hK := hK.trans hk
            replace hL_s_On := hL_s_On.kp hk
            replace hL_s_Off := hL_s_Off.kp hk
            replace hL_l := hL_l.kp hk
            replace hL_1 := hL_1.kp hk
            replace hL_119 := hL_119.kp hk
            replace hL_120 := hL_120.kp hk
            refine HA.three (k := 7) (k' := 8) (k'' := 9) ⟨(hS.box 7 rfl), (Go.Wk.at_nil _ _)⟩ (by kernel_rfl) ?_ ?_ ?_
            · have hZ_24 := hS
              have hkz_24 := (hS.freeze).2
              replace hS := hS.freeze.1
              have hL_125 : SliceF (fun b => F_70 b ∨ (Ow.own 34 17 e_api_Addr vr_2_24 r_2_24).foot b) h_88 17 e_api_Addr vr_2_24 r_2_24 := ⟨(hZ_24.own 0 rfl).slice, fun _ b hb => .inr hb⟩
              refine HS.call rfl (want_none) rfl (ec en_20 rfl rfl) (filter_Turn_walk (fr := (Ow.own 34 17 e_api_Addr vr_2_22 r_2_22 :: Ow.own 34 17 e_api_Addr vr_7 r_8 :: Ow.own 34 17 e_api_Addr vr_1_23 r_1_23 :: Ow.own 34 17 e_api_Addr vr_2_23 r_2_23 :: Ow.own 34 17 e_api_Addr vr_1 r_2 :: Ow.box b_2 34 (e_api_Addr a).toArray :: Ow.box b_1 24 #[.bool r_0_1, vr_1_1, vr_2_1] :: fr)) r_0_24 r_1_24 r_2_24 vr_1_24 vr_2_24 hS (hL_124.kp hkz_24) hL_125 hM) ?_
              rintro _ h_89 ⟨F_71, r_0_25, r_1_25, r_2_25, vr_1_25, vr_2_25, rfl, hk, hS, _, _, hM⟩
              obtain ⟨hS, hk⟩ := hZ_24.back hk hS
              generalize (fun b => F_71 b ∧ ¬ (Ow.own 34 17 e_api_Addr vr_2_24 r_2_24).foot b) = F_72 at hS hk
              replace hK := hK.trans hk
              replace hL_s_On := hL_s_On.kp hk
              replace hL_s_Off := hL_s_Off.kp hk
              replace hL_l := hL_l.kp hk
              replace hL_1 := hL_1.kp hk
              replace hL_119 := hL_119.kp hk
              replace hL_120 := hL_120.kp hk
              replace hL_124 := hL_124.kp hk
              refine HA.two (k := 8) (k' := 9) ⟨(hS.box 9 rfl), (Go.Wk.at_nil _ _)⟩ (by kernel_rfl) ?_ ?_
              · refine HS.eff rfl (want_none) rfl (st_alloc (c := #[.bool false, .slice none 0 0, .slice none 0 0]) hS tz_24 rfl) ?_
                rintro _ h_90 ⟨b_94, rfl, hS, hk⟩
                replace hK := hK.trans hk
                replace hL_s_On := hL_s_On.kp hk
                replace hL_s_Off := hL_s_Off.kp hk
                replace hL_l := hL_l.kp hk
                replace hL_1 := hL_1.kp hk
                replace hL_119 := hL_119.kp hk
                replace hL_120 := hL_120.kp hk
                replace hL_124 := hL_124.kp hk
                refine Go.Wk.HA.re (fun h => (SliceIs h 17 e_api_Addr vs_On s_On) ∧ (SliceIs h 17 e_api_Addr vs_Off s_Off) ∧ (SliceIs h 17 e_api_Addr vl l) ∧ (SliceIs h 17 e_api_Addr vr_1_1 r_1_1) ∧ (SliceIs h 17 e_api_Addr vr_2_1 r_2_1) ∧ (SliceIs h 17 e_api_Addr vr_2_1 r_2_1) ∧ (SliceIs h 17 e_api_Addr vr_2_1 r_2_1) ∧ (SliceIs h 17 e_api_Addr vr_1_22 r_1_22) ∧ (SliceIs h 17 e_api_Addr vr_2_1 r_2_1) ∧ (SliceIs h 17 e_api_Addr vr_1_24 r_1_24) ∧ (OwnIs h 0 34 17 e_api_Addr vr_2_24 r_2_24) ∧ (OwnIs h 0 34 17 e_api_Addr vr_1_25 r_1_25) ∧ (OwnIs h 0 34 17 e_api_Addr vr_2_25 r_2_25) ∧ (OwnIs h 0 34 17 e_api_Addr vr_2_22 r_2_22) ∧ (OwnIs h 0 34 17 e_api_Addr vr_7 r_8) ∧ (OwnIs h 0 34 17 e_api_Addr vr_1_23 r_1_23) ∧ (OwnIs h 0 34 17 e_api_Addr vr_2_23 r_2_23) ∧ (OwnIs h 0 34 17 e_api_Addr vr_1 r_2) ∧ (Blk h b_2 (.cells (e_api_Addr a).toArray 34 (0, 0))) ∧ (Blk h b_1 (.cells #[.bool r_0_1, vr_1_1, vr_2_1] 24 (0, 0)))) [(10, fun h => (Blk h b_94 (.cells #[.bool false, .slice none 0 0, .slice none 0 0] 24 (0, 0))))] (fun L_ h_ hL_ ⟨hL_s_On, hL_s_Off, hL_l, hL_1, hL_119, _, _, hL_120, _, hL_124, c250, c256, c257, c220, c232, c238, c239, c204, c202, c201⟩ hs_ => ⟨c201, (Go.Wk.at_nil _ _)⟩) ?_
                exact N_2 (F_72, r_2_24, r_1_25, r_2_25, r_2_22, r_8, r_1_23, r_2_23, r_2_1, r_2_1, r_2_1, r_0_22, r_1_22, r_0_23, r_2_1, r_0_24, r_1_24, r_0_25, b_94, vr_2_24, vr_1_25, vr_2_25, vr_2_22, vr_7, vr_1_23, vr_2_23, vr_2_1, vr_2_1, vr_2_1, vr_1_22, vr_2_1, vr_1_24) _ _ ⟨rfl, rfl, rfl, rfl, rfl, rfl, rfl, rfl, rfl, rfl, rfl, rfl, rfl, rfl, rfl, rfl, rfl, rfl, rfl, hK, hS, hL_s_On, hL_s_Off, hL_l, hL_1, hL_119, hL_119, hL_119, hL_120, hL_119, hL_124, hM⟩
              · refine HS.eff rfl (want_none) rfl (st_alloc (c := #[.bool false, .slice none 0 0, .slice none 0 0]) hS tz_24 rfl) ?_
                rintro _ h_90 ⟨b_94, rfl, hS, hk⟩
                replace hK := hK.trans hk
                replace hL_s_On := hL_s_On.kp hk
                replace hL_s_Off := hL_s_Off.kp hk
                replace hL_l := hL_l.kp hk
                replace hL_1 := hL_1.kp hk
                replace hL_119 := hL_119.kp hk
                replace hL_120 := hL_120.kp hk
                replace hL_124 := hL_124.kp hk
                refine Go.Wk.HA.re (fun h => (SliceIs h 17 e_api_Addr vs_On s_On) ∧ (SliceIs h 17 e_api_Addr vs_Off s_Off) ∧ (SliceIs h 17 e_api_Addr vl l) ∧ (SliceIs h 17 e_api_Addr vr_1_1 r_1_1) ∧ (SliceIs h 17 e_api_Addr vr_2_1 r_2_1) ∧ (SliceIs h 17 e_api_Addr vr_2_1 r_2_1) ∧ (SliceIs h 17 e_api_Addr vr_2_1 r_2_1) ∧ (SliceIs h 17 e_api_Addr vr_1_22 r_1_22) ∧ (SliceIs h 17 e_api_Addr vr_2_1 r_2_1) ∧ (SliceIs h 17 e_api_Addr vr_1_24 r_1_24) ∧ (OwnIs h 0 34 17 e_api_Addr vr_2_24 r_2_24) ∧ (OwnIs h 0 34 17 e_api_Addr vr_1_25 r_1_25) ∧ (OwnIs h 0 34 17 e_api_Addr vr_2_25 r_2_25) ∧ (OwnIs h 0 34 17 e_api_Addr vr_2_22 r_2_22) ∧ (OwnIs h 0 34 17 e_api_Addr vr_7 r_8) ∧ (OwnIs h 0 34 17 e_api_Addr vr_1_23 r_1_23) ∧ (OwnIs h 0 34 17 e_api_Addr vr_2_23 r_2_23) ∧ (OwnIs h 0 34 17 e_api_Addr vr_1 r_2) ∧ (Blk h b_2 (.cells (e_api_Addr a).toArray 34 (0, 0))) ∧ (Blk h b_1 (.cells #[.bool r_0_1, vr_1_1, vr_2_1] 24 (0, 0)))) [(11, fun h => (Blk h b_94 (.cells #[.bool false, .slice none 0 0, .slice none 0 0] 24 (0, 0))))] (fun L_ h_ hL_ ⟨hL_s_On, hL_s_Off, hL_l, hL_1, hL_119, _, _, hL_120, _, hL_124, c250, c256, c257, c220, c232, c238, c239, c204, c202, c201⟩ hs_ => ⟨c201, (Go.Wk.at_nil _ _)⟩) ?_
                exact N_3 (F_72, r_2_24, r_1_25, r_2_25, r_2_22, r_8, r_1_23, r_2_23, r_2_1, r_2_1, r_2_1, r_0_22, r_1_22, r_0_23, r_2_1, r_0_24, r_1_24, r_0_25, b_94, vr_2_24, vr_1_25, vr_2_25, vr_2_22, vr_7, vr_1_23, vr_2_23, vr_2_1, vr_2_1, vr_2_1, vr_1_22, vr_2_1, vr_1_24) _ _ ⟨rfl, rfl, rfl, rfl, rfl, rfl, rfl, rfl, rfl, rfl, rfl, rfl, rfl, rfl, rfl, rfl, rfl, rfl, rfl, hK, hS, hL_s_On, hL_s_Off, hL_l, hL_1, hL_119, hL_119, hL_119, hL_120, hL_119, hL_124, hM⟩
            · refine HS.eff rfl (want_none) rfl (st_alloc (c := #[.bool false, .slice none 0 0, .slice none 0 0]) hS tz_24 rfl) ?_
              rintro _ h_89 ⟨b_94, rfl, hS, hk⟩
              replace hK := hK.trans hk
              replace hL_s_On := hL_s_On.kp hk
              replace hL_s_Off := hL_s_Off.kp hk
              replace hL_l := hL_l.kp hk
              replace hL_1 := hL_1.kp hk
              replace hL_119 := hL_119.kp hk
              replace hL_120 := hL_120.kp hk
              replace hL_124 := hL_124.kp hk
              refine Go.Wk.HA.re (fun h => (SliceIs h 17 e_api_Addr vs_On s_On) ∧ (SliceIs h 17 e_api_Addr vs_Off s_Off) ∧ (SliceIs h 17 e_api_Addr vl l) ∧ (SliceIs h 17 e_api_Addr vr_1_1 r_1_1) ∧ (SliceIs h 17 e_api_Addr vr_2_1 r_2_1) ∧ (SliceIs h 17 e_api_Addr vr_2_1 r_2_1) ∧ (SliceIs h 17 e_api_Addr vr_2_1 r_2_1) ∧ (SliceIs h 17 e_api_Addr vr_1_22 r_1_22) ∧ (SliceIs h 17 e_api_Addr vr_2_1 r_2_1) ∧ (SliceIs h 17 e_api_Addr vr_1_24 r_1_24) ∧ (OwnIs h 0 34 17 e_api_Addr vr_2_24 r_2_24) ∧ (OwnIs h 0 34 17 e_api_Addr vr_2_22 r_2_22) ∧ (OwnIs h 0 34 17 e_api_Addr vr_7 r_8) ∧ (OwnIs h 0 34 17 e_api_Addr vr_1_23 r_1_23) ∧ (OwnIs h 0 34 17 e_api_Addr vr_2_23 r_2_23) ∧ (OwnIs h 0 34 17 e_api_Addr vr_1 r_2) ∧ (Blk h b_2 (.cells (e_api_Addr a).toArray 34 (0, 0))) ∧ (Blk h b_1 (.cells #[.bool r_0_1, vr_1_1, vr_2_1] 24 (0, 0)))) [(10, fun h => (Blk h b_94 (.cells #[.bool false, .slice none 0 0, .slice none 0 0] 24 (0, 0))))] (fun L_ h_ hL_ ⟨hL_s_On, hL_s_Off, hL_l, hL_1, hL_119, _, _, hL_120, _, hL_124, c250, c220, c232, c238, c239, c204, c202, c201⟩ hs_ => ⟨c201, (Go.Wk.at_nil _ _)⟩) ?_
              exact N_5 (F_70, r_2_24, r_2_22, r_8, r_1_23, r_2_23, r_2_1, r_2_1, r_2_1, r_0_22, r_1_22, r_0_23, r_2_1, r_0_24, r_1_24, b_94, vr_2_24, vr_2_22, vr_7, vr_1_23, vr_2_23, vr_2_1, vr_2_1, vr_2_1, vr_1_22, vr_2_1, vr_1_24) _ _ ⟨rfl, rfl, rfl, rfl, rfl, rfl, rfl, rfl, rfl, rfl, rfl, rfl, rfl, rfl, rfl, rfl, rfl, rfl, hK, hS, hL_s_On, hL_s_Off, hL_l, hL_1, hL_119, hL_119, hL_119, hL_120, hL_119, hL_124, hM⟩
            · refine HS.eff rfl (want_none) rfl (st_alloc (c := #[.bool false, .slice none 0 0, .slice none 0 0]) hS tz_24 rfl) ?_
              rintro _ h_89 ⟨b_94, rfl, hS, hk⟩
              replace hK := hK.trans hk
              replace hL_s_On := hL_s_On.kp hk
              replace hL_s_Off := hL_s_Off.kp hk
              replace hL_l := hL_l.kp hk
              replace hL_1 := hL_1.kp hk
              replace hL_119 := hL_119.kp hk
              replace hL_120 := hL_120.kp hk
              replace hL_124 := hL_124.kp hk
              refine Go.Wk.HA.re (fun h => (SliceIs h 17 e_api_Addr vs_On s_On) ∧ (SliceIs h 17 e_api_Addr vs_Off s_Off) ∧ (SliceIs h 17 e_api_Addr vl l) ∧ (SliceIs h 17 e_api_Addr vr_1_1 r_1_1) ∧ (SliceIs h 17 e_api_Addr vr_2_1 r_2_1) ∧ (SliceIs h 17 e_api_Addr vr_2_1 r_2_1) ∧ (SliceIs h 17 e_api_Addr vr_2_1 r_2_1) ∧ (SliceIs h 17 e_api_Addr vr_1_22 r_1_22) ∧ (SliceIs h 17 e_api_Addr vr_2_1 r_2_1) ∧ (SliceIs h 17 e_api_Addr vr_1_24 r_1_24) ∧ (OwnIs h 0 34 17 e_api_Addr vr_2_24 r_2_24) ∧ (OwnIs h 0 34 17 e_api_Addr vr_2_22 r_2_22) ∧ (OwnIs h 0 34 17 e_api_Addr vr_7 r_8) ∧ (OwnIs h 0 34 17 e_api_Addr vr_1_23 r_1_23) ∧ (OwnIs h 0 34 17 e_api_Addr vr_2_23 r_2_23) ∧ (OwnIs h 0 34 17 e_api_Addr vr_1 r_2) ∧ (Blk h b_2 (.cells (e_api_Addr a).toArray 34 (0, 0))) ∧ (Blk h b_1 (.cells #[.bool r_0_1, vr_1_1, vr_2_1] 24 (0, 0)))) [(11, fun h => (Blk h b_94 (.cells #[.bool false, .slice none 0 0, .slice none 0 0] 24 (0, 0))))] (fun L_ h_ hL_ ⟨hL_s_On, hL_s_Off, hL_l, hL_1, hL_119, _, _, hL_120, _, hL_124, c250, c220, c232, c238, c239, c204, c202, c201⟩ hs_ => ⟨c201, (Go.Wk.at_nil _ _)⟩) ?_
              exact N_6 (F_70, r_2_24, r_2_22, r_8, r_1_23, r_2_23, r_2_1, r_2_1, r_2_1, r_0_22, r_1_22, r_0_23, r_2_1, r_0_24, r_1_24, b_94, vr_2_24, vr_2_22, vr_7, vr_1_23, vr_2_23, vr_2_1, vr_2_1, vr_2_1, vr_1_22, vr_2_1, vr_1_24) _ _ ⟨rfl, rfl, rfl, rfl, rfl, rfl, rfl, rfl, rfl, rfl, rfl, rfl, rfl, rfl, rfl, rfl, rfl, rfl, hK, hS, hL_s_On, hL_s_Off, hL_l, hL_1, hL_119, hL_119, hL_119, hL_120, hL_119, hL_124, hM⟩
          · refine HS.eff rfl (want_none) rfl (st_alloc (c := #[.bool false, .slice none 0 0, .slice none 0 0]) hS tz_24 rfl) ?_
            rintro _ h_88 ⟨b_94, rfl, hS, hk⟩
            replace hK := hK.trans hk
            replace hL_s_On := hL_s_On.kp hk
            replace hL_s_Off := hL_s_Off.kp hk
            replace hL_l := hL_l.kp hk
            replace hL_1 := hL_1.kp hk
            replace hL_119 := hL_119.kp hk
            replace hL_120 := hL_120.kp hk
            refine Go.Wk.HA.re (fun h => (SliceIs h 17 e_api_Addr vs_On s_On) ∧ (SliceIs h 17 e_api_Addr vs_Off s_Off) ∧ (SliceIs h 17 e_api_Addr vl l) ∧ (SliceIs h 17 e_api_Addr vr_1_1 r_1_1) ∧ (SliceIs h 17 e_api_Addr vr_2_1 r_2_1) ∧ (SliceIs h 17 e_api_Addr vr_2_1 r_2_1) ∧ (SliceIs h 17 e_api_Addr vr_2_1 r_2_1) ∧ (SliceIs h 17 e_api_Addr vr_1_22 r_1_22) ∧ (SliceIs h 17 e_api_Addr vr_2_1 r_2_1) ∧ (OwnIs h 0 34 17 e_api_Addr vr_2_22 r_2_22) ∧ (OwnIs h 0 34 17 e_api_Addr vr_7 r_8) ∧ (OwnIs h 0 34 17 e_api_Addr vr_1_23 r_1_23) ∧ (OwnIs h 0 34 17 e_api_Addr vr_2_23 r_2_23) ∧ (OwnIs h 0 34 17 e_api_Addr vr_1 r_2) ∧ (Blk h b_2 (.cells (e_api_Addr a).toArray 34 (0, 0))) ∧ (Blk h b_1 (.cells #[.bool r_0_1, vr_1_1, vr_2_1] 24 (0, 0)))) [(10, fun h => (Blk h b_94 (.cells #[.bool false, .slice none 0 0, .slice none 0 0] 24 (0, 0))))] (fun L_ h_ hL_ ⟨hL_s_On, hL_s_Off, hL_l, hL_1, hL_119, _, _, hL_120, _, c220, c232, c238, c239, c204, c202, c201⟩ hs_ => ⟨c201, (Go.Wk.at_nil _ _)⟩) ?_
            exact N_8 (F_69, r_2_22, r_8, r_1_23, r_2_23, r_2_1, r_2_1, r_2_1, r_0_22, r_1_22, r_0_23, r_2_1, b_94, vr_2_22, vr_7, vr_1_23, vr_2_23, vr_2_1, vr_2_1, vr_2_1, vr_1_22, vr_2_1) _ _ ⟨rfl, rfl, rfl, rfl, rfl, rfl, rfl, rfl, rfl, rfl, rfl, rfl, rfl, rfl, rfl, rfl, rfl, hK, hS, hL_s_On, hL_s_Off, hL_l, hL_1, hL_119, hL_119, hL_119, hL_120, hL_119, hM⟩
          · refine HS.eff rfl (want_none) rfl (st_alloc (c := #[.bool false, .slice none 0 0, .slice none 0 0]) hS tz_24 rfl) ?_
            rintro _ h_88 ⟨b_94, rfl, hS, hk⟩
            replace hK := hK.trans hk
            replace hL_s_On := hL_s_On.kp hk
            replace hL_s_Off := hL_s_Off.kp hk
            replace hL_l := hL_l.kp hk
            replace hL_1 := hL_1.kp hk
            replace hL_119 := hL_119.kp hk
            replace hL_120 := hL_120.kp hk
            refine Go.Wk.HA.re (fun h => (SliceIs h 17 e_api_Addr vs_On s_On) ∧ (SliceIs h 17 e_api_Addr vs_Off s_Off) ∧ (SliceIs h 17 e_api_Addr vl l) ∧ (SliceIs h 17 e_api_Addr vr_1_1 r_1_1) ∧ (SliceIs h 17 e_api_Addr vr_2_1 r_2_1) ∧ (SliceIs h 17 e_api_Addr vr_2_1 r_2_1) ∧ (SliceIs h 17 e_api_Addr vr_2_1 r_2_1) ∧ (SliceIs h 17 e_api_Addr vr_1_22 r_1_22) ∧ (SliceIs h 17 e_api_Addr vr_2_1 r_2_1) ∧ (OwnIs h 0 34 17 e_api_Addr vr_2_22 r_2_22) ∧ (OwnIs h 0 34 17 e_api_Addr vr_7 r_8) ∧ (OwnIs h 0 34 17 e_api_Addr vr_1_23 r_1_23) ∧ (OwnIs h 0 34 17 e_api_Addr vr_2_23 r_2_23) ∧ (OwnIs h 0 34 17 e_api_Addr vr_1 r_2) ∧ (Blk h b_2 (.cells (e_api_Addr a).toArray 34 (0, 0))) ∧ (Blk h b_1 (.cells #[.bool r_0_1, vr_1_1, vr_2_1] 24 (0, 0)))) [(11, fun h => (Blk h b_94 (.cells #[.bool false, .slice none 0 0, .slice none 0 0] 24 (0, 0))))] (fun L_ h_ hL_ ⟨hL_s_On, hL_s_Off, hL_l, hL_1, hL_119, _, _, hL_120, _, c220, c232, c238, c239, c204, c202, c201⟩ hs_ => ⟨c201, (Go.Wk.at_nil _ _)⟩) ?_
            exact N_9 (F_69, r_2_22, r_8, r_1_23, r_2_23, r_2_1, r_2_1, r_2_1, r_0_22, r_1_22, r_0_23, r_2_1, b_94, vr_2_22, vr_7, vr_1_23, vr_2_23, vr_2_1, vr_2_1, vr_2_1, vr_1_22, vr_2_1) _ _ ⟨rfl, rfl, rfl, rfl, rfl, rfl, rfl, rfl, rfl, rfl, rfl, rfl, rfl, rfl, rfl, rfl, rfl, hK, hS, hL_s_On, hL_s_Off, hL_l, hL_1, hL_119, hL_119, hL_119, hL_120, hL_119, hM⟩
        · refine HS.eff rfl (want_none) rfl (st_alloc (c := #[.bool false, .slice none 0 0, .slice none 0 0]) hS tz_24 rfl) ?_
          rintro _ h_87 ⟨b_94, rfl, hS, hk⟩
          replace hK := hK.trans hk
          replace hL_s_On := hL_s_On.kp hk
          replace hL_s_Off := hL_s_Off.kp hk
          replace hL_l := hL_l.kp hk
          replace hL_1 := hL_1.kp hk
          replace hL_119 := hL_119.kp hk
          replace hL_120 := hL_120.kp hk
          refine Go.Wk.HA.re (fun h => (SliceIs h 17 e_api_Addr vs_On s_On) ∧ (SliceIs h 17 e_api_Addr vs_Off s_Off) ∧ (SliceIs h 17 e_api_Addr vl l) ∧ (SliceIs h 17 e_api_Addr vr_1_1 r_1_1) ∧ (SliceIs h 17 e_api_Addr vr_2_1 r_2_1) ∧ (SliceIs h 17 e_api_Addr vr_2_1 r_2_1) ∧ (SliceIs h 17 e_api_Addr vr_2_1 r_2_1) ∧ (SliceIs h 17 e_api_Addr vr_1_22 r_1_22) ∧ (SliceIs h 17 e_api_Addr vr_2_1 r_2_1) ∧ (OwnIs h 0 34 17 e_api_Addr vr_1 r_2) ∧ (OwnIs h 0 34 17 e_api_Addr vr_7 r_8) ∧ (OwnIs h 0 34 17 e_api_Addr vr_2_22 r_2_22) ∧ (Blk h b_2 (.cells (e_api_Addr a).toArray 34 (0, 0))) ∧ (Blk h b_1 (.cells #[.bool r_0_1, vr_1_1, vr_2_1] 24 (0, 0)))) [(10, fun h => (Blk h b_94 (.cells #[.bool false, .slice none 0 0, .slice none 0 0] 24 (0, 0))))] (fun L_ h_ hL_ ⟨hL_s_On, hL_s_Off, hL_l, hL_1, hL_119, _, _, hL_120, _, c204, c232, c220, c202, c201⟩ hs_ => ⟨c201, (Go.Wk.at_nil _ _)⟩) ?_
          exact N_11 (F_67, r_8, r_2_22, r_2_1, r_2_1, r_2_1, r_0_22, r_1_22, r_2_1, b_94, vr_7, vr_2_22, vr_2_1, vr_2_1, vr_2_1, vr_1_22, vr_2_1) _ _ ⟨rfl, rfl, rfl, rfl, rfl, rfl, rfl, rfl, rfl, rfl, rfl, rfl, rfl, rfl, rfl, rfl, hK, hS, hL_s_On, hL_s_Off, hL_l, hL_1, hL_119, hL_119, hL_119, hL_120, hL_119, hM⟩
        · refine HS.eff rfl (want_none) rfl (st_alloc (c := #[.bool false, .slice none 0 0, .slice none 0 0]) hS tz_24 rfl) ?_
          rintro _ h_87 ⟨b_94, rfl, hS, hk⟩
          replace hK := hK.trans hk
          replace hL_s_On := hL_s_On.kp hk
          replace hL_s_Off := hL_s_Off.kp hk
          replace hL_l := hL_l.kp hk
          replace hL_1 := hL_1.kp hk
          replace hL_119 := hL_119.kp hk
          replace hL_120 := hL_120.kp hk
          refine Go.Wk.HA.re (fun h => (SliceIs h 17 e_api_Addr vs_On s_On) ∧ (SliceIs h 17 e_api_Addr vs_Off s_Off) ∧ (SliceIs h 17 e_api_Addr vl l) ∧ (SliceIs h 17 e_api_Addr vr_1_1 r_1_1) ∧ (SliceIs h 17 e_api_Addr vr_2_1 r_2_1) ∧ (SliceIs h 17 e_api_Addr vr_2_1 r_2_1) ∧ (SliceIs h 17 e_api_Addr vr_2_1 r_2_1) ∧ (SliceIs h 17 e_api_Addr vr_1_22 r_1_22) ∧ (SliceIs h 17 e_api_Addr vr_2_1 r_2_1) ∧ (OwnIs h 0 34 17 e_api_Addr vr_1 r_2) ∧ (OwnIs h 0 34 17 e_api_Addr vr_7 r_8) ∧ (OwnIs h 0 34 17 e_api_Addr vr_2_22 r_2_22) ∧ (Blk h b_2 (.cells (e_api_Addr a).toArray 34 (0, 0))) ∧ (Blk h b_1 (.cells #[.bool r_0_1, vr_1_1, vr_2_1] 24 (0, 0)))) [(11, fun h => (Blk h b_94 (.cells #[.bool false, .slice none 0 0, .slice none 0 0] 24 (0, 0))))] (fun L_ h_ hL_ ⟨hL_s_On, hL_s_Off, hL_l, hL_1, hL_119, _, _, hL_120, _, c204, c232, c220, c202, c201⟩ hs_ => ⟨c201, (Go.Wk.at_nil _ _)⟩) ?_
          exact N_12 (F_67, r_8, r_2_22, r_2_1, r_2_1, r_2_1, r_0_22, r_1_22, r_2_1, b_94, vr_7, vr_2_22, vr_2_1, vr_2_1, vr_2_1, vr_1_22, vr_2_1) _ _ ⟨rfl, rfl, rfl, rfl, rfl, rfl, rfl, rfl, rfl, rfl, rfl, rfl, rfl, rfl, rfl, rfl, hK, hS, hL_s_On, hL_s_Off, hL_l, hL_1, hL_119, hL_119, hL_119, hL_120, hL_119, hM⟩
      · refine HS.eff rfl (want_none) rfl (st_alloc (c := #[.bool false, .slice none 0 0, .slice none 0 0]) hS tz_24 rfl) ?_
        rintro _ h_86 ⟨b_94, rfl, hS, hk⟩
        replace hK := hK.trans hk
        replace hL_s_On := hL_s_On.kp hk
        replace hL_s_Off := hL_s_Off.kp hk
        replace hL_l := hL_l.kp hk
        replace hL_1 := hL_1.kp hk
        replace hL_119 := hL_119.kp hk
        replace hL_120 := hL_120.kp hk
        refine Go.Wk.HA.re (fun h => (SliceIs h 17 e_api_Addr vs_On s_On) ∧ (SliceIs h 17 e_api_Addr vs_Off s_Off) ∧ (SliceIs h 17 e_api_Addr vl l) ∧ (SliceIs h 17 e_api_Addr vr_1_1 r_1_1) ∧ (SliceIs h 17 e_api_Addr vr_2_1 r_2_1) ∧ (SliceIs h 17 e_api_Addr vr_2_1 r_2_1) ∧ (SliceIs h 17 e_api_Addr vr_2_1 r_2_1) ∧ (SliceIs h 17 e_api_Addr vr_1_22 r_1_22) ∧ (SliceIs h 17 e_api_Addr vr_2_1 r_2_1) ∧ (OwnIs h 0 34 17 e_api_Addr vr_2_22 r_2_22) ∧ (OwnIs h 0 34 17 e_api_Addr vr_1 r_2) ∧ (Blk h b_2 (.cells (e_api_Addr a).toArray 34 (0, 0))) ∧ (Blk h b_1 (.cells #[.bool r_0_1, vr_1_1, vr_2_1] 24 (0, 0)))) [(10, fun h => (Blk h b_94 (.cells #[.bool false, .slice none 0 0, .slice none 0 0] 24 (0, 0))))] (fun L_ h_ hL_ ⟨hL_s_On, hL_s_Off, hL_l, hL_1, hL_119, _, _, hL_120, _, c220, c204, c202, c201⟩ hs_ => ⟨c201, (Go.Wk.at_nil _ _)⟩) ?_
        exact N_14 (F_65, r_2_22, r_2_1, r_2_1, r_2_1, r_0_22, r_1_22, r_2_1, b_94, vr_2_22, vr_2_1, vr_2_1, vr_2_1, vr_1_22, vr_2_1) _ _ ⟨rfl, rfl, rfl, rfl, rfl, rfl, rfl, rfl, rfl, rfl, rfl, rfl, rfl, rfl, rfl, hK, hS, hL_s_On, hL_s_Off, hL_l, hL_1, hL_119, hL_119, hL_119, hL_120, hL_119, hM⟩
      · refine HS.eff rfl (want_none) rfl (st_alloc (c := #[.bool false, .slice none 0 0, .slice none 0 0]) hS tz_24 rfl) ?_
        rintro _ h_86 ⟨b_94, rfl, hS, hk⟩
        replace hK := hK.trans hk
        replace hL_s_On := hL_s_On.kp hk
        replace hL_s_Off := hL_s_Off.kp hk
        replace hL_l := hL_l.kp hk
        replace hL_1 := hL_1.kp hk
        replace hL_119 := hL_119.kp hk
        replace hL_120 := hL_120.kp hk
        refine Go.Wk.HA.re (fun h => (SliceIs h 17 e_api_Addr vs_On s_On) ∧ (SliceIs h 17 e_api_Addr vs_Off s_Off) ∧ (SliceIs h 17 e_api_Addr vl l) ∧ (SliceIs h 17 e_api_Addr vr_1_1 r_1_1) ∧ (SliceIs h 17 e_api_Addr vr_2_1 r_2_1) ∧ (SliceIs h 17 e_api_Addr vr_2_1 r_2_1) ∧ (SliceIs h 17 e_api_Addr vr_2_1 r_2_1) ∧ (SliceIs h 17 e_api_Addr vr_1_22 r_1_22) ∧ (SliceIs h 17 e_api_Addr vr_2_1 r_2_1) ∧ (OwnIs h 0 34 17 e_api_Addr vr_2_22 r_2_22) ∧ (OwnIs h 0 34 17 e_api_Addr vr_1 r_2) ∧ (Blk h b_2 (.cells (e_api_Addr a).toArray 34 (0, 0))) ∧ (Blk h b_1 (.cells #[.bool r_0_1, vr_1_1, vr_2_1] 24 (0, 0)))) [(11, fun h => (Blk h b_94 (.cells #[.bool false, .slice none 0 0, .slice none 0 0] 24 (0, 0))))] (fun L_ h_ hL_ ⟨hL_s_On, hL_s_Off, hL_l, hL_1, hL_119, _, _, hL_120, _, c220, c204, c202, c201⟩ hs_ => ⟨c201, (Go.Wk.at_nil _ _)⟩) ?_
        exact N_15 (F_65, r_2_22, r_2_1, r_2_1, r_2_1, r_0_22, r_1_22, r_2_1, b_94, vr_2_22, vr_2_1, vr_2_1, vr_2_1, vr_1_22, vr_2_1) _ _ ⟨rfl, rfl, rfl, rfl, rfl, rfl, rfl, rfl, rfl, rfl, rfl, rfl, rfl, rfl, rfl, hK, hS, hL_s_On, hL_s_Off, hL_l, hL_1, hL_119, hL_119, hL_119, hL_120, hL_119, hM⟩
    · refine HS.eff rfl (want_none) rfl (st_alloc (c := #[.bool false, .slice none 0 0, .slice none 0 0]) hS tz_24 rfl) ?_
      rintro _ h_85 ⟨b_94, rfl, hS, hk⟩
      replace hK := hK.trans hk
      replace hL_s_On := hL_s_On.kp hk
      replace hL_s_Off := hL_s_Off.kp hk
      replace hL_l := hL_l.kp hk
      replace hL_1 := hL_1.kp hk
      refine HA.two (k := 1) (k' := 9) ⟨(hS.box 4 rfl), (Go.Wk.at_nil _ _)⟩ (by kernel_rfl) ?_ ?_
      · replace hS : St F_2 (Ow.own 34 17 e_api_Addr vr_2_1 r_2_1 :: Ow.box b_94 24 #[.bool false, .slice none 0 0, .slice none 0 0] :: Ow.own 34 17 e_api_Addr vr_1 r_2 :: Ow.box b_2 34 (e_api_Addr a).toArray :: Ow.box b_1 24 #[.bool r_0_1, vr_1_1, vr_2_1] :: fr) h_85 := hS.perm2 [2, 0, 1, 3, 4] 5 rfl rfl
        obtain ⟨F_64, hS, hk, hL_119⟩ := hS.freezeOwn
        replace hK := hK.trans hk
        replace hL_s_On := hL_s_On.kp hk
        replace hL_s_Off := hL_s_Off.kp hk
        replace hL_l := hL_l.kp hk
        replace hL_1 := hL_1.kp hk
        refine HS.call rfl (want_none) rfl (ec en_7 rfl rfl) (law15_Few_walk (fr := (Ow.box b_94 24 #[.bool false, .slice none 0 0, .slice none 0 0] :: Ow.own 34 17 e_api_Addr vr_1 r_2 :: Ow.box b_2 34 (e_api_Addr a).toArray :: Ow.box b_1 24 #[.bool r_0_1, vr_1_1, vr_2_1] :: fr)) r_0_1 r_1_1 r_2_1 vr_1_1 vr_2_1 hS hL_1 hL_119 hM) ?_
        rintro _ h_86 ⟨F_65, r_0_22, r_1_22, r_2_22, vr_1_22, vr_2_22, rfl, hk, hS, _, _, hL_120, hM⟩
        replace hK := hK.trans hk
        replace hL_s_On := hL_s_On.kp hk
        replace hL_s_Off := hL_s_Off.kp hk
        replace hL_l := hL_l.kp hk
        replace hL_1 := hL_1.kp hk
        replace hL_119 := hL_119.kp hk
        replace hS : St F_65 (Ow.box b_94 24 #[.bool false, .slice none 0 0, .slice none 0 0] :: Ow.own 34 17 e_api_Addr vr_2_22 r_2_22 :: Ow.own 34 17 e_api_Addr vr_1 r_2 :: Ow.box b_2 34 (e_api_Addr a).toArray :: Ow.box b_1 24 #[.bool r_0_1, vr_1_1, vr_2_1] :: fr) h_86 := hS.perm2 [1, 0, 2, 3, 4] 5 rfl rfl
        refine Go.Wk.HA.re (fun h => (SliceIs h 17 e_api_Addr vs_On s_On) ∧ (SliceIs h 17 e_api_Addr vs_Off s_Off) ∧ (SliceIs h 17 e_api_Addr vl l) ∧ (SliceIs h 17 e_api_Addr vr_1_1 r_1_1) ∧ (SliceIs h 17 e_api_Addr vr_2_1 r_2_1) ∧ (SliceIs h 17 e_api_Addr vr_2_1 r_2_1) ∧ (SliceIs h 17 e_api_Addr vr_2_1 r_2_1) ∧ (SliceIs h 17 e_api_Addr vr_1_22 r_1_22) ∧ (SliceIs h 17 e_api_Addr vr_2_1 r_2_1) ∧ (OwnIs h 0 34 17 e_api_Addr vr_2_22 r_2_22) ∧ (OwnIs h 0 34 17 e_api_Addr vr_1 r_2) ∧ (Blk h b_2 (.cells (e_api_Addr a).toArray 34 (0, 0))) ∧ (Blk h b_1 (.cells #[.bool r_0_1, vr_1_1, vr_2_1] 24 (0, 0)))) [(10, fun h => (Blk h b_94 (.cells #[.bool false, .slice none 0 0, .slice none 0 0] 24 (0, 0))))] (fun L_ h_ hL_ ⟨hL_s_On, hL_s_Off, hL_l, hL_1, hL_119, _, _, hL_120, _, c220, c204, c202, c201⟩ hs_ => ⟨c201, (Go.Wk.at_nil _ _)⟩) ?_
        exact N_14 (F_65, r_2_22, r_2_1, r_2_1, r_2_1, r_0_22, r_1_22, r_2_1, b_94, vr_2_22, vr_2_1, vr_2_1, vr_2_1, vr_1_22, vr_2_1) _ _ ⟨rfl, rfl, rfl, rfl, rfl, rfl, rfl, rfl, rfl, rfl, rfl, rfl, rfl, rfl, rfl, hK, hS, hL_s_On, hL_s_Off, hL_l, hL_1, hL_119, hL_119, hL_119, hL_120, hL_119, hM⟩
      · refine HS.eff rfl (want_none) rfl (st_alloc (c := #[.bool false, .slice none 0 0, .slice none 0 0]) hS tz_24 rfl) ?_
        rintro _ h_86 ⟨b_95, rfl, hS, hk⟩
        replace hK := hK.trans hk
        replace hL_s_On := hL_s_On.kp hk
        replace hL_s_Off := hL_s_Off.kp hk
        replace hL_l := hL_l.kp hk
        replace hL_1 := hL_1.kp hk
        refine Go.Wk.HA.re (fun h => (SliceIs h 17 e_api_Addr vs_On s_On) ∧ (SliceIs h 17 e_api_Addr vs_Off s_Off) ∧ (SliceIs h 17 e_api_Addr vl l) ∧ (SliceIs h 17 e_api_Addr vr_1_1 r_1_1) ∧ (OwnIs h 0 34 17 e_api_Addr vr_1 r_2) ∧ (Blk h b_2 (.cells (e_api_Addr a).toArray 34 (0, 0))) ∧ (Blk h b_1 (.cells #[.bool r_0_1, vr_1_1, vr_2_1] 24 (0, 0)))) [(1, fun h => (OwnIs h 0 34 17 e_api_Addr vr_2_1 r_2_1)), (10, fun h => (Blk h b_94 (.cells #[.bool false, .slice none 0 0, .slice none 0 0] 24 (0, 0)))), (11, fun h => (Blk h b_95 (.cells #[.bool false, .slice none 0 0, .slice none 0 0] 24 (0, 0))))] (fun L_ h_ hL_ ⟨hL_s_On, hL_s_Off, hL_l, hL_1, c204, c202, c201⟩ hs_ => ⟨c201, (Go.Wk.at_nil _ _)⟩) ?_
        exact N_16 (F_2, b_95, b_94) _ _ ⟨rfl, rfl, rfl, rfl, rfl, rfl, rfl, rfl, rfl, rfl, rfl, rfl, rfl, rfl, rfl, hK, hS, hL_s_On, hL_s_Off, hL_l, hL_1, hM⟩
    · refine HS.eff rfl (want_none) rfl (st_alloc (c := #[.bool false, .slice none 0 0, .slice none 0 0]) hS tz_24 rfl) ?_
      rintro _ h_85 ⟨b_94, rfl, hS, hk⟩
      replace hK := hK.trans hk
      replace hL_s_On := hL_s_On.kp hk
      replace hL_s_Off := hL_s_Off.kp hk
      replace hL_l := hL_l.kp hk
      replace hL_1 := hL_1.kp hk
      refine HA.two (k := 1) (k' := 8) ⟨(hS.box 4 rfl), (Go.Wk.at_nil _ _)⟩ (by kernel_rfl) ?_ ?_
      · replace hS : St F_2 (Ow.own 34 17 e_api_Addr vr_2_1 r_2_1 :: Ow.box b_94 24 #[.bool false, .slice none 0 0, .slice none 0 0] :: Ow.own 34 17 e_api_Addr vr_1 r_2 :: Ow.box b_2 34 (e_api_Addr a).toArray :: Ow.box b_1 24 #[.bool r_0_1, vr_1_1, vr_2_1] :: fr) h_85 := hS.perm2 [2, 0, 1, 3, 4] 5 rfl rfl
        obtain ⟨F_64, hS, hk, hL_119⟩ := hS.freezeOwn
        replace hK := hK.trans hk
        replace hL_s_On := hL_s_On.kp hk
        replace hL_s_Off := hL_s_Off.kp hk
        replace hL_l := hL_l.kp hk
        replace hL_1 := hL_1.kp hk
        refine HS.call rfl (want_none) rfl (ec en_7 rfl rfl) (law15_Few_walk (fr := (Ow.box b_94 24 #[.bool false, .slice none 0 0, .slice none 0 0] :: Ow.own 34 17 e_api_Addr vr_1 r_2 :: Ow.box b_2 34 (e_api_Addr a).toArray :: Ow.box b_1 24 #[.bool r_0_1, vr_1_1, vr_2_1] :: fr)) r_0_1 r_1_1 r_2_1 vr_1_1 vr_2_1 hS hL_1 hL_119 hM) ?_
        rintro _ h_86 ⟨F_65, r_0_22, r_1_22, r_2_22, vr_1_22, vr_2_22, rfl, hk, hS, _, _, hL_120, hM⟩
        replace hK := hK.trans hk
        replace hL_s_On := hL_s_On.kp hk
        replace hL_s_Off := hL_s_Off.kp hk
        replace hL_l := hL_l.kp hk
        replace hL_1 := hL_1.kp hk
        replace hL_119 := hL_119.kp hk
        replace hS : St F_65 (Ow.box b_94 24 #[.bool false, .slice none 0 0, .slice none 0 0] :: Ow.own 34 17 e_api_Addr vr_2_22 r_2_22 :: Ow.own 34 17 e_api_Addr vr_1 r_2 :: Ow.box b_2 34 (e_api_Addr a).toArray :: Ow.box b_1 24 #[.bool r_0_1, vr_1_1, vr_2_1] :: fr) h_86 := hS.perm2 [1, 0, 2, 3, 4] 5 rfl rfl
        refine Go.Wk.HA.re (fun h => (SliceIs h 17 e_api_Addr vs_On s_On) ∧ (SliceIs h 17 e_api_Addr vs_Off s_Off) ∧ (SliceIs h 17 e_api_Addr vl l) ∧ (SliceIs h 17 e_api_Addr vr_1_1 r_1_1) ∧ (SliceIs h 17 e_api_Addr vr_2_1 r_2_1) ∧ (SliceIs h 17 e_api_Addr vr_2_1 r_2_1) ∧ (SliceIs h 17 e_api_Addr vr_2_1 r_2_1) ∧ (SliceIs h 17 e_api_Addr vr_1_22 r_1_22) ∧ (SliceIs h 17 e_api_Addr vr_2_1 r_2_1) ∧ (OwnIs h 0 34 17 e_api_Addr vr_2_22 r_2_22) ∧ (OwnIs h 0 34 17 e_api_Addr vr_1 r_2) ∧ (Blk h b_2 (.cells (e_api_Addr a).toArray 34 (0, 0))) ∧ (Blk h b_1 (.cells #[.bool r_0_1, vr_1_1, vr_2_1] 24 (0, 0)))) [(11, fun h => (Blk h b_94 (.cells #[.bool false, .slice none 0 0, .slice none 0 0] 24 (0, 0))))] (fun L_ h_ hL_ ⟨hL_s_On, hL_s_Off, hL_l, hL_1, hL_119, _, _, hL_120, _, c220, c204, c202, c201⟩ hs_ => ⟨c201, (Go.Wk.at_nil _ _)⟩) ?_
        exact N_15 (F_65, r_2_22, r_2_1, r_2_1, r_2_1, r_0_22, r_1_22, r_2_1, b_94, vr_2_22, vr_2_1, vr_2_1, vr_2_1, vr_1_22, vr_2_1) _ _ ⟨rfl, rfl, rfl, rfl, rfl, rfl, rfl, rfl, rfl, rfl, rfl, rfl, rfl, rfl, rfl, hK, hS, hL_s_On, hL_s_Off, hL_l, hL_1, hL_119, hL_119, hL_119, hL_120, hL_119, hM⟩
      · refine HS.eff rfl (want_none) rfl (st_alloc (c := #[.bool false, .slice none 0 0, .slice none 0 0]) hS tz_24 rfl) ?_
        rintro _ h_86 ⟨b_95, rfl, hS, hk⟩
        replace hK := hK.trans hk
        replace hL_s_On := hL_s_On.kp hk
        replace hL_s_Off := hL_s_Off.kp hk
        replace hL_l := hL_l.kp hk
        replace hL_1 := hL_1.kp hk
        replace hS : St F_2 (Ow.box b_94 24 #[.bool false, .slice none 0 0, .slice none 0 0] :: Ow.box b_95 24 #[.bool false, .slice none 0 0, .slice none 0 0] :: Ow.own 34 17 e_api_Addr vr_1 r_2 :: Ow.own 34 17 e_api_Addr vr_2_1 r_2_1 :: Ow.box b_2 34 (e_api_Addr a).toArray :: Ow.box b_1 24 #[.bool r_0_1, vr_1_1, vr_2_1] :: fr) h_86 := hS.perm2 [1, 0, 2, 3, 4, 5] 6 rfl rfl
        refine Go.Wk.HA.re (fun h => (SliceIs h 17 e_api_Addr vs_On s_On) ∧ (SliceIs h 17 e_api_Addr vs_Off s_Off) ∧ (SliceIs h 17 e_api_Addr vl l) ∧ (SliceIs h 17 e_api_Addr vr_1_1 r_1_1) ∧ (OwnIs h 0 34 17 e_api_Addr vr_1 r_2) ∧ (Blk h b_2 (.cells (e_api_Addr a).toArray 34 (0, 0))) ∧ (Blk h b_1 (.cells #[.bool r_0_1, vr_1_1, vr_2_1] 24 (0, 0)))) [(1, fun h => (OwnIs h 0 34 17 e_api_Addr vr_2_1 r_2_1)), (10, fun h => (Blk h b_95 (.cells #[.bool false, .slice none 0 0, .slice none 0 0] 24 (0, 0)))), (11, fun h => (Blk h b_94 (.cells #[.bool false, .slice none 0 0, .slice none 0 0] 24 (0, 0))))] (fun L_ h_ hL_ ⟨hL_s_On, hL_s_Off, hL_l, hL_1, c204, c202, c201⟩ hs_ => ⟨c201, (Go.Wk.at_nil _ _)⟩) ?_
        exact N_16 (F_2, b_94, b_95) _ _ ⟨rfl, rfl, rfl, rfl, rfl, rfl, rfl, rfl, rfl, rfl, rfl, rfl, rfl, rfl, rfl, hK, hS, hL_s_On, hL_s_Off, hL_l, hL_1, hM⟩
  · rintro f_17 h_87 ⟨F_64, l_1, e_0_1, e_1_1, e_2_1, t_0_1, t_1_1, t_2_1, v_1, b_3, ve_1_1, ve_2_1, b_4, vt_1_1, vt_2_1, e2, e3, e4, e6, e7, e8, hK, hS, hL_s_On, hL_s_Off, hL_l, hL_1, hL_2, hM⟩
    unfold law15_FilterLets_j1 at hM
    refine HW.fr [(2, vr_1), (3, .pointer (some ⟨b_1, 0, none⟩)), (4, .pointer (some ⟨b_2, 0, none⟩)), (6, .bool false), (7, .pointer (some ⟨b_3, 0, none⟩)), (8, .pointer (some ⟨b_4, 0, none⟩))] ⟨e2, e3, e4, e6, e7, e8, trivial⟩ ?_
    refine HW.seq ?_
    refine HW.seq_mid (fun f h => ∃ (F' : Fz) (b_96 : Bool), f 3 = .pointer (some ⟨b_1, 0, none⟩) ∧ f 4 = .pointer (some ⟨b_2, 0, none⟩) ∧ f 6 = .bool false ∧ f 43 = .bool b_96 ∧ Kp F h0 F' h ∧ St F' (Ow.box b_1 24 #[.bool r_0_1, vr_1_1, v_1] :: Ow.box b_2 34 (e_api_Addr a).toArray :: fr) h ∧ (SliceF F' h 17 e_api_Addr vs_On s_On) ∧ (SliceF F' h 17 e_api_Addr vs_Off s_Off) ∧ (SliceF F' h 17 e_api_Addr vl l) ∧ (SliceF F' h 17 e_api_Addr vr_1_1 r_1_1) ∧ (SliceF F' h 17 e_api_Addr v_1 l_1) ∧ law15_FilterLets_j2 a Q r_0_1 r_1_1 l_1 b_96) ?_ ?_
    · refine HW.regionA 23 mixed (fun h => (Blk h b_1 (.cells #[.bool r_0_1, vr_1_1, v_1] 24 (0, 0))) ∧ (Blk h b_3 (.cells #[.bool e_0_1, ve_1_1, ve_2_1] 24 (0, 0))) ∧ (Blk h b_4 (.cells #[.bool t_0_1, vt_1_1, vt_2_1] 24 (0, 0)))) [] (by kernel_rfl) ?_
      refine HA.val (k := 0) (v := .agg #[.bool e_0_1, ve_1_1, ve_2_1]) rfl rfl (by kernel_rfl) (by kernel_rfl) (want_none) rfl (fun _ ⟨c206, c208, c211⟩ => q_loadAgg (cs := [.bool e_0_1, ve_1_1, ve_2_1]) ta_24 rfl rfl (Blk.cells (k := 3) c208 rfl)) ?_
      refine HA.val (k := 1) (v := .agg #[.bool r_0_1, vr_1_1, v_1]) rfl rfl (by kernel_rfl) (by kernel_rfl) (want_none) rfl (fun _ ⟨c206, c208, c211⟩ => q_loadAgg (cs := [.bool r_0_1, vr_1_1, v_1]) ta_24 rfl rfl (Blk.cells (k := 3) c206 rfl)) ?_
      refine HA.val (k := 2) (v := vr_1) rfl rfl (by kernel_rfl) (by kernel_rfl) (want_none) rfl (fun _ ⟨c206, c208, c211⟩ => q_move rfl) ?_
      refine HA.one (k := 3) ⟨⟨(hS.box 1 rfl), (hS.box 3 rfl), (hS.box 6 rfl)⟩, (Go.Wk.at_nil _ _)⟩ (by kernel_rfl) ?_
      obtain ⟨F_65, hS, hk, hL_119⟩ := hS.freezeOwn
      replace hK := hK.trans hk
      replace hL_s_On := hL_s_On.kp hk
      replace hL_s_Off := hL_s_Off.kp hk
      replace hL_l := hL_l.kp hk
      replace hL_1 := hL_1.kp hk
      replace hL_2 := hL_2.kp hk
      refine HS.call rfl (want_none) rfl (ec en_22 rfl rfl) (ref15_Expire_walk (fr := (Ow.box b_1 24 #[.bool r_0_1, vr_1_1, v_1] :: Ow.box b_2 34 (e_api_Addr a).toArray :: Ow.box b_3 24 #[.bool e_0_1, ve_1_1, ve_2_1] :: Ow.own 34 17 e_api_Addr ve_1_1 e_1_1 :: Ow.own 34 17 e_api_Addr ve_2_1 e_2_1 :: Ow.box b_4 24 #[.bool t_0_1, vt_1_1, vt_2_1] :: Ow.own 34 17 e_api_Addr vt_1_1 t_1_1 :: Ow.own 34 17 e_api_Addr vt_2_1 t_2_1 :: fr)) r_0_1 r_1_1 l_1 r_2 vr_1_1 v_1 vr_1 hS hL_1 hL_2 hL_119 hM) ?_
      rintro _ h_88 ⟨F_66, r_0_22, r_1_22, r_2_22, vr_1_22, vr_2_22, rfl, hk, hS, _, _, _, hL_120, hM⟩
      replace hK := hK.trans hk
      replace hL_s_On := hL_s_On.kp hk
      replace hL_s_Off := hL_s_Off.kp hk
      replace hL_l := hL_l.kp hk
      replace hL_1 := hL_1.kp hk
      replace hL_2 := hL_2.kp hk
      replace hL_119 := hL_119.kp hk
      refine HA.one (k := 4) ⟨⟨(hS.box 1 rfl), (hS.box 3 rfl), (hS.box 6 rfl)⟩, (Go.Wk.at_nil _ _)⟩ (by kernel_rfl) ?_
      replace hS : St F_66 (Ow.own 34 17 e_api_Addr ve_1_1 e_1_1 :: Ow.own 34 17 e_api_Addr vr_1_22 r_1_22 :: Ow.box b_1 24 #[.bool r_0_1, vr_1_1, v_1] :: Ow.box b_2 34 (e_api_Addr a).toArray :: Ow.box b_3 24 #[.bool e_0_1, ve_1_1, ve_2_1] :: Ow.own 34 17 e_api_Addr ve_2_1 e_2_1 :: Ow.box b_4 24 #[.bool t_0_1, vt_1_1, vt_2_1] :: Ow.own 34 17 e_api_Addr vt_1_1 t_1_1 :: Ow.own 34 17 e_api_Addr vt_2_1 t_2_1 :: fr) h_88 := hS.perm2 [4, 0, 1, 2, 3, 5, 6, 7, 8] 9 rfl rfl
      have hZ_21 := hS
      have hkz_21 := (hS.freeze).2
      replace hS := hS.freeze.1
      have hL_121 : SliceF (fun b => F_66 b ∨ (Ow.own 34 17 e_api_Addr ve_1_1 e_1_1).foot b) h_88 17 e_api_Addr ve_1_1 e_1_1 := ⟨(hZ_21.own 0 rfl).slice, fun _ b hb => .inr hb⟩
      replace hS : St (fun b => F_66 b ∨ (Ow.own 34 17 e_api_Addr ve_1_1 e_1_1).foot b) (Ow.own 34 17 e_api_Addr ve_2_1 e_2_1 :: Ow.own 34 17 e_api_Addr vr_1_22 r_1_22 :: Ow.box b_1 24 #[.bool r_0_1, vr_1_1, v_1] :: Ow.box b_2 34 (e_api_Addr a).toArray :: Ow.box b_3 24 #[.bool e_0_1, ve_1_1, ve_2_1] :: Ow.box b_4 24 #[.bool t_0_1, vt_1_1, vt_2_1] :: Ow.own 34 17 e_api_Addr vt_1_1 t_1_1 :: Ow.own 34 17 e_api_Addr vt_2_1 t_2_1 :: fr) h_88 := hS.perm2 [4, 0, 1, 2, 3, 5, 6, 7] 8 rfl rfl
      have hZ_22 := hS
      have hkz_22 := (hS.freeze).2
      replace hS := hS.freeze.1
      have hL_122 : SliceF (fun b => (fun b => F_66 b ∨ (Ow.own 34 17 e_api_Addr ve_1_1 e_1_1).foot b) b ∨ (Ow.own 34 17 e_api_Addr ve_2_1 e_2_1).foot b) h_88 17 e_api_Addr ve_2_1 e_2_1 := ⟨(hZ_22.own 0 rfl).slice, fun _ b hb => .inr hb⟩
      have hZ_23 := hS
      have hkz_23 := (hS.freeze).2
      replace hS := hS.freeze.1
      have hL_123 : SliceF (fun b => (fun b => (fun b => F_66 b ∨ (Ow.own 34 17 e_api_Addr ve_1_1 e_1_1).foot b) b ∨ (Ow.own 34 17 e_api_Addr ve_2_1 e_2_1).foot b) b ∨ (Ow.own 34 17 e_api_Addr vr_1_22 r_1_22).foot b) h_88 17 e_api_Addr vr_1_22 r_1_22 := ⟨(hZ_23.own 0 rfl).slice, fun _ b hb => .inr hb⟩
      refine HS.call rfl (want_none) rfl (ec en_21 rfl rfl) (ref15_Same_walk (fr := (Ow.box b_1 24 #[.bool r_0_1, vr_1_1, v_1] :: Ow.box b_2 34 (e_api_Addr a).toArray :: Ow.box b_3 24 #[.bool e_0_1, ve_1_1, ve_2_1] :: Ow.box b_4 24 #[.bool t_0_1, vt_1_1, vt_2_1] :: Ow.own 34 17 e_api_Addr vt_1_1 t_1_1 :: Ow.own 34 17 e_api_Addr vt_2_1 t_2_1 :: fr)) e_0_1 e_1_1 e_2_1 r_0_22 r_1_22 r_2_22 ve_1_1 ve_2_1 vr_1_22 vr_2_22 hS ((hL_121.kp hkz_22).kp hkz_23) (hL_122.kp hkz_23) hL_123 (((hL_120.kp hkz_21).kp hkz_22).kp hkz_23) hM) ?_
      rintro _ h_89 ⟨F_67, r_8, rfl, hk, hS, _, _, _, _, hM⟩
      obtain ⟨hS, hk⟩ := hZ_23.back hk hS
      obtain ⟨hS, hk⟩ := hZ_22.back hk hS
      obtain ⟨hS, hk⟩ := hZ_21.back hk hS
      generalize (fun b => (fun b => (fun b => F_67 b ∧ ¬ (Ow.own 34 17 e_api_Addr vr_1_22 r_1_22).foot b) b ∧ ¬ (Ow.own 34 17 e_api_Addr ve_2_1 e_2_1).foot b) b ∧ ¬ (Ow.own 34 17 e_api_Addr ve_1_1 e_1_1).foot b) = F_68 at hS hk
      replace hK := hK.trans hk
      replace hL_s_On := hL_s_On.kp hk
      replace hL_s_Off := hL_s_Off.kp hk
      replace hL_l := hL_l.kp hk
      replace hL_1 := hL_1.kp hk
      replace hL_2 := hL_2.kp hk
      replace hL_119 := hL_119.kp hk
      replace hL_120 := hL_120.kp hk
      refine HA.val (k := 5) (v := .bool (!r_8)) rfl rfl (by kernel_rfl) (by kernel_rfl) (want_none) rfl (fun _ ⟨c206, c208, c211⟩ => q_not rfl) ?_
      refine HA.val (k := 6) (v := .bool (!r_8)) rfl rfl (by kernel_rfl) (by kernel_rfl) (want_none) rfl (fun _ ⟨c206, c208, c211⟩ => q_move rfl) ?_
      rcases Bool.eq_false_or_eq_true (!r_8) with c_1 | c_1
      · replace hM := hM.1 c_1
        refine HA.past (k := 7) rfl rfl (by kernel_rfl) (by kernel_rfl) (past_by rfl rfl c_1) rfl ?_
        refine HA.past (k := 8) rfl rfl (by kernel_rfl) (by kernel_rfl) (past_by rfl rfl c_1) rfl ?_
        refine HA.one (k := 9) ⟨⟨(hS.box 3 rfl), (hS.box 5 rfl), (hS.box 6 rfl)⟩, (Go.Wk.at_nil _ _)⟩ (by kernel_rfl) ?_
        refine HS.past rfl (past_by rfl rfl c_1) rfl ?_
        refine HA.one (k := 10) ⟨⟨(hS.box 3 rfl), (hS.box 5 rfl), (hS.box 6 rfl)⟩, (Go.Wk.at_nil _ _)⟩ (by kernel_rfl) ?_
        refine HS.past rfl (past_by rfl rfl c_1) rfl ?_
        refine HA.past (k := 11) rfl rfl (by kernel_rfl) (by kernel_rfl) (past_by rfl rfl c_1) rfl ?_
        refine HA.val (k := 12) (v := .bool true) rfl rfl (by kernel_rfl) (by kernel_rfl) (want_none) rfl (fun _ ⟨c206, c208, c211⟩ => q_pickK true rfl c_1 rfl) ?_
        refine HA.val (k := 13) (v := .bool true) rfl rfl (by kernel_rfl) (by kernel_rfl) (want_none) rfl (fun _ ⟨c206, c208, c211⟩ => q_move rfl) ?_
        refine HA.past (k := 14) rfl rfl (by kernel_rfl) (by kernel_rfl) (past_some rfl rfl) rfl ?_
        refine HA.one (k := 15) ⟨⟨(hS.box 3 rfl), (hS.box 5 rfl), (hS.box 6 rfl)⟩, (Go.Wk.at_nil _ _)⟩ (by kernel_rfl) ?_
        refine HS.past rfl (past_some rfl rfl) rfl ?_
        refine HA.past (k := 16) rfl rfl (by kernel_rfl) (by kernel_rfl) (past_some rfl rfl) rfl ?_
        refine HA.val (k := 17) (v := .bool true) rfl rfl (by kernel_rfl) (by kernel_rfl) (want_none) rfl (fun _ ⟨c206, c208, c211⟩ => q_pick rfl rfl) ?_
        refine HA.val (k := 18) (v := .bool true) rfl rfl (by kernel_rfl) (by kernel_rfl) (want_none) rfl (fun _ ⟨c206, c208, c211⟩ => q_move rfl) ?_
        refine HA.past (k := 19) rfl rfl (by kernel_rfl) (by kernel_rfl) (past_some rfl rfl) rfl ?_
        refine HA.one (k := 20) ⟨⟨(hS.box 3 rfl), (hS.box 5 rfl), (hS.box 6 rfl)⟩, (Go.Wk.at_nil _ _)⟩ (by kernel_rfl) ?_
        refine HS.past rfl (past_some rfl rfl) rfl ?_
        refine HA.past (k := 21) rfl rfl (by kernel_rfl) (by kernel_rfl) (past_some rfl rfl) rfl ?_
        refine HA.val (k := 22) (v := .bool true) rfl rfl (by kernel_rfl) (by kernel_rfl) (want_none) rfl (fun _ ⟨c206, c208, c211⟩ => q_pick rfl rfl) ?_
        refine HA.nil ⟨⟨(hS.box 3 rfl), (hS.box 5 rfl), (hS.box 6 rfl)⟩, (Go.Wk.at_nil _ _)⟩ (by kernel_rfl) (thenQ_normal (?_))
        replace hS : St F_68 (Ow.box b_1 24 #[.bool r_0_1, vr_1_1, v_1] :: Ow.box b_2 34 (e_api_Addr a).toArray :: fr) h_89 := hS.perm2 [3, 4] 9 rfl rfl
        exact ⟨F_68, true, rfl, rfl, rfl, rfl, hK, hS, hL_s_On, hL_s_Off, hL_l, hL_1, hL_2, hM⟩
      · replace hM := hM.2 c_1
        refine HA.val (k := 7) (v := .agg #[.bool t_0_1, vt_1_1, vt_2_1]) rfl rfl (by kernel_rfl) (by kernel_rfl) (want_by rfl rfl c_1) rfl (fun _ ⟨c206, c208, c211⟩ => q_loadAgg (cs := [.bool t_0_1, vt_1_1, vt_2_1]) ta_24 rfl rfl (Blk.cells (k := 3) c211 rfl)) ?_
        refine HA.val (k := 8) (v := .agg #[.bool r_0_1, vr_1_1, v_1]) rfl rfl (by kernel_rfl) (by kernel_rfl) (want_by rfl rfl c_1) rfl (fun _ ⟨c206, c208, c211⟩ => q_loadAgg (cs := [.bool r_0_1, vr_1_1, v_1]) ta_24 rfl rfl (Blk.cells (k := 3) c206 rfl)) ?_
        refine HA.one (k := 9) ⟨⟨(hS.box 3 rfl), (hS.box 5 rfl), (hS.box 6 rfl)⟩, (Go.Wk.at_nil _ _)⟩ (by kernel_rfl) ?_
        refine HS.call rfl (want_by rfl rfl c_1) rfl (ec en_23 rfl rfl) (ref15_Turn_walk (fr := (Ow.own 34 17 e_api_Addr ve_1_1 e_1_1 :: Ow.own 34 17 e_api_Addr ve_2_1 e_2_1 :: Ow.own 34 17 e_api_Addr vr_1_22 r_1_22 :: Ow.box b_1 24 #[.bool r_0_1, vr_1_1, v_1] :: Ow.box b_2 34 (e_api_Addr a).toArray :: Ow.box b_3 24 #[.bool e_0_1, ve_1_1, ve_2_1] :: Ow.box b_4 24 #[.bool t_0_1, vt_1_1, vt_2_1] :: Ow.own 34 17 e_api_Addr vt_1_1 t_1_1 :: Ow.own 34 17 e_api_Addr vt_2_1 t_2_1 :: fr)) r_0_1 r_1_1 l_1 vr_1_1 v_1 hS hL_1 hL_2 hM) ?_
        rintro _ h_90 ⟨F_69, r_0_23, r_1_23, r_2_23, vr_1_23, vr_2_23, rfl, hk, hS, _, _, hL_124, hM⟩
        replace hK := hK.trans hk
        replace hL_s_On := hL_s_On.kp hk
        replace hL_s_Off := hL_s_Off.kp hk
        replace hL_l := hL_l.kp hk
        replace hL_1 := hL_1.kp hk
        replace hL_2 := hL_2.kp hk
        replace hL_119 := hL_119.kp hk
        replace hL_120 := hL_120.kp hk
        refine HA.one (k := 10) ⟨⟨(hS.box 4 rfl), (hS.box 6 rfl), (hS.box 7 rfl)⟩, (Go.Wk.at_nil _ _)⟩ (by kernel_rfl) ?_
        replace hS : St F_69 (Ow.own 34 17 e_api_Addr vt_1_1 t_1_1 :: Ow.own 34 17 e_api_Addr vr_2_23 r_2_23 :: Ow.own 34 17 e_api_Addr ve_1_1 e_1_1 :: Ow.own 34 17 e_api_Addr ve_2_1 e_2_1 :: Ow.own 34 17 e_api_Addr vr_1_22 r_1_22 :: Ow.box b_1 24 #[.bool r_0_1, vr_1_1, v_1] :: Ow.box b_2 34 (e_api_Addr a).toArray :: Ow.box b_3 24 #[.bool e_0_1, ve_1_1, ve_2_1] :: Ow.box b_4 24 #[.bool t_0_1, vt_1_1, vt_2_1] :: Ow.own 34 17 e_api_Addr vt_2_1 t_2_1 :: fr) h_90 := hS.perm2 [8, 0, 1, 2, 3, 4, 5, 6, 7, 9] 10 rfl rfl
        have hZ_24 := hS
        have hkz_24 := (hS.freeze).2
        replace hS := hS.freeze.1
        have hL_125 : SliceF (fun b => F_69 b ∨ (Ow.own 34 17 e_api_Addr vt_1_1 t_1_1).foot b) h_90 17 e_api_Addr vt_1_1 t_1_1 := ⟨(hZ_24.own 0 rfl).slice, fun _ b hb => .inr hb⟩
        replace hS : St (fun b => F_69 b ∨ (Ow.own 34 17 e_api_Addr vt_1_1 t_1_1).foot b) (Ow.own 34 17 e_api_Addr vt_2_1 t_2_1 :: Ow.own 34 17 e_api_Addr vr_2_23 r_2_23 :: Ow.own 34 17 e_api_Addr ve_1_1 e_1_1 :: Ow.own 34 17 e_api_Addr ve_2_1 e_2_1 :: Ow.own 34 17 e_api_Addr vr_1_22 r_1_22 :: Ow.box b_1 24 #[.bool r_0_1, vr_1_1, v_1] :: Ow.box b_2 34 (e_api_Addr a).toArray :: Ow.box b_3 24 #[.bool e_0_1, ve_1_1, ve_2_1] :: Ow.box b_4 24 #[.bool t_0_1, vt_1_1, vt_2_1] :: fr) h_90 := hS.perm2 [8, 0, 1, 2, 3, 4, 5, 6, 7] 9 rfl rfl
        have hZ_25 := hS
        have hkz_25 := (hS.freeze).2
        replace hS := hS.freeze.1
        have hL_126 : SliceF (fun b => (fun b => F_69 b ∨ (Ow.own 34 17 e_api_Addr vt_1_1 t_1_1).foot b) b ∨ (Ow.own 34 17 e_api_Addr vt_2_1 t_2_1).foot b) h_90 17 e_api_Addr vt_2_1 t_2_1 := ⟨(hZ_25.own 0 rfl).slice, fun _ b hb => .inr hb⟩
        have hZ_26 := hS
        have hkz_26 := (hS.freeze).2
        replace hS := hS.freeze.1
        have hL_127 : SliceF (fun b => (fun b => (fun b => F_69 b ∨ (Ow.own 34 17 e_api_Addr vt_1_1 t_1_1).foot b) b ∨ (Ow.own 34 17 e_api_Addr vt_2_1 t_2_1).foot b) b ∨ (Ow.own 34 17 e_api_Addr vr_2_23 r_2_23).foot b) h_90 17 e_api_Addr vr_2_23 r_2_23 := ⟨(hZ_26.own 0 rfl).slice, fun _ b hb => .inr hb⟩
        refine HS.call rfl (want_by rfl rfl c_1) rfl (ec en_21 rfl rfl) (ref15_Same_walk (fr := (Ow.own 34 17 e_api_Addr ve_1_1 e_1_1 :: Ow.own 34 17 e_api_Addr ve_2_1 e_2_1 :: Ow.own 34 17 e_api_Addr vr_1_22 r_1_22 :: Ow.box b_1 24 #[.bool r_0_1, vr_1_1, v_1] :: Ow.box b_2 34 (e_api_Addr a).toArray :: Ow.box b_3 24 #[.bool e_0_1, ve_1_1, ve_2_1] :: Ow.box b_4 24 #[.bool t_0_1, vt_1_1, vt_2_1] :: fr)) t_0_1 t_1_1 t_2_1 r_0_23 r_1_23 r_2_23 vt_1_1 vt_2_1 vr_1_23 vr_2_23 hS ((hL_125.kp hkz_25).kp hkz_26) (hL_126.kp hkz_26) (((hL_124.kp hkz_24).kp hkz_25).kp hkz_26) hL_127 hM) ?_
        rintro _ h_91 ⟨F_70, r_9, rfl, hk, hS, _, _, _, _, hM⟩
        obtain ⟨hS, hk⟩ := hZ_26.back hk hS
        obtain ⟨hS, hk⟩ := hZ_25.back hk hS
        obtain ⟨hS, hk⟩ := hZ_24.back hk hS
        generalize (fun b => (fun b => (fun b => F_70 b ∧ ¬ (Ow.own 34 17 e_api_Addr vr_2_23 r_2_23).foot b) b ∧ ¬ (Ow.own 34 17 e_api_Addr vt_2_1 t_2_1).foot b) b ∧ ¬ (Ow.own 34 17 e_api_Addr vt_1_1 t_1_1).foot b) = F_71 at hS hk
        replace hK := hK.trans hk
        replace hL_s_On := hL_s_On.kp hk
        replace hL_s_Off := hL_s_Off.kp hk
        replace hL_l := hL_l.kp hk
        replace hL_1 := hL_1.kp hk
        replace hL_2 := hL_2.kp hk
        replace hL_119 := hL_119.kp hk
        replace hL_120 := hL_120.kp hk
        replace hL_124 := hL_124.kp hk
        refine HA.val (k := 11) (v := .bool (!r_9)) rfl rfl (by kernel_rfl) (by kernel_rfl) (want_by rfl rfl c_1) rfl (fun _ ⟨c206, c208, c211⟩ => q_not rfl) ?_
        refine HA.val (k := 12) (v := .bool (!r_9)) rfl rfl (by kernel_rfl) (by kernel_rfl) (want_none) rfl (fun _ ⟨c206, c208, c211⟩ => q_pickK false rfl c_1 rfl) ?_
        refine HA.val (k := 13) (v := .bool (!r_9)) rfl rfl (by kernel_rfl) (by kernel_rfl) (want_none) rfl (fun _ ⟨c206, c208, c211⟩ => q_move rfl) ?_
        rcases Bool.eq_false_or_eq_true (!r_9) with c_2 | c_2
        · replace hM := hM.1 c_2
          refine HA.past (k := 14) rfl rfl (by kernel_rfl) (by kernel_rfl) (past_by rfl rfl c_2) rfl ?_
          refine HA.one (k := 15) ⟨⟨(hS.box 6 rfl), (hS.box 8 rfl), (hS.box 9 rfl)⟩, (Go.Wk.at_nil _ _)⟩ (by kernel_rfl) ?_
          refine HS.past rfl (past_by rfl rfl c_2) rfl ?_
          refine HA.past (k := 16) rfl rfl (by kernel_rfl) (by kernel_rfl) (past_by rfl rfl c_2) rfl ?_
          refine HA.val (k := 17) (v := .bool true) rfl rfl (by kernel_rfl) (by kernel_rfl) (want_none) rfl (fun _ ⟨c206, c208, c211⟩ => q_pickK true rfl c_2 rfl) ?_
          refine HA.val (k := 18) (v := .bool true) rfl rfl (by kernel_rfl) (by kernel_rfl) (want_none) rfl (fun _ ⟨c206, c208, c211⟩ => q_move rfl) ?_
          refine HA.past (k := 19) rfl rfl (by kernel_rfl) (by kernel_rfl) (past_some rfl rfl) rfl ?_
          refine HA.one (k := 20) ⟨⟨(hS.box 6 rfl), (hS.box 8 rfl), (hS.box 9 rfl)⟩, (Go.Wk.at_nil _ _)⟩ (by kernel_rfl) ?_
          refine HS.past rfl (past_some rfl rfl) rfl ?_
          refine HA.past (k := 21) rfl rfl (by kernel_rfl) (by kernel_rfl) (past_some rfl rfl) rfl ?_
          refine HA.val (k := 22) (v := .bool true) rfl rfl (by kernel_rfl) (by kernel_rfl) (want_none) rfl (fun _ ⟨c206, c208, c211⟩ => q_pick rfl rfl) ?_
          refine HA.nil ⟨⟨(hS.box 6 rfl), (hS.box 8 rfl), (hS.box 9 rfl)⟩, (Go.Wk.at_nil _ _)⟩ (by kernel_rfl) (thenQ_normal (?_))
          replace hS : St F_71 (Ow.box b_1 24 #[.bool r_0_1, vr_1_1, v_1] :: Ow.box b_2 34 (e_api_Addr a).toArray :: fr) h_91 := hS.perm2 [6, 7] 10 rfl rfl
          exact ⟨F_71, true, rfl, rfl, rfl, rfl, hK, hS, hL_s_On, hL_s_Off, hL_l, hL_1, hL_2, hM⟩
        · replace hM := hM.2 c_2
          refine HA.val (k := 14) (v := .agg #[.bool e_0_1, ve_1_1, ve_2_1]) rfl rfl (by kernel_rfl) (by kernel_rfl) (want_by rfl rfl c_2) rfl (fun _ ⟨c206, c208, c211⟩ => q_loadAgg (cs := [.bool e_0_1, ve_1_1, ve_2_1]) ta_24 rfl rfl (Blk.cells (k := 3) c208 rfl)) ?_
          refine HA.one (k := 15) ⟨⟨(hS.box 6 rfl), (hS.box 8 rfl), (hS.box 9 rfl)⟩, (Go.Wk.at_nil _ _)⟩ (by kernel_rfl) ?_
          replace hS : St F_71 (Ow.own 34 17 e_api_Addr ve_1_1 e_1_1 :: Ow.own 34 17 e_api_Addr vt_1_1 t_1_1 :: Ow.own 34 17 e_api_Addr vt_2_1 t_2_1 :: Ow.own 34 17 e_api_Addr vr_2_23 r_2_23 :: Ow.own 34 17 e_api_Addr ve_2_1 e_2_1 :: Ow.own 34 17 e_api_Addr vr_1_22 r_1_22 :: Ow.box b_1 24 #[.bool r_0_1, vr_1_1, v_1] :: Ow.box b_2 34 (e_api_Addr a).toArray :: Ow.box b_3 24 #[.bool e_0_1, ve_1_1, ve_2_1] :: Ow.box b_4 24 #[.bool t_0_1, vt_1_1, vt_2_1] :: fr) h_91 := hS.perm2 [3, 0, 1, 2, 4, 5, 6, 7, 8, 9] 10 rfl rfl
          have hZ_27 := hS
          have hkz_27 := (hS.freeze).2
          replace hS := hS.freeze.1
          have hL_128 : SliceF (fun b => F_71 b ∨ (Ow.own 34 17 e_api_Addr ve_1_1 e_1_1).foot b) h_91 17 e_api_Addr ve_1_1 e_1_1 := ⟨(hZ_27.own 0 rfl).slice, fun _ b hb => .inr hb⟩
          replace hS : St (fun b => F_71 b ∨ (Ow.own 34 17 e_api_Addr ve_1_1 e_1_1).foot b) (Ow.own 34 17 e_api_Addr ve_2_1 e_2_1 :: Ow.own 34 17 e_api_Addr vt_1_1 t_1_1 :: Ow.own 34 17 e_api_Addr vt_2_1 t_2_1 :: Ow.own 34 17 e_api_Addr vr_2_23 r_2_23 :: Ow.own 34 17 e_api_Addr vr_1_22 r_1_22 :: Ow.box b_1 24 #[.bool r_0_1, vr_1_1, v_1] :: Ow.box b_2 34 (e_api_Addr a).toArray :: Ow.box b_3 24 #[.bool e_0_1, ve_1_1, ve_2_1] :: Ow.box b_4 24 #[.bool t_0_1, vt_1_1, vt_2_1] :: fr) h_91 := hS.perm2 [3, 0, 1, 2, 4, 5, 6, 7, 8] 9 rfl rfl
          have hZ_28 := hS
          have hkz_28 := (hS.freeze).2
          replace hS := hS.freeze.1
          have hL_129 : SliceF (fun b => (fun b => F_71 b ∨ (Ow.own 34 17 e_api_Addr ve_1_1 e_1_1).foot b) b ∨ (Ow.own 34 17 e_api_Addr ve_2_1 e_2_1).foot b) h_91 17 e_api_Addr ve_2_1 e_2_1 := ⟨(hZ_28.own 0 rfl).slice, fun _ b hb => .inr hb⟩
          refine HS.call rfl (want_by rfl rfl c_2) rfl (ec en_18 rfl rfl) (filter_Good_walk (fr := (Ow.own 34 17 e_api_Addr vt_1_1 t_1_1 :: Ow.own 34 17 e_api_Addr vt_2_1 t_2_1 :: Ow.own 34 17 e_api_Addr vr_2_23 r_2_23 :: Ow.own 34 17 e_api_Addr vr_1_22 r_1_22 :: Ow.box b_1 24 #[.bool r_0_1, vr_1_1, v_1] :: Ow.box b_2 34 (e_api_Addr a).toArray :: Ow.box b_3 24 #[.bool e_0_1, ve_1_1, ve_2_1] :: Ow.box b_4 24 #[.bool t_0_1, vt_1_1, vt_2_1] :: fr)) e_0_1 e_1_1 e_2_1 ve_1_1 ve_2_1 hS (hL_128.kp hkz_28) hL_129 hM) ?_
          rintro _ h_92 ⟨F_72, r_10, rfl, hk, hS, _, _, hM⟩
          obtain ⟨hS, hk⟩ := hZ_28.back hk hS
          obtain ⟨hS, hk⟩ := hZ_27.back hk hS
          generalize (fun b => (fun b => F_72 b ∧ ¬ (Ow.own 34 17 e_api_Addr ve_2_1 e_2_1).foot b) b ∧ ¬ (Ow.own 34 17 e_api_Addr ve_1_1 e_1_1).foot b) = F_73 at hS hk
          replace hK := hK.trans hk
          replace hL_s_On := hL_s_On.kp hk
          replace hL_s_Off := hL_s_Off.kp hk
          replace hL_l := hL_l.kp hk
          replace hL_1 := hL_1.kp hk
          replace hL_2 := hL_2.kp hk
          replace hL_119 := hL_119.kp hk
          replace hL_120 := hL_120.kp hk
          replace hL_124 := hL_124.kp hk
          refine HA.val (k := 16) (v := .bool (!r_10)) rfl rfl (by kernel_rfl) (by kernel_rfl) (want_by rfl rfl c_2) rfl (fun _ ⟨c206, c208, c211⟩ => q_not rfl) ?_
          refine HA.val (k := 17) (v := .bool (!r_10)) rfl rfl (by kernel_rfl) (by kernel_rfl) (want_none) rfl (fun _ ⟨c206, c208, c211⟩ => q_pickK false rfl c_2 rfl) ?_
          refine HA.val (k := 18) (v := .bool (!r_10)) rfl rfl (by kernel_rfl) (by kernel_rfl) (want_none) rfl (fun _ ⟨c206, c208, c211⟩ => q_move rfl) ?_
          rcases Bool.eq_false_or_eq_true (!r_10) with c_3 | c_3
          · replace hM := hM.1 c_3
            refine HA.past (k := 19) rfl rfl (by kernel_rfl) (by kernel_rfl) (past_by rfl rfl c_3) rfl ?_
            refine HA.one (k := 20) ⟨⟨(hS.box 6 rfl), (hS.box 8 rfl), (hS.box 9 rfl)⟩, (Go.Wk.at_nil _ _)⟩ (by kernel_rfl) ?_
            refine HS.past rfl (past_by rfl rfl c_3) rfl ?_
            refine HA.past (k := 21) rfl rfl (by kernel_rfl) (by kernel_rfl) (past_by rfl rfl c_3) rfl ?_
            refine HA.val (k := 22) (v := .bool true) rfl rfl (by kernel_rfl) (by kernel_rfl) (want_none) rfl (fun _ ⟨c206, c208, c211⟩ => q_pickK true rfl c_3 rfl) ?_
            refine HA.nil ⟨⟨(hS.box 6 rfl), (hS.box 8 rfl), (hS.box 9 rfl)⟩, (Go.Wk.at_nil _ _)⟩ (by kernel_rfl) (thenQ_normal (?_))
            replace hS : St F_73 (Ow.box b_1 24 #[.bool r_0_1, vr_1_1, v_1] :: Ow.box b_2 34 (e_api_Addr a).toArray :: fr) h_92 := hS.perm2 [6, 7] 10 rfl rfl
            exact ⟨F_73, true, rfl, rfl, rfl, rfl, hK, hS, hL_s_On, hL_s_Off, hL_l, hL_1, hL_2, hM⟩
          · replace hM := hM.2 c_3
            refine HA.val (k := 19) (v := .agg #[.bool t_0_1, vt_1_1, vt_2_1]) rfl rfl (by kernel_rfl) (by kernel_rfl) (want_by rfl rfl c_3) rfl (fun _ ⟨c206, c208, c211⟩ => q_loadAgg (cs := [.bool t_0_1, vt_1_1, vt_2_1]) ta_24 rfl rfl (Blk.cells (k := 3) c211 rfl)) ?_
            refine HA.one (k := 20) ⟨⟨(hS.box 6 rfl), (hS.box 8 rfl), (hS.box 9 rfl)⟩, (Go.Wk.at_nil _ _)⟩ (by kernel_rfl) ?_
            replace hS : St F_73 (Ow.own 34 17 e_api_Addr vt_1_1 t_1_1 :: Ow.own 34 17 e_api_Addr ve_1_1 e_1_1 :: Ow.own 34 17 e_api_Addr ve_2_1 e_2_1 :: Ow.own 34 17 e_api_Addr vt_2_1 t_2_1 :: Ow.own 34 17 e_api_Addr vr_2_23 r_2_23 :: Ow.own 34 17 e_api_Addr vr_1_22 r_1_22 :: Ow.box b_1 24 #[.bool r_0_1, vr_1_1, v_1] :: Ow.box b_2 34 (e_api_Addr a).toArray :: Ow.box b_3 24 #[.bool e_0_1, ve_1_1, ve_2_1] :: Ow.box b_4 24 #[.bool t_0_1, vt_1_1, vt_2_1] :: fr) h_92 := hS.perm2 [2, 0, 1, 3, 4, 5, 6, 7, 8, 9] 10 rfl rfl
            have hZ_29 := hS
            have hkz_29 := (hS.freeze).2
            replace hS := hS.freeze.1
            have hL_130 : SliceF (fun b => F_73 b ∨ (Ow.own 34 17 e_api_Addr vt_1_1 t_1_1).foot b) h_92 17 e_api_Addr vt_1_1 t_1_1 := ⟨(hZ_29.own 0 rfl).slice, fun _ b hb => .inr hb⟩
            replace hS : St (fun b => F_73 b ∨ (Ow.own 34 17 e_api_Addr vt_1_1 t_1_1).foot b) (Ow.own 34 17 e_api_Addr vt_2_1 t_2_1 :: Ow.own 34 17 e_api_Addr ve_1_1 e_1_1 :: Ow.own 34 17 e_api_Addr ve_2_1 e_2_1 :: Ow.own 34 17 e_api_Addr vr_2_23 r_2_23 :: Ow.own 34 17 e_api_Addr vr_1_22 r_1_22 :: Ow.box b_1 24 #[.bool r_0_1, vr_1_1, v_1] :: Ow.box b_2 34 (e_api_Addr a).toArray :: Ow.box b_3 24 #[.bool e_0_1, ve_1_1, ve_2_1] :: Ow.box b_4 24 #[.bool t_0_1, vt_1_1, vt_2_1] :: fr) h_92 := hS.perm2 [2, 0, 1, 3, 4, 5, 6, 7, 8] 9 rfl rfl
            have hZ_30 := hS
            have hkz_30 := (hS.freeze).2
            replace hS := hS.freeze.1
            have hL_131 : SliceF (fun b => (fun b => F_73 b ∨ (Ow.own 34 17 e_api_Addr vt_1_1 t_1_1).foot b) b ∨ (Ow.own 34 17 e_api_Addr vt_2_1 t_2_1).foot b) h_92 17 e_api_Addr vt_2_1 t_2_1 := ⟨(hZ_30.own 0 rfl).slice, fun _ b hb => .inr hb⟩
            refine HS.call rfl (want_by rfl rfl c_3) rfl (ec en_18 rfl rfl) (filter_Good_walk (fr := (Ow.own 34 17 e_api_Addr ve_1_1 e_1_1 :: Ow.own 34 17 e_api_Addr ve_2_1 e_2_1 :: Ow.own 34 17 e_api_Addr vr_2_23 r_2_23 :: Ow.own 34 17 e_api_Addr vr_1_22 r_1_22 :: Ow.box b_1 24 #[.bool r_0_1, vr_1_1, v_1] :: Ow.box b_2 34 (e_api_Addr a).toArray :: Ow.box b_3 24 #[.bool e_0_1, ve_1_1, ve_2_1] :: Ow.box b_4 24 #[.bool t_0_1, vt_1_1, vt_2_1] :: fr)) t_0_1 t_1_1 t_2_1 vt_1_1 vt_2_1 hS (hL_130.kp hkz_30) hL_131 hM) ?_
            rintro _ h_93 ⟨F_74, r_11, rfl, hk, hS, _, _, hM⟩
            obtain ⟨hS, hk⟩ := hZ_30.back hk hS
            obtain ⟨hS, hk⟩ := hZ_29.back hk hS
            generalize (fun b => (fun b => F_74 b ∧ ¬ (Ow.own 34 17 e_api_Addr vt_2_1 t_2_1).foot b) b ∧ ¬ (Ow.own 34 17 e_api_Addr vt_1_1 t_1_1).foot b) = F_75 at hS hk
            replace hK := hK.trans hk
            replace hL_s_On := hL_s_On.kp hk
            replace hL_s_Off := hL_s_Off.kp hk
            replace hL_l := hL_l.kp hk
            replace hL_1 := hL_1.kp hk
            replace hL_2 := hL_2.kp hk
            replace hL_119 := hL_119.kp hk
            replace hL_120 := hL_120.kp hk
            replace hL_124 := hL_124.kp hk
            refine HA.val (k := 21) (v := .bool (!r_11)) rfl rfl (by kernel_rfl) (by kernel_rfl) (want_by rfl rfl c_3) rfl (fun _ ⟨c206, c208, c211⟩ => q_not rfl) ?_
            refine HA.val (k := 22) (v := .bool (!r_11)) rfl rfl (by kernel_rfl) (by kernel_rfl) (want_none) rfl (fun _ ⟨c206, c208, c211⟩ => q_pickK false rfl c_3 rfl) ?_
            refine HA.nil ⟨⟨(hS.box 6 rfl), (hS.box 8 rfl), (hS.box 9 rfl)⟩, (Go.Wk.at_nil _ _)⟩ (by kernel_rfl) (thenQ_normal (?_))
            replace hS : St F_75 (Ow.box b_1 24 #[.bool r_0_1, vr_1_1, v_1] :: Ow.box b_2 34 (e_api_Addr a).toArray :: fr) h_93 := hS.perm2 [6, 7] 10 rfl rfl
            exact ⟨F_75, !r_11, rfl, rfl, rfl, rfl, hK, hS, hL_s_On, hL_s_Off, hL_l, hL_1, hL_2, hM⟩
    · rintro f_18 h_94 ⟨F_76, b_96, e3, e4, e6, e43, hK, hS, hL_s_On, hL_s_Off, hL_l, hL_1, hL_2, hM⟩
      unfold law15_FilterLets_j2 at hM
      refine HW.fr [(3, .pointer (some ⟨b_1, 0, none⟩)), (4, .pointer (some ⟨b_2, 0, none⟩)), (6, .bool false), (43, .bool b_96)] ⟨e3, e4, e6, e43, trivial⟩ ?_
      refine HW.cond b_96 rfl (fun c_4 => ?_) (fun c_4 => ?_)
      · replace hM := hM.1 c_4
        refine HW.seq ?_
        refine HW.region ?_
        refine HO.val (v := .bool false) (want_none) rfl (q_assign rfl) ?_
        refine HO.nil (thenQ_normal (?_))
        refine HW.ret (thenQ_ret (?_))
        refine ⟨.inr rfl, .bool false, res1 rfl (rt rfl), ?_⟩
        replace hS : St F_76 (fr) h_94 := hS.perm2 [] 2 rfl rfl
        exact ⟨F_76, false, rfl, hK, hS, hL_s_On, hL_s_Off, hL_l, hM⟩
      · replace hM := hM.2 c_4
        refine HW.skip (thenQ_normal (?_))
        refine HW.seq ?_
        refine HW.regionA 29 mixed (fun h => (Blk h b_1 (.cells #[.bool r_0_1, vr_1_1, v_1] 24 (0, 0))) ∧ (Blk h b_2 (.cells (e_api_Addr a).toArray 34 (0, 0)))) [] (by kernel_rfl) ?_
        refine HA.val (k := 0) (v := .agg #[.bool r_0_1, vr_1_1, v_1]) rfl rfl (by kernel_rfl) (by kernel_rfl) (want_none) rfl (fun _ ⟨c214, c215⟩ => q_loadAgg (cs := [.bool r_0_1, vr_1_1, v_1]) ta_24 rfl rfl (Blk.cells (k := 3) c214 rfl)) ?_
        refine HA.val (k := 1) (v := .agg (e_api_Addr a).toArray) rfl rfl (by kernel_rfl) (by kernel_rfl) (want_none) rfl (fun _ ⟨c214, c215⟩ => q_loadAgg (cs := (e_api_Addr a)) ta_34 rfl rfl (Blk.cells (k := 17) c215 rfl)) ?_
        refine HA.val (k := 3) (v := .agg #[.bool r_0_1, vr_1_1, v_1]) rfl rfl (by kernel_rfl) (by kernel_rfl) (want_none) rfl (fun _ ⟨c214, c215⟩ => q_loadAgg (cs := [.bool r_0_1, vr_1_1, v_1]) ta_24 rfl rfl (Blk.cells (k := 3) c214 rfl)) ?_
        refine HA.val (k := 4) (v := .agg (e_api_Addr a).toArray) rfl rfl (by kernel_rfl) (by kernel_rfl) (want_none) rfl (fun _ ⟨c214, c215⟩ => q_loadAgg (cs := (e_api_Addr a)) ta_34 rfl rfl (Blk.cells (k := 17) c215 rfl)) ?_
        refine HA.one (k := 2) ⟨⟨(hS.box 0 rfl), (hS.box 1 rfl)⟩, (Go.Wk.at_nil _ _)⟩ (by kernel_rfl) ?_
        refine HS.call rfl (want_none) rfl (ec en_11 rfl rfl) (filter_Lets_walk (fr := (Ow.box b_1 24 #[.bool r_0_1, vr_1_1, v_1] :: Ow.box b_2 34 (e_api_Addr a).toArray :: fr)) r_0_1 r_1_1 l_1 a vr_1_1 v_1 hS hL_1 hL_2 hM) ?_
        rintro _ h_95 ⟨F_77, r_12, rfl, hk, hS, _, _, hM⟩
        replace hK := hK.trans hk
        replace hL_s_On := hL_s_On.kp hk
        replace hL_s_Off := hL_s_Off.kp hk
        replace hL_l := hL_l.kp hk
        replace hL_1 := hL_1.kp hk
        replace hL_2 := hL_2.kp hk
        refine HA.one (k := 5) ⟨⟨(hS.box 0 rfl), (hS.box 1 rfl)⟩, (Go.Wk.at_nil _ _)⟩ (by kernel_rfl) ?_
        refine HS.call rfl (want_none) rfl (ec en_24 rfl rfl) (ref15_Lets_walk (fr := (Ow.box b_1 24 #[.bool r_0_1, vr_1_1, v_1] :: Ow.box b_2 34 (e_api_Addr a).toArray :: fr)) r_0_1 r_1_1 l_1 a vr_1_1 v_1 hS hL_1 hL_2 hM) ?_
        rintro _ h_96 ⟨F_78, r_13, rfl, hk, hS, _, _, hM⟩
        replace hK := hK.trans hk
        replace hL_s_On := hL_s_On.kp hk
        replace hL_s_Off := hL_s_Off.kp hk
        replace hL_l := hL_l.kp hk
        replace hL_1 := hL_1.kp hk
        replace hL_2 := hL_2.kp hk
        refine HA.val (k := 6) (v := .bool (r_12 == r_13)) rfl rfl (by kernel_rfl) (by kernel_rfl) (want_none) rfl (fun _ ⟨c214, c215⟩ => q_eqlB Try.underlying4 rfl rfl) ?_
        refine HA.val (k := 7) (v := .bool (r_12 == r_13)) rfl rfl (by kernel_rfl) (by kernel_rfl) (want_none) rfl (fun _ ⟨c214, c215⟩ => q_move rfl) ?_
        rcases Bool.eq_false_or_eq_true (r_12 == r_13) with c_5 | c_5
        · replace hM := hM.1 c_5
          refine HA.val (k := 8) (v := .agg #[.bool r_0_1, vr_1_1, v_1]) rfl rfl (by kernel_rfl) (by kernel_rfl) (want_by rfl rfl c_5) rfl (fun _ ⟨c214, c215⟩ => q_loadAgg (cs := [.bool r_0_1, vr_1_1, v_1]) ta_24 rfl rfl (Blk.cells (k := 3) c214 rfl)) ?_
          refine HA.val (k := 10) (v := .agg #[.bool r_0_1, vr_1_1, v_1]) rfl rfl (by kernel_rfl) (by kernel_rfl) (want_by rfl rfl c_5) rfl (fun _ ⟨c214, c215⟩ => q_loadAgg (cs := [.bool r_0_1, vr_1_1, v_1]) ta_24 rfl rfl (Blk.cells (k := 3) c214 rfl)) ?_
          refine HA.one (k := 9) ⟨⟨(hS.box 0 rfl), (hS.box 1 rfl)⟩, (Go.Wk.at_nil _ _)⟩ (by kernel_rfl) ?_
          refine HS.call rfl (want_by rfl rfl c_5) rfl (ec en_14 rfl rfl) (filter_Gone_walk (fr := (Ow.box b_1 24 #[.bool r_0_1, vr_1_1, v_1] :: Ow.box b_2 34 (e_api_Addr a).toArray :: fr)) r_0_1 r_1_1 l_1 vr_1_1 v_1 hS hL_1 hL_2 hM) ?_
          rintro _ h_97 ⟨F_79, r_14, rfl, hk, hS, _, _, hM⟩
          replace hK := hK.trans hk
          replace hL_s_On := hL_s_On.kp hk
          replace hL_s_Off := hL_s_Off.kp hk
          replace hL_l := hL_l.kp hk
          replace hL_1 := hL_1.kp hk
          replace hL_2 := hL_2.kp hk
          refine HA.one (k := 11) ⟨⟨(hS.box 0 rfl), (hS.box 1 rfl)⟩, (Go.Wk.at_nil _ _)⟩ (by kernel_rfl) ?_
          refine HS.call rfl (want_by rfl rfl c_5) rfl (ec en_25 rfl rfl) (ref15_Gone_walk (fr := (Ow.box b_1 24 #[.bool r_0_1, vr_1_1, v_1] :: Ow.box b_2 34 (e_api_Addr a).toArray :: fr)) r_0_1 r_1_1 l_1 vr_1_1 v_1 hS hL_1 hL_2 hM) ?_
          rintro _ h_98 ⟨F_80, r_15, rfl, hk, hS, _, _, hM⟩
          replace hK := hK.trans hk
          replace hL_s_On := hL_s_On.kp hk
          replace hL_s_Off := hL_s_Off.kp hk
          replace hL_l := hL_l.kp hk
          replace hL_1 := hL_1.kp hk
          replace hL_2 := hL_2.kp hk
          refine HA.val (k := 12) (v := .bool (r_14 == r_15)) rfl rfl (by kernel_rfl) (by kernel_rfl) (want_by rfl rfl c_5) rfl (fun _ ⟨c214, c215⟩ => q_eqlB Try.underlying4 rfl rfl) ?_
          refine HA.val (k := 13) (v := .bool (r_14 == r_15)) rfl rfl (by kernel_rfl) (by kernel_rfl) (want_none) rfl (fun _ ⟨c214, c215⟩ => q_pickK true rfl c_5 rfl) ?_
          refine HA.val (k := 14) (v := .bool (r_14 == r_15)) rfl rfl (by kernel_rfl) (by kernel_rfl) (want_none) rfl (fun _ ⟨c214, c215⟩ => q_move rfl) ?_
          rcases Bool.eq_false_or_eq_true (r_14 == r_15) with c_6 | c_6
          · replace hM := hM.1 c_6
            refine HA.val (k := 15) (v := .agg #[.bool r_0_1, vr_1_1, v_1]) rfl rfl (by kernel_rfl) (by kernel_rfl) (want_by rfl rfl c_6) rfl (fun _ ⟨c214, c215⟩ => q_loadAgg (cs := [.bool r_0_1, vr_1_1, v_1]) ta_24 rfl rfl (Blk.cells (k := 3) c214 rfl)) ?_
            refine HA.one (k := 16) ⟨⟨(hS.box 0 rfl), (hS.box 1 rfl)⟩, (Go.Wk.at_nil _ _)⟩ (by kernel_rfl) ?_
            refine HS.call rfl (want_by rfl rfl c_6) rfl (ec en_14 rfl rfl) (filter_Gone_walk (fr := (Ow.box b_1 24 #[.bool r_0_1, vr_1_1, v_1] :: Ow.box b_2 34 (e_api_Addr a).toArray :: fr)) r_0_1 r_1_1 l_1 vr_1_1 v_1 hS hL_1 hL_2 hM) ?_
            rintro _ h_99 ⟨F_81, r_16, rfl, hk, hS, _, _, hM⟩
            replace hK := hK.trans hk
            replace hL_s_On := hL_s_On.kp hk
            replace hL_s_Off := hL_s_Off.kp hk
            replace hL_l := hL_l.kp hk
            replace hL_1 := hL_1.kp hk
            replace hL_2 := hL_2.kp hk
            refine HA.val (k := 17) (v := .bool (!r_16)) rfl rfl (by kernel_rfl) (by kernel_rfl) (want_by rfl rfl c_6) rfl (fun _ ⟨c214, c215⟩ => q_not rfl) ?_
            refine HA.val (k := 18) (v := .bool (!r_16)) rfl rfl (by kernel_rfl) (by kernel_rfl) (want_by rfl rfl c_6) rfl (fun _ ⟨c214, c215⟩ => q_move rfl) ?_
            rcases Bool.eq_false_or_eq_true (!r_16) with c_7 | c_7
            · replace hM := hM.1 c_7
              refine HA.past (k := 19) rfl rfl (by kernel_rfl) (by kernel_rfl) (past_by rfl rfl c_7) rfl ?_
              refine HA.past (k := 20) rfl rfl (by kernel_rfl) (by kernel_rfl) (past_by rfl rfl c_7) rfl ?_
              refine HA.one (k := 21) ⟨⟨(hS.box 0 rfl), (hS.box 1 rfl)⟩, (Go.Wk.at_nil _ _)⟩ (by kernel_rfl) ?_
              refine HS.past rfl (past_by rfl rfl c_7) rfl ?_
              refine HA.past (k := 22) rfl rfl (by kernel_rfl) (by kernel_rfl) (past_by rfl rfl c_7) rfl ?_
              refine HA.val (k := 23) (v := .bool true) rfl rfl (by kernel_rfl) (by kernel_rfl) (want_by rfl rfl c_6) rfl (fun _ ⟨c214, c215⟩ => q_pickK true rfl c_7 rfl) ?_
              refine HA.val (k := 24) (v := .bool true) rfl rfl (by kernel_rfl) (by kernel_rfl) (want_none) rfl (fun _ ⟨c214, c215⟩ => q_pickK true rfl c_6 rfl) ?_
              refine HA.val (k := 25) (v := .bool true) rfl rfl (by kernel_rfl) (by kernel_rfl) (want_none) rfl (fun _ ⟨c214, c215⟩ => q_move rfl) ?_
              refine HA.one (k := 26) ⟨⟨(hS.box 0 rfl), (hS.box 1 rfl)⟩, (Go.Wk.at_nil _ _)⟩ (by kernel_rfl) ?_
              refine HS.call rfl (want_some rfl rfl) rfl (ec en_15 rfl rfl) (law15_lives_walk (fr := (Ow.box b_1 24 #[.bool r_0_1, vr_1_1, v_1] :: Ow.box b_2 34 (e_api_Addr a).toArray :: fr))  hS hM) ?_
              rintro _ h_100 ⟨F_82, r_17, rfl, hk, hS, hM⟩
              replace hK := hK.trans hk
              replace hL_s_On := hL_s_On.kp hk
              replace hL_s_Off := hL_s_Off.kp hk
              replace hL_l := hL_l.kp hk
              replace hL_1 := hL_1.kp hk
              replace hL_2 := hL_2.kp hk
              refine HA.val (k := 27) (v := .bool r_17) rfl rfl (by kernel_rfl) (by kernel_rfl) (want_none) rfl (fun _ ⟨c214, c215⟩ => q_pick rfl rfl) ?_
              refine HA.val (k := 28) (v := .bool r_17) rfl rfl (by kernel_rfl) (by kernel_rfl) (want_none) rfl (fun _ ⟨c214, c215⟩ => q_assign rfl) ?_
              refine HA.nil ⟨⟨(hS.box 0 rfl), (hS.box 1 rfl)⟩, (Go.Wk.at_nil _ _)⟩ (by kernel_rfl) (thenQ_normal (?_))
              refine HW.ret (?_)
              refine ⟨.inr rfl, .bool r_17, res1 rfl (rt rfl), ?_⟩
              replace hS : St F_82 (fr) h_100 := hS.perm2 [] 2 rfl rfl
              exact ⟨F_82, r_17, rfl, hK, hS, hL_s_On, hL_s_Off, hL_l, hM⟩
            · replace hM := hM.2 c_7
              refine HA.val (k := 19) (v := .agg #[.bool r_0_1, vr_1_1, v_1]) rfl rfl (by kernel_rfl) (by kernel_rfl) (want_by rfl rfl c_7) rfl (fun _ ⟨c214, c215⟩ => q_loadAgg (cs := [.bool r_0_1, vr_1_1, v_1]) ta_24 rfl rfl (Blk.cells (k := 3) c214 rfl)) ?_
              refine HA.val (k := 20) (v := .agg (e_api_Addr a).toArray) rfl rfl (by kernel_rfl) (by kernel_rfl) (want_by rfl rfl c_7) rfl (fun _ ⟨c214, c215⟩ => q_loadAgg (cs := (e_api_Addr a)) ta_34 rfl rfl (Blk.cells (k := 17) c215 rfl)) ?_
              refine HA.one (k := 21) ⟨⟨(hS.box 0 rfl), (hS.box 1 rfl)⟩, (Go.Wk.at_nil _ _)⟩ (by kernel_rfl) ?_
              refine HS.call rfl (want_by rfl rfl c_7) rfl (ec en_11 rfl rfl) (filter_Lets_walk (fr := (Ow.box b_1 24 #[.bool r_0_1, vr_1_1, v_1] :: Ow.box b_2 34 (e_api_Addr a).toArray :: fr)) r_0_1 r_1_1 l_1 a vr_1_1 v_1 hS hL_1 hL_2 hM) ?_
              rintro _ h_101 ⟨F_83, r_18, rfl, hk, hS, _, _, hM⟩
              replace hK := hK.trans hk
              replace hL_s_On := hL_s_On.kp hk
              replace hL_s_Off := hL_s_Off.kp hk
              replace hL_l := hL_l.kp hk
              replace hL_1 := hL_1.kp hk
              replace hL_2 := hL_2.kp hk
              refine HA.val (k := 22) (v := .bool (!r_18)) rfl rfl (by kernel_rfl) (by kernel_rfl) (want_by rfl rfl c_7) rfl (fun _ ⟨c214, c215⟩ => q_not rfl) ?_
              refine HA.val (k := 23) (v := .bool (!r_18)) rfl rfl (by kernel_rfl) (by kernel_rfl) (want_by rfl rfl c_6) rfl (fun _ ⟨c214, c215⟩ => q_pickK false rfl c_7 rfl) ?_
              refine HA.val (k := 24) (v := .bool (!r_18)) rfl rfl (by kernel_rfl) (by kernel_rfl) (want_none) rfl (fun _ ⟨c214, c215⟩ => q_pickK true rfl c_6 rfl) ?_
              refine HA.val (k := 25) (v := .bool (!r_18)) rfl rfl (by kernel_rfl) (by kernel_rfl) (want_none) rfl (fun _ ⟨c214, c215⟩ => q_move rfl) ?_
              rcases Bool.eq_false_or_eq_true (!r_18) with c_8 | c_8
              · replace hM := hM.1 c_8
                refine HA.one (k := 26) ⟨⟨(hS.box 0 rfl), (hS.box 1 rfl)⟩, (Go.Wk.at_nil _ _)⟩ (by kernel_rfl) ?_
                refine HS.call rfl (want_by rfl rfl c_8) rfl (ec en_15 rfl rfl) (law15_lives_walk (fr := (Ow.box b_1 24 #[.bool r_0_1, vr_1_1, v_1] :: Ow.box b_2 34 (e_api_Addr a).toArray :: fr))  hS hM) ?_
                rintro _ h_102 ⟨F_84, r_19, rfl, hk, hS, hM⟩
                replace hK := hK.trans hk
                replace hL_s_On := hL_s_On.kp hk
                replace hL_s_Off := hL_s_Off.kp hk
                replace hL_l := hL_l.kp hk
                replace hL_1 := hL_1.kp hk
                replace hL_2 := hL_2.kp hk
                refine HA.val (k := 27) (v := .bool r_19) rfl rfl (by kernel_rfl) (by kernel_rfl) (want_none) rfl (fun _ ⟨c214, c215⟩ => q_pickK true rfl c_8 rfl) ?_
                refine HA.val (k := 28) (v := .bool r_19) rfl rfl (by kernel_rfl) (by kernel_rfl) (want_none) rfl (fun _ ⟨c214, c215⟩ => q_assign rfl) ?_
                refine HA.nil ⟨⟨(hS.box 0 rfl), (hS.box 1 rfl)⟩, (Go.Wk.at_nil _ _)⟩ (by kernel_rfl) (thenQ_normal (?_))
                refine HW.ret (?_)
                refine ⟨.inr rfl, .bool r_19, res1 rfl (rt rfl), ?_⟩
                replace hS : St F_84 (fr) h_102 := hS.perm2 [] 2 rfl rfl
                exact ⟨F_84, r_19, rfl, hK, hS, hL_s_On, hL_s_Off, hL_l, hM⟩
              · replace hM := hM.2 c_8
                refine HA.one (k := 26) ⟨⟨(hS.box 0 rfl), (hS.box 1 rfl)⟩, (Go.Wk.at_nil _ _)⟩ (by kernel_rfl) ?_
                refine HS.past rfl (past_by rfl rfl c_8) rfl ?_
                refine HA.val (k := 27) (v := .bool false) rfl rfl (by kernel_rfl) (by kernel_rfl) (want_none) rfl (fun _ ⟨c214, c215⟩ => q_pickK false rfl c_8 rfl) ?_
                refine HA.val (k := 28) (v := .bool false) rfl rfl (by kernel_rfl) (by kernel_rfl) (want_none) rfl (fun _ ⟨c214, c215⟩ => q_assign rfl) ?_
                refine HA.nil ⟨⟨(hS.box 0 rfl), (hS.box 1 rfl)⟩, (Go.Wk.at_nil _ _)⟩ (by kernel_rfl) (thenQ_normal (?_))
                refine HW.ret (?_)
                refine ⟨.inr rfl, .bool false, res1 rfl (rt rfl), ?_⟩
                replace hS : St F_83 (fr) h_101 := hS.perm2 [] 2 rfl rfl
                exact ⟨F_83, false, rfl, hK, hS, hL_s_On, hL_s_Off, hL_l, hM⟩
          · replace hM := hM.2 c_6
            refine HA.past (k := 15) rfl rfl (by kernel_rfl) (by kernel_rfl) (past_by rfl rfl c_6) rfl ?_
            refine HA.one (k := 16) ⟨⟨(hS.box 0 rfl), (hS.box 1 rfl)⟩, (Go.Wk.at_nil _ _)⟩ (by kernel_rfl) ?_
            refine HS.past rfl (past_by rfl rfl c_6) rfl ?_
            refine HA.past (k := 17) rfl rfl (by kernel_rfl) (by kernel_rfl) (past_by rfl rfl c_6) rfl ?_
            refine HA.past (k := 18) rfl rfl (by kernel_rfl) (by kernel_rfl) (past_by rfl rfl c_6) rfl ?_
            refine HA.past (k := 19) rfl rfl (by kernel_rfl) (by kernel_rfl) (past_undef rfl rfl) rfl ?_
            refine HA.past (k := 20) rfl rfl (by kernel_rfl) (by kernel_rfl) (past_undef rfl rfl) rfl ?_
            refine HA.one (k := 21) ⟨⟨(hS.box 0 rfl), (hS.box 1 rfl)⟩, (Go.Wk.at_nil _ _)⟩ (by kernel_rfl) ?_
            refine HS.past rfl (past_undef rfl rfl) rfl ?_
            refine HA.past (k := 22) rfl rfl (by kernel_rfl) (by kernel_rfl) (past_undef rfl rfl) rfl ?_
            refine HA.past (k := 23) rfl rfl (by kernel_rfl) (by kernel_rfl) (past_by rfl rfl c_6) rfl ?_
            refine HA.val (k := 24) (v := .bool false) rfl rfl (by kernel_rfl) (by kernel_rfl) (want_none) rfl (fun _ ⟨c214, c215⟩ => q_pickK false rfl c_6 rfl) ?_
            refine HA.val (k := 25) (v := .bool false) rfl rfl (by kernel_rfl) (by kernel_rfl) (want_none) rfl (fun _ ⟨c214, c215⟩ => q_move rfl) ?_
            refine HA.one (k := 26) ⟨⟨(hS.box 0 rfl), (hS.box 1 rfl)⟩, (Go.Wk.at_nil _ _)⟩ (by kernel_rfl) ?_
            refine HS.past rfl (past_some rfl rfl) rfl ?_
            refine HA.val (k := 27) (v := .bool false) rfl rfl (by kernel_rfl) (by kernel_rfl) (want_none) rfl (fun _ ⟨c214, c215⟩ => q_pick rfl rfl) ?_
            refine HA.val (k := 28) (v := .bool false) rfl rfl (by kernel_rfl) (by kernel_rfl) (want_none) rfl (fun _ ⟨c214, c215⟩ => q_assign rfl) ?_
            refine HA.nil ⟨⟨(hS.box 0 rfl), (hS.box 1 rfl)⟩, (Go.Wk.at_nil _ _)⟩ (by kernel_rfl) (thenQ_normal (?_))
            refine HW.ret (?_)
            refine ⟨.inr rfl, .bool false, res1 rfl (rt rfl), ?_⟩
            replace hS : St F_80 (fr) h_98 := hS.perm2 [] 2 rfl rfl
            exact ⟨F_80, false, rfl, hK, hS, hL_s_On, hL_s_Off, hL_l, hM⟩
        · replace hM := hM.2 c_5
          refine HA.past (k := 8) rfl rfl (by kernel_rfl) (by kernel_rfl) (past_by rfl rfl c_5) rfl ?_
          refine HA.past (k := 10) rfl rfl (by kernel_rfl) (by kernel_rfl) (past_by rfl rfl c_5) rfl ?_
          refine HA.one (k := 9) ⟨⟨(hS.box 0 rfl), (hS.box 1 rfl)⟩, (Go.Wk.at_nil _ _)⟩ (by kernel_rfl) ?_
          refine HS.past rfl (past_by rfl rfl c_5) rfl ?_
          refine HA.one (k := 11) ⟨⟨(hS.box 0 rfl), (hS.box 1 rfl)⟩, (Go.Wk.at_nil _ _)⟩ (by kernel_rfl) ?_
          refine HS.past rfl (past_by rfl rfl c_5) rfl ?_
          refine HA.past (k := 12) rfl rfl (by kernel_rfl) (by kernel_rfl) (past_by rfl rfl c_5) rfl ?_
          refine HA.val (k := 13) (v := .bool false) rfl rfl (by kernel_rfl) (by kernel_rfl) (want_none) rfl (fun _ ⟨c214, c215⟩ => q_pickK false rfl c_5 rfl) ?_
          refine HA.val (k := 14) (v := .bool false) rfl rfl (by kernel_rfl) (by kernel_rfl) (want_none) rfl (fun _ ⟨c214, c215⟩ => q_move rfl) ?_
          refine HA.past (k := 15) rfl rfl (by kernel_rfl) (by kernel_rfl) (past_some rfl rfl) rfl ?_
          refine HA.one (k := 16) ⟨⟨(hS.box 0 rfl), (hS.box 1 rfl)⟩, (Go.Wk.at_nil _ _)⟩ (by kernel_rfl) ?_
          refine HS.past rfl (past_some rfl rfl) rfl ?_
          refine HA.past (k := 17) rfl rfl (by kernel_rfl) (by kernel_rfl) (past_some rfl rfl) rfl ?_
          refine HA.past (k := 18) rfl rfl (by kernel_rfl) (by kernel_rfl) (past_some rfl rfl) rfl ?_
          refine HA.past (k := 19) rfl rfl (by kernel_rfl) (by kernel_rfl) (past_undef rfl rfl) rfl ?_
          refine HA.past (k := 20) rfl rfl (by kernel_rfl) (by kernel_rfl) (past_undef rfl rfl) rfl ?_
          refine HA.one (k := 21) ⟨⟨(hS.box 0 rfl), (hS.box 1 rfl)⟩, (Go.Wk.at_nil _ _)⟩ (by kernel_rfl) ?_
          refine HS.past rfl (past_undef rfl rfl) rfl ?_
          refine HA.past (k := 22) rfl rfl (by kernel_rfl) (by kernel_rfl) (past_undef rfl rfl) rfl ?_
          refine HA.past (k := 23) rfl rfl (by kernel_rfl) (by kernel_rfl) (past_some rfl rfl) rfl ?_
          refine HA.val (k := 24) (v := .bool false) rfl rfl (by kernel_rfl) (by kernel_rfl) (want_none) rfl (fun _ ⟨c214, c215⟩ => q_pick rfl rfl) ?_
          refine HA.val (k := 25) (v := .bool false) rfl rfl (by kernel_rfl) (by kernel_rfl) (want_none) rfl (fun _ ⟨c214, c215⟩ => q_move rfl) ?_
          refine HA.one (k := 26) ⟨⟨(hS.box 0 rfl), (hS.box 1 rfl)⟩, (Go.Wk.at_nil _ _)⟩ (by kernel_rfl) ?_
          refine HS.past rfl (past_some rfl rfl) rfl ?_
          refine HA.val (k := 27) (v := .bool false) rfl rfl (by kernel_rfl) (by kernel_rfl) (want_none) rfl (fun _ ⟨c214, c215⟩ => q_pick rfl rfl) ?_
          refine HA.val (k := 28) (v := .bool false) rfl rfl (by kernel_rfl) (by kernel_rfl) (want_none) rfl (fun _ ⟨c214, c215⟩ => q_assign rfl) ?_
          refine HA.nil ⟨⟨(hS.box 0 rfl), (hS.box 1 rfl)⟩, (Go.Wk.at_nil _ _)⟩ (by kernel_rfl) (thenQ_normal (?_))
          refine HW.ret (?_)
          refine ⟨.inr rfl, .bool false, res1 rfl (rt rfl), ?_⟩
          replace hS : St F_78 (fr) h_96 := hS.perm2 [] 2 rfl rfl
          exact ⟨F_78, false, rfl, hK, hS, hL_s_On, hL_s_Off, hL_l, hM⟩
end Go.Wk
