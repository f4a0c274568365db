/- Walks and mirrors of Merge laws. -/
import Derived.Test.YtokodpeigafenaaDoorMrgW3
set_option linter.unusedSimpArgs false
set_option linter.unusedVariables false
set_option linter.unusedSectionVars false
namespace Go.Wk
open Go.HL
open Go.Proofs hiding encI
variable [DM]

def law19_MergeOne_j5 (Q : Bool → Prop) (b_3 : Bool) (l_1 : List T_api_Addr) (l_2 : List T_api_Addr) (r_0_44 : Int) (r_1_44 : Bool) (r_2_1 : Ba 16) (r_18_1 : List T_api_Addr) (want_0_2 : Int) (want_1_1 : Bool) (want_2_1 : Ba 16) (want_18_1 : List T_api_Addr) : Prop :=
  ∀ vr_18_1 : Value, (∀ vwant_18_1 : Value, (ref08_SameRecords_W ([(r_0_44, (r_1_44, r_2_1), (vr_18_1, r_18_1))] : List T_api_Record) ([(want_0_2, (want_1_1, want_2_1), (vwant_18_1, want_18_1))] : List T_api_Record) (fun r_33 => (r_33 = true → law19_Few_W b_3 l_1 (fun r_0_48 r_1_48 => law08_Addrs_W l_2 6 (fun r_34 => merge_Answer_W r_0_48 r_1_48 r_34 (fun r_35 => ref19_Answer_W b_3 l_1 l_2 (fun r_36 => ref11_Same_W r_35 r_36 (fun r_37 => (r_37 = true → law19_lives_W  (fun r_38 => Q r_38)) ∧ (r_37 = false → Q false))))))) ∧ (r_33 = false → Q false))))
def law19_MergeOne_j4 (x_A : T_api_Addr) (Q : Bool → Prop) (b_3 : Bool) (l_1 : List T_api_Addr) (l_2 : List T_api_Addr) (r_0_44 : Int) (r_1_44 : Bool) (r_2_1 : Ba 16) (r_18_1 : List T_api_Addr) (want_0_1 : Int) : Prop :=
  ref19_None_W b_3 l_1 (fun r_32 => (r_32 = true → law19_MergeOne_j5 Q b_3 l_1 l_2 r_0_44 r_1_44 r_2_1 r_18_1 0 false (default : Ba 16) []) ∧ (r_32 = false → law19_MergeOne_j5 Q b_3 l_1 l_2 r_0_44 r_1_44 r_2_1 r_18_1 want_0_1 x_A.1 x_A.2 l_1))
def law19_MergeOne_j3 (x_A : T_api_Addr) (Q : Bool → Prop) (b_3 : Bool) (l_1 : List T_api_Addr) (l_2 : List T_api_Addr) (r_0_44 : Int) (r_1_44 : Bool) (r_2_1 : Ba 16) (r_18_1 : List T_api_Addr) (b_214 : Bool) : Prop :=
  (b_214 = true → Q false) ∧ (b_214 = false → (b_3 = true → law19_MergeOne_j4 x_A Q b_3 l_1 l_2 r_0_44 r_1_44 r_2_1 r_18_1 2) ∧ (b_3 = false → law19_MergeOne_j4 x_A Q b_3 l_1 l_2 r_0_44 r_1_44 r_2_1 r_18_1 1))
def law19_MergeOne_j2 (x_A : T_api_Addr) (Q : Bool → Prop) (b_3 : Bool) (l_1 : List T_api_Addr) (o_0_1 : Bool) (o_1_1 : List T_api_Addr) (l_2 : List T_api_Addr) (r_0_44 : Int) (r_1_44 : Bool) (r_2_1 : Ba 16) (r_18_1 : List T_api_Addr) (ok_1 : Bool) : Prop :=
  merge_Lets_W b_3 l_1 x_A (fun r_25 => ref19_Lets_W b_3 l_1 x_A (fun r_26 => ((!(r_25 == r_26)) = true → law19_MergeOne_j3 x_A Q b_3 l_1 l_2 r_0_44 r_1_44 r_2_1 r_18_1 true) ∧ ((!(r_25 == r_26)) = false → merge_None_W b_3 l_1 (fun r_27 => ref19_None_W b_3 l_1 (fun r_28 => ((!(r_27 == r_28)) = true → law19_MergeOne_j3 x_A Q b_3 l_1 l_2 r_0_44 r_1_44 r_2_1 r_18_1 true) ∧ ((!(r_27 == r_28)) = false → law19_Few_W b_3 l_1 (fun r_0_46 r_1_46 => law19_Few_W o_0_1 o_1_1 (fun r_0_47 r_1_47 => merge_Same_W r_0_46 r_1_46 r_0_47 r_1_47 (fun r_29 => ref19_Same_W b_3 l_1 o_0_1 o_1_1 (fun r_30 => ((!(r_29 == r_30)) = true → law19_MergeOne_j3 x_A Q b_3 l_1 l_2 r_0_44 r_1_44 r_2_1 r_18_1 true) ∧ ((!(r_29 == r_30)) = false → ref19_None_W b_3 l_1 (fun r_31 => law19_MergeOne_j3 x_A Q b_3 l_1 l_2 r_0_44 r_1_44 r_2_1 r_18_1 (ok_1 == r_31)))))))))))))
def law19_MergeOne_j1 (x_A : T_api_Addr) (Q : Bool → Prop) (b_3 : Bool) (l_1 : List T_api_Addr) (o_0_1 : Bool) (o_1_1 : List T_api_Addr) (l_2 : List T_api_Addr) : Prop :=
  law19_Few_W b_3 l_1 (fun r_0_45 r_1_45 => merge_Current_W x_A r_0_45 r_1_45 (fun r0_0_1 r0_1_1 r0_2_1 r0_18_1 r1_1 => law19_MergeOne_j2 x_A Q b_3 l_1 o_0_1 o_1_1 l_2 r0_0_1 r0_1_1 r0_2_1 r0_18_1 r1_1))
def law19_MergeOne_W (x_F_Exclude : Bool) (x_F_Sources : List T_api_Addr) (x_O_Exclude : Bool) (x_O_Sources : List T_api_Addr) (x_G : T_api_Addr) (x_A : T_api_Addr) (x_L : List T_api_Addr) (Q : Bool → Prop) : Prop :=
  law19_Few_W x_F_Exclude x_F_Sources (fun r_0_39 r_1_39 => law19_Few_W x_O_Exclude x_O_Sources (fun r_0_40 r_1_40 => law08_Addrs_W x_L 6 (fun r_24 => law19_MergeOne_j1 x_A Q r_0_39 r_1_39 r_0_40 r_1_40 r_24)))
set_option maxHeartbeats 40000000 in
set_option maxRecDepth 100000 in
theorem law19_MergeOne_walk {F : Fz} {fr : List Ow} {h0 : Heap} (x_F_Exclude : Bool) (x_F_Sources : List T_api_Addr) (x_O_Exclude : Bool) (x_O_Sources : List T_api_Addr) (x_G : T_api_Addr) (x_A : T_api_Addr) (x_L : List T_api_Addr) (vx_F_Sources : Value) (vx_O_Sources : Value) (vx_L : Value) (hS : St F (fr) h0) (hL_x_F_Sources : SliceF F h0 17 e_api_Addr vx_F_Sources x_F_Sources) (hL_x_O_Sources : SliceF F h0 17 e_api_Addr vx_O_Sources x_O_Sources) (hL_x_L : SliceF F h0 17 e_api_Addr vx_L x_L) (hD : DM.on = false) {Q : Bool → Prop} (hM : law19_MergeOne_W x_F_Exclude x_F_Sources x_O_Exclude x_O_Sources x_G x_A x_L Q) :
    HC Tryd.prog 6 #[.agg (c_acequialaw19_One (.bool x_F_Exclude) vx_F_Sources (.bool x_O_Exclude) vx_O_Sources x_G x_A vx_L).toArray] h0 fun u h' => ∃ (F' : Fz) (r_1 : Bool), u = .bool r_1 ∧ Kp F h0 F' h' ∧ St F' (fr) h' ∧ (SliceF F' h' 17 e_api_Addr vx_F_Sources x_F_Sources) ∧ (SliceF F' h' 17 e_api_Addr vx_O_Sources x_O_Sources) ∧ (SliceF F' h' 17 e_api_Addr vx_L x_L) ∧ Q r_1 := by
  unfold law19_MergeOne_W at hM
  have hK := Kp.refl F h0
  refine HC.of_HW (n := 88) Tryd.func6 rfl rfl (Nat.le_of_ble_eq_true rfl) ?_
  refine HW.seq ?_
  refine HW.region ?_
  refine HO.eff (want_none) rfl (st_box (c := (c_acequialaw19_One (.bool x_F_Exclude) vx_F_Sources (.bool x_O_Exclude) vx_O_Sources x_G x_A vx_L).toArray) (k' := 39) hS rfl rfl) ?_
  rintro _ h_1 ⟨b_1, rfl, hS, hk⟩
  replace hK := hK.trans hk
  replace hL_x_F_Sources := hL_x_F_Sources.kp hk
  replace hL_x_O_Sources := hL_x_O_Sources.kp hk
  replace hL_x_L := hL_x_L.kp hk
  refine HO.val (v := .bool false) (want_none) rfl (q_assign rfl) ?_
  refine HO.nil (thenQ_normal (?_))
  refine HW.seq_mid (fun f h => ∃ (F' : Fz) (b_3 : Bool) (l_1 : List T_api_Addr) (o_0_1 : Bool) (o_1_1 : List T_api_Addr) (l_2 : List T_api_Addr) (b_2 : Nat) (v_1 : Value) (b_4 : Nat) (vo_1_1 : Value) (b_5 : Nat) (vl_1 : Value), f 2 = .bool false ∧ f 3 = .pointer (some ⟨b_2, 0, none⟩) ∧ f 4 = .pointer (some ⟨b_4, 0, none⟩) ∧ f 5 = .pointer (some ⟨b_5, 0, none⟩) ∧ f 6 = vl_1 ∧ Kp F h0 F' h ∧ St F' (Ow.box b_2 24 #[.bool b_3, v_1] :: Ow.box b_4 24 #[.bool o_0_1, vo_1_1] :: Ow.box b_5 27 (e_api_Addr x_A).toArray :: Ow.own 27 17 e_api_Addr vl_1 l_2 :: fr) h ∧ (SliceF F' h 17 e_api_Addr vx_F_Sources x_F_Sources) ∧ (SliceF F' h 17 e_api_Addr vx_O_Sources x_O_Sources) ∧ (SliceF F' h 17 e_api_Addr vx_L x_L) ∧ (SliceF F' h 17 e_api_Addr v_1 l_1) ∧ (SliceF F' h 17 e_api_Addr vo_1_1 o_1_1) ∧ law19_MergeOne_j1 x_A Q b_3 l_1 o_0_1 o_1_1 l_2) ?_ ?_
  · refine HW.regionA 18 mixed (fun h => (Blk h b_1 (.cells (c_acequialaw19_One (.bool x_F_Exclude) vx_F_Sources (.bool x_O_Exclude) vx_O_Sources x_G x_A vx_L).toArray 29 (0, 0)))) [] (by kernel_rfl) ?_
    refine HA.val (k := 0) (v := .pointer (some ⟨b_1, 0, none⟩)) rfl rfl (by kernel_rfl) (by kernel_rfl) (want_none) rfl (fun _ c201 => q_fieldAddr fa_29_0 rfl rfl) ?_
    refine HA.val (k := 1) (v := .agg #[.bool x_F_Exclude, vx_F_Sources]) rfl rfl (by kernel_rfl) (by kernel_rfl) (want_none) rfl (fun _ c201 => q_loadAgg (cs := [.bool x_F_Exclude, vx_F_Sources]) ta_24 rfl rfl (Blk.cells (k := 2) c201 rfl)) ?_
    refine HA.val (k := 3) (v := .pointer (some ⟨b_1, 2, none⟩)) rfl rfl (by kernel_rfl) (by kernel_rfl) (want_none) rfl (fun _ c201 => q_fieldAddr fa_29_1 rfl rfl) ?_
    refine HA.val (k := 4) (v := .agg #[.bool x_O_Exclude, vx_O_Sources]) rfl rfl (by kernel_rfl) (by kernel_rfl) (want_none) rfl (fun _ c201 => q_loadAgg (cs := [.bool x_O_Exclude, vx_O_Sources]) ta_24 rfl rfl (Blk.cells (k := 2) c201 rfl)) ?_
    refine HA.val (k := 6) (v := .pointer (some ⟨b_1, 21, none⟩)) rfl rfl (by kernel_rfl) (by kernel_rfl) (want_none) rfl (fun _ c201 => q_fieldAddr fa_29_3 rfl rfl) ?_
    refine HA.val (k := 7) (v := .agg (e_api_Addr x_A).toArray) rfl rfl (by kernel_rfl) (by kernel_rfl) (want_none) rfl (fun _ c201 => q_loadAgg (cs := (e_api_Addr x_A)) ta_27 rfl rfl (Blk.cells (k := 17) c201 rfl)) ?_
    refine HA.val (k := 8) (v := .pointer (some ⟨b_1, 38, none⟩)) rfl rfl (by kernel_rfl) (by kernel_rfl) (want_none) rfl (fun _ c201 => q_fieldAddr fa_29_4 rfl rfl) ?_
    refine HA.val (k := 9) (v := vx_L) rfl rfl (by kernel_rfl) (by kernel_rfl) (want_none) rfl (fun _ c201 => q_load to_22 rfl (Blk.cell c201 rfl)) ?_
    refine HA.node (C1 := fun (i : Fz × (List T_api_Addr) × Bool × (List T_api_Addr) × Bool × (List T_api_Addr) × Nat × Nat × Nat × Value × Value × Value) => match i with | (F', l_42, b_132, l_43, b_133, l_44, b_129, b_130, b_131, v_41, v_42, v_43) => fun h => (SliceIs h 17 e_api_Addr vx_F_Sources x_F_Sources) ∧ (SliceIs h 17 e_api_Addr vx_O_Sources x_O_Sources) ∧ (SliceIs h 17 e_api_Addr vx_L x_L) ∧ (SliceIs h 17 e_api_Addr v_42 l_43) ∧ (SliceIs h 17 e_api_Addr v_43 l_44) ∧ (OwnIs h 0 27 17 e_api_Addr v_41 l_42) ∧ (Blk h b_1 (.cells (c_acequialaw19_One (.bool x_F_Exclude) vx_F_Sources (.bool x_O_Exclude) vx_O_Sources x_G x_A vx_L).toArray 29 (0, 0)))) (cs1 := fun (i : Fz × (List T_api_Addr) × Bool × (List T_api_Addr) × Bool × (List T_api_Addr) × Nat × Nat × Nat × Value × Value × Value) => match i with | (F', l_42, b_132, l_43, b_133, l_44, b_129, b_130, b_131, v_41, v_42, v_43) => [(14, fun h => (Blk h b_131 (.cells #[.bool false, .slice none 0 0] 24 (0, 0)))), (15, fun h => (Blk h b_130 (.cells #[.bool false, .slice none 0 0] 24 (0, 0)))), (16, fun h => (Blk h b_129 (.cells (e_api_Addr (false, (default : Ba 16))).toArray 27 (0, 0))))]) (fuel1 := 4) (listed1 := #[true, true, true, true, true, true, true, true, true, true, true, true, true, true, false, false, false, false]) (fun (i : Fz × (List T_api_Addr) × Bool × (List T_api_Addr) × Bool × (List T_api_Addr) × Nat × Nat × Nat × Value × Value × Value) f h => match i with | (F', l_42, b_132, l_43, b_133, l_44, b_129, b_130, b_131, v_41, v_42, v_43) => f 0 = .agg (c_acequialaw19_One (.bool x_F_Exclude) vx_F_Sources (.bool x_O_Exclude) vx_O_Sources x_G x_A vx_L).toArray ∧ f 1 = .pointer (some ⟨b_1, 0, none⟩) ∧ f 2 = .bool false ∧ f 3 = .pointer (some ⟨b_131, 0, none⟩) ∧ f 4 = .pointer (some ⟨b_130, 0, none⟩) ∧ f 5 = .pointer (some ⟨b_129, 0, none⟩) ∧ f 10 = .pointer (some ⟨b_1, 0, none⟩) ∧ f 11 = .agg #[.bool x_F_Exclude, vx_F_Sources] ∧ f 12 = .agg #[.bool b_132, v_42] ∧ f 13 = .pointer (some ⟨b_1, 2, none⟩) ∧ f 14 = .agg #[.bool x_O_Exclude, vx_O_Sources] ∧ f 15 = .agg #[.bool b_133, v_43] ∧ f 16 = .pointer (some ⟨b_1, 21, none⟩) ∧ f 17 = .agg (e_api_Addr x_A).toArray ∧ f 18 = .pointer (some ⟨b_1, 38, none⟩) ∧ f 19 = vx_L ∧ f 20 = v_41 ∧ Kp F h0 F' h ∧ St F' (Ow.box b_129 27 (e_api_Addr (false, (default : Ba 16))).toArray :: Ow.box b_130 24 #[.bool false, .slice none 0 0] :: Ow.box b_131 24 #[.bool false, .slice none 0 0] :: Ow.own 27 17 e_api_Addr v_41 l_42 :: Ow.box b_1 29 (c_acequialaw19_One (.bool x_F_Exclude) vx_F_Sources (.bool x_O_Exclude) vx_O_Sources x_G x_A vx_L).toArray :: fr) h ∧ (SliceF F' h 17 e_api_Addr vx_F_Sources x_F_Sources) ∧ (SliceF F' h 17 e_api_Addr vx_O_Sources x_O_Sources) ∧ (SliceF F' h 17 e_api_Addr vx_L x_L) ∧ (SliceF F' h 17 e_api_Addr v_42 l_43) ∧ (SliceF F' h 17 e_api_Addr v_43 l_44) ∧ law19_MergeOne_j1 x_A Q b_132 l_43 b_133 l_44 l_42) ?_ (fun N_1 => ?_)
    · rintro ⟨F_27, l_42, b_132, l_43, b_133, l_44, b_129, b_130, b_131, v_41, v_42, v_43⟩ f_3 h_82 ⟨e0, e1, e2, e3, e4, e5, e10, e11, e12, e13, e14, e15, e16, e17, e18, e19, e20, hK, hS, hL_x_F_Sources, hL_x_O_Sources, hL_x_L, hL_52, hL_53, hM⟩
      refine HA.fr [(0, .agg (c_acequialaw19_One (.bool x_F_Exclude) vx_F_Sources (.bool x_O_Exclude) vx_O_Sources x_G x_A vx_L).toArray), (1, .pointer (some ⟨b_1, 0, none⟩)), (2, .bool false), (3, .pointer (some ⟨b_131, 0, none⟩)), (4, .pointer (some ⟨b_130, 0, none⟩)), (5, .pointer (some ⟨b_129, 0, none⟩)), (10, .pointer (some ⟨b_1, 0, none⟩)), (11, .agg #[.bool x_F_Exclude, vx_F_Sources]), (12, .agg #[.bool b_132, v_42]), (13, .pointer (some ⟨b_1, 2, none⟩)), (14, .agg #[.bool x_O_Exclude, vx_O_Sources]), (15, .agg #[.bool b_133, v_43]), (16, .pointer (some ⟨b_1, 21, none⟩)), (17, .agg (e_api_Addr x_A).toArray), (18, .pointer (some ⟨b_1, 38, none⟩)), (19, vx_L), (20, v_41)] ⟨e0, e1, e2, e3, e4, e5, e10, e11, e12, e13, e14, e15, e16, e17, e18, e19, e20, trivial⟩ ?_
      refine HA.one (k := 14) ⟨⟨hL_x_F_Sources.is, hL_x_O_Sources.is, hL_x_L.is, hL_52.is, hL_53.is, (hS.own 3 rfl), (hS.box 4 rfl)⟩, (at_now (hS.box 2 rfl) (at_now (hS.box 1 rfl) (at_now (hS.box 0 rfl) (Go.Wk.at_nil _ _))))⟩ (by kernel_rfl) ?_
      refine HS.sto rfl (want_none) rfl (st_storeAgg (c' := #[.bool b_132, v_42]) hS (i := 2) rfl ta_24 rfl rfl rfl (List.forall_mem_cons.2 ⟨rfl, (List.forall_mem_cons.2 ⟨(shp hL_52.is).one, (fun _ h => by cases h)⟩)⟩) (Nat.le_of_ble_eq_true rfl) rfl) ?_
      rintro h_83 ⟨hS, hk⟩
      replace hS : St F_27 (Ow.box b_129 27 (e_api_Addr (false, (default : Ba 16))).toArray :: Ow.box b_130 24 #[.bool false, .slice none 0 0] :: Ow.box b_131 24 #[.bool b_132, v_42] :: Ow.own 27 17 e_api_Addr v_41 l_42 :: Ow.box b_1 29 (c_acequialaw19_One (.bool x_F_Exclude) vx_F_Sources (.bool x_O_Exclude) vx_O_Sources x_G x_A vx_L).toArray :: fr) h_83 := hS
      replace hK := hK.trans hk
      replace hL_x_F_Sources := hL_x_F_Sources.kp hk
      replace hL_x_O_Sources := hL_x_O_Sources.kp hk
      replace hL_x_L := hL_x_L.kp hk
      replace hL_52 := hL_52.kp hk
      replace hL_53 := hL_53.kp hk
      refine HA.one (k := 15) ⟨⟨hL_x_F_Sources.is, hL_x_O_Sources.is, hL_x_L.is, hL_52.is, hL_53.is, (hS.own 3 rfl), (hS.box 4 rfl)⟩, (at_done (by kernel_rfl) (at_now (hS.box 1 rfl) (at_now (hS.box 0 rfl) (Go.Wk.at_nil _ _))))⟩ (by kernel_rfl) ?_
      refine HS.sto rfl (want_none) rfl (st_storeAgg (c' := #[.bool b_133, v_43]) hS (i := 1) rfl ta_24 rfl rfl rfl (List.forall_mem_cons.2 ⟨rfl, (List.forall_mem_cons.2 ⟨(shp hL_53.is).one, (fun _ h => by cases h)⟩)⟩) (Nat.le_of_ble_eq_true rfl) rfl) ?_
      rintro h_84 ⟨hS, hk⟩
      replace hS : St F_27 (Ow.box b_129 27 (e_api_Addr (false, (default : Ba 16))).toArray :: Ow.box b_130 24 #[.bool b_133, v_43] :: Ow.box b_131 24 #[.bool b_132, v_42] :: Ow.own 27 17 e_api_Addr v_41 l_42 :: Ow.box b_1 29 (c_acequialaw19_One (.bool x_F_Exclude) vx_F_Sources (.bool x_O_Exclude) vx_O_Sources x_G x_A vx_L).toArray :: fr) h_84 := hS
      replace hK := hK.trans hk
      replace hL_x_F_Sources := hL_x_F_Sources.kp hk
      replace hL_x_O_Sources := hL_x_O_Sources.kp hk
      replace hL_x_L := hL_x_L.kp hk
      replace hL_52 := hL_52.kp hk
      replace hL_53 := hL_53.kp hk
      refine HA.one (k := 16) ⟨⟨hL_x_F_Sources.is, hL_x_O_Sources.is, hL_x_L.is, hL_52.is, hL_53.is, (hS.own 3 rfl), (hS.box 4 rfl)⟩, (at_done (by kernel_rfl) (at_done (by kernel_rfl) (at_now (hS.box 0 rfl) (Go.Wk.at_nil _ _))))⟩ (by kernel_rfl) ?_
      refine HS.sto rfl (want_none) rfl (st_storeAgg (c' := (e_api_Addr x_A).toArray) hS (i := 0) rfl ta_27 rfl rfl rfl (one_e_api_Addr _) (Nat.le_of_ble_eq_true rfl) rfl) ?_
      rintro h_85 ⟨hS, hk⟩
      replace hS : St F_27 (Ow.box b_129 27 (e_api_Addr x_A).toArray :: Ow.box b_130 24 #[.bool b_133, v_43] :: Ow.box b_131 24 #[.bool b_132, v_42] :: Ow.own 27 17 e_api_Addr v_41 l_42 :: Ow.box b_1 29 (c_acequialaw19_One (.bool x_F_Exclude) vx_F_Sources (.bool x_O_Exclude) vx_O_Sources x_G x_A vx_L).toArray :: fr) h_85 := hS
      replace hK := hK.trans hk
      replace hL_x_F_Sources := hL_x_F_Sources.kp hk
      replace hL_x_O_Sources := hL_x_O_Sources.kp hk
      replace hL_x_L := hL_x_L.kp hk
      replace hL_52 := hL_52.kp hk
      replace hL_53 := hL_53.kp hk
      refine HA.val (k := 17) (v := v_41) rfl rfl (by kernel_rfl) (by kernel_rfl) (want_none) rfl (fun _ ⟨hL_x_F_Sources, hL_x_O_Sources, hL_x_L, hL_52, hL_53, c266, c201⟩ => q_assign rfl) ?_
      refine HA.nil ⟨⟨hL_x_F_Sources.is, hL_x_O_Sources.is, hL_x_L.is, hL_52.is, hL_53.is, (hS.own 3 rfl), (hS.box 4 rfl)⟩, (at_done (by kernel_rfl) (at_done (by kernel_rfl) (at_done (by kernel_rfl) (Go.Wk.at_nil _ _))))⟩ (by kernel_rfl) (thenQ_normal (?_))
      replace hS : St F_27 (Ow.box b_131 24 #[.bool b_132, v_42] :: Ow.box b_130 24 #[.bool b_133, v_43] :: Ow.box b_129 27 (e_api_Addr x_A).toArray :: Ow.own 27 17 e_api_Addr v_41 l_42 :: fr) h_85 := hS.perm2 [2, 1, 0, 3] 5 rfl rfl
      exact ⟨F_27, b_132, l_43, b_133, l_44, l_42, b_131, v_42, b_130, v_43, b_129, v_41, rfl, rfl, rfl, rfl, rfl, hK, hS, hL_x_F_Sources, hL_x_O_Sources, hL_x_L, hL_52, hL_53, hM⟩
    refine HA.node (C1 := fun (i : Fz × (List T_api_Addr) × Bool × (List T_api_Addr) × Bool × (List T_api_Addr) × Nat × Nat × Value × Value × Value) => match i with | (F', l_31, b_111, l_32, b_112, l_33, b_109, b_110, v_30, v_31, v_32) => fun h => (SliceIs h 17 e_api_Addr vx_F_Sources x_F_Sources) ∧ (SliceIs h 17 e_api_Addr vx_O_Sources x_O_Sources) ∧ (SliceIs h 17 e_api_Addr vx_L x_L) ∧ (SliceIs h 17 e_api_Addr v_31 l_32) ∧ (SliceIs h 17 e_api_Addr v_32 l_33) ∧ (OwnIs h 0 27 17 e_api_Addr v_30 l_31) ∧ (Blk h b_1 (.cells (c_acequialaw19_One (.bool x_F_Exclude) vx_F_Sources (.bool x_O_Exclude) vx_O_Sources x_G x_A vx_L).toArray 29 (0, 0)))) (cs1 := fun (i : Fz × (List T_api_Addr) × Bool × (List T_api_Addr) × Bool × (List T_api_Addr) × Nat × Nat × Value × Value × Value) => match i with | (F', l_31, b_111, l_32, b_112, l_33, b_109, b_110, v_30, v_31, v_32) => [(14, fun h => (Blk h b_110 (.cells #[.bool false, .slice none 0 0] 24 (0, 0)))), (15, fun h => (Blk h b_109 (.cells #[.bool false, .slice none 0 0] 24 (0, 0))))]) (fuel1 := 5) (listed1 := #[true, true, true, true, true, true, true, true, true, true, true, true, true, false, false, false, false, false]) (fun (i : Fz × (List T_api_Addr) × Bool × (List T_api_Addr) × Bool × (List T_api_Addr) × Nat × Nat × Value × Value × Value) f h => match i with | (F', l_31, b_111, l_32, b_112, l_33, b_109, b_110, v_30, v_31, v_32) => f 0 = .agg (c_acequialaw19_One (.bool x_F_Exclude) vx_F_Sources (.bool x_O_Exclude) vx_O_Sources x_G x_A vx_L).toArray ∧ f 1 = .pointer (some ⟨b_1, 0, none⟩) ∧ f 2 = .bool false ∧ f 3 = .pointer (some ⟨b_110, 0, none⟩) ∧ f 4 = .pointer (some ⟨b_109, 0, none⟩) ∧ f 10 = .pointer (some ⟨b_1, 0, none⟩) ∧ f 11 = .agg #[.bool x_F_Exclude, vx_F_Sources] ∧ f 12 = .agg #[.bool b_111, v_31] ∧ f 13 = .pointer (some ⟨b_1, 2, none⟩) ∧ f 14 = .agg #[.bool x_O_Exclude, vx_O_Sources] ∧ f 15 = .agg #[.bool b_112, v_32] ∧ f 16 = .pointer (some ⟨b_1, 21, none⟩) ∧ f 17 = .agg (e_api_Addr x_A).toArray ∧ f 18 = .pointer (some ⟨b_1, 38, none⟩) ∧ f 19 = vx_L ∧ f 20 = v_30 ∧ Kp F h0 F' h ∧ St F' (Ow.box b_109 24 #[.bool false, .slice none 0 0] :: Ow.box b_110 24 #[.bool false, .slice none 0 0] :: Ow.own 27 17 e_api_Addr v_30 l_31 :: Ow.box b_1 29 (c_acequialaw19_One (.bool x_F_Exclude) vx_F_Sources (.bool x_O_Exclude) vx_O_Sources x_G x_A vx_L).toArray :: fr) h ∧ (SliceF F' h 17 e_api_Addr vx_F_Sources x_F_Sources) ∧ (SliceF F' h 17 e_api_Addr vx_O_Sources x_O_Sources) ∧ (SliceF F' h 17 e_api_Addr vx_L x_L) ∧ (SliceF F' h 17 e_api_Addr v_31 l_32) ∧ (SliceF F' h 17 e_api_Addr v_32 l_33) ∧ law19_MergeOne_j1 x_A Q b_111 l_32 b_112 l_33 l_31) ?_ (fun N_2 => ?_)
    · rintro ⟨F_30, l_31, b_111, l_32, b_112, l_33, b_109, b_110, v_30, v_31, v_32⟩ f_6 h_89 ⟨e0, e1, e2, e3, e4, e10, e11, e12, e13, e14, e15, e16, e17, e18, e19, e20, hK, hS, hL_x_F_Sources, hL_x_O_Sources, hL_x_L, hL_44, hL_45, hM⟩
      refine HA.fr [(0, .agg (c_acequialaw19_One (.bool x_F_Exclude) vx_F_Sources (.bool x_O_Exclude) vx_O_Sources x_G x_A vx_L).toArray), (1, .pointer (some ⟨b_1, 0, none⟩)), (2, .bool false), (3, .pointer (some ⟨b_110, 0, none⟩)), (4, .pointer (some ⟨b_109, 0, none⟩)), (10, .pointer (some ⟨b_1, 0, none⟩)), (11, .agg #[.bool x_F_Exclude, vx_F_Sources]), (12, .agg #[.bool b_111, v_31]), (13, .pointer (some ⟨b_1, 2, none⟩)), (14, .agg #[.bool x_O_Exclude, vx_O_Sources]), (15, .agg #[.bool b_112, v_32]), (16, .pointer (some ⟨b_1, 21, none⟩)), (17, .agg (e_api_Addr x_A).toArray), (18, .pointer (some ⟨b_1, 38, none⟩)), (19, vx_L), (20, v_30)] ⟨e0, e1, e2, e3, e4, e10, e11, e12, e13, e14, e15, e16, e17, e18, e19, e20, trivial⟩ ?_
      refine HA.one (k := 13) ⟨⟨hL_x_F_Sources.is, hL_x_O_Sources.is, hL_x_L.is, hL_44.is, hL_45.is, (hS.own 2 rfl), (hS.box 3 rfl)⟩, (at_now (hS.box 1 rfl) (at_now (hS.box 0 rfl) (Go.Wk.at_nil _ _)))⟩ (by kernel_rfl) ?_
      refine HS.eff rfl (want_none) rfl (st_alloc (c := (e_api_Addr (false, (default : Ba 16))).toArray) hS tz_27 rfl) ?_
      rintro _ h_90 ⟨b_135, rfl, hS, hk⟩
      replace hK := hK.trans hk
      replace hL_x_F_Sources := hL_x_F_Sources.kp hk
      replace hL_x_O_Sources := hL_x_O_Sources.kp hk
      replace hL_x_L := hL_x_L.kp hk
      replace hL_44 := hL_44.kp hk
      replace hL_45 := hL_45.kp hk
      exact Go.Wk.HA.via (N_1 (F_30, l_31, b_111, l_32, b_112, l_33, b_135, b_109, b_110, v_30, v_31, v_32) _ _ ⟨rfl, rfl, rfl, rfl, rfl, rfl, rfl, rfl, rfl, rfl, rfl, rfl, rfl, rfl, rfl, rfl, rfl, hK, hS, hL_x_F_Sources, hL_x_O_Sources, hL_x_L, hL_44, hL_45, hM⟩) (fun L_ h_ hL_ ⟨hL_x_F_Sources, hL_x_O_Sources, hL_x_L, hL_44, hL_45, c266, c201⟩ hs_ => ⟨⟨hL_x_F_Sources, hL_x_O_Sources, hL_x_L, hL_44, hL_45, c266, c201⟩, (at_keep 0 rfl hs_ (fun c272 => c272) (at_keep 1 rfl hs_ (fun c278 => c278) (Go.Wk.at_nil _ _)))⟩)
    refine HA.node (C1 := fun (i : Fz × (List T_api_Addr) × Bool × (List T_api_Addr) × Bool × (List T_api_Addr) × Nat × Nat × Value × Value × Value) => match i with | (F', l_34, b_116, l_35, b_117, l_36, b_114, b_115, v_33, v_34, v_35) => fun h => (SliceIs h 17 e_api_Addr vx_F_Sources x_F_Sources) ∧ (SliceIs h 17 e_api_Addr vx_O_Sources x_O_Sources) ∧ (SliceIs h 17 e_api_Addr vx_L x_L) ∧ (SliceIs h 17 e_api_Addr v_34 l_35) ∧ (SliceIs h 17 e_api_Addr v_35 l_36) ∧ (OwnIs h 0 27 17 e_api_Addr v_33 l_34) ∧ (Blk h b_1 (.cells (c_acequialaw19_One (.bool x_F_Exclude) vx_F_Sources (.bool x_O_Exclude) vx_O_Sources x_G x_A vx_L).toArray 29 (0, 0)))) (cs1 := fun (i : Fz × (List T_api_Addr) × Bool × (List T_api_Addr) × Bool × (List T_api_Addr) × Nat × Nat × Value × Value × Value) => match i with | (F', l_34, b_116, l_35, b_117, l_36, b_114, b_115, v_33, v_34, v_35) => [(14, fun h => (Blk h b_115 (.cells #[.bool false, .slice none 0 0] 24 (0, 0)))), (16, fun h => (Blk h b_114 (.cells (e_api_Addr (false, (default : Ba 16))).toArray 27 (0, 0))))]) (fuel1 := 5) (listed1 := #[true, true, true, true, true, true, true, true, true, true, true, true, false, true, false, false, false, false]) (fun (i : Fz × (List T_api_Addr) × Bool × (List T_api_Addr) × Bool × (List T_api_Addr) × Nat × Nat × Value × Value × Value) f h => match i with | (F', l_34, b_116, l_35, b_117, l_36, b_114, b_115, v_33, v_34, v_35) => f 0 = .agg (c_acequialaw19_One (.bool x_F_Exclude) vx_F_Sources (.bool x_O_Exclude) vx_O_Sources x_G x_A vx_L).toArray ∧ f 1 = .pointer (some ⟨b_1, 0, none⟩) ∧ f 2 = .bool false ∧ f 3 = .pointer (some ⟨b_115, 0, none⟩) ∧ f 5 = .pointer (some ⟨b_114, 0, none⟩) ∧ f 10 = .pointer (some ⟨b_1, 0, none⟩) ∧ f 11 = .agg #[.bool x_F_Exclude, vx_F_Sources] ∧ f 12 = .agg #[.bool b_116, v_34] ∧ f 13 = .pointer (some ⟨b_1, 2, none⟩) ∧ f 14 = .agg #[.bool x_O_Exclude, vx_O_Sources] ∧ f 15 = .agg #[.bool b_117, v_35] ∧ f 16 = .pointer (some ⟨b_1, 21, none⟩) ∧ f 17 = .agg (e_api_Addr x_A).toArray ∧ f 18 = .pointer (some ⟨b_1, 38, none⟩) ∧ f 19 = vx_L ∧ f 20 = v_33 ∧ Kp F h0 F' h ∧ St F' (Ow.box b_114 27 (e_api_Addr (false, (default : Ba 16))).toArray :: Ow.box b_115 24 #[.bool false, .slice none 0 0] :: Ow.own 27 17 e_api_Addr v_33 l_34 :: Ow.box b_1 29 (c_acequialaw19_One (.bool x_F_Exclude) vx_F_Sources (.bool x_O_Exclude) vx_O_Sources x_G x_A vx_L).toArray :: fr) h ∧ (SliceF F' h 17 e_api_Addr vx_F_Sources x_F_Sources) ∧ (SliceF F' h 17 e_api_Addr vx_O_Sources x_O_Sources) ∧ (SliceF F' h 17 e_api_Addr vx_L x_L) ∧ (SliceF F' h 17 e_api_Addr v_34 l_35) ∧ (SliceF F' h 17 e_api_Addr v_35 l_36) ∧ law19_MergeOne_j1 x_A Q b_116 l_35 b_117 l_36 l_34) ?_ (fun N_3 => ?_)
    · rintro ⟨F_33, l_34, b_116, l_35, b_117, l_36, b_114, b_115, v_33, v_34, v_35⟩ f_9 h_94 ⟨e0, e1, e2, e3, e5, e10, e11, e12, e13, e14, e15, e16, e17, e18, e19, e20, hK, hS, hL_x_F_Sources, hL_x_O_Sources, hL_x_L, hL_46, hL_47, hM⟩
      refine HA.fr [(0, .agg (c_acequialaw19_One (.bool x_F_Exclude) vx_F_Sources (.bool x_O_Exclude) vx_O_Sources x_G x_A vx_L).toArray), (1, .pointer (some ⟨b_1, 0, none⟩)), (2, .bool false), (3, .pointer (some ⟨b_115, 0, none⟩)), (5, .pointer (some ⟨b_114, 0, none⟩)), (10, .pointer (some ⟨b_1, 0, none⟩)), (11, .agg #[.bool x_F_Exclude, vx_F_Sources]), (12, .agg #[.bool b_116, v_34]), (13, .pointer (some ⟨b_1, 2, none⟩)), (14, .agg #[.bool x_O_Exclude, vx_O_Sources]), (15, .agg #[.bool b_117, v_35]), (16, .pointer (some ⟨b_1, 21, none⟩)), (17, .agg (e_api_Addr x_A).toArray), (18, .pointer (some ⟨b_1, 38, none⟩)), (19, vx_L), (20, v_33)] ⟨e0, e1, e2, e3, e5, e10, e11, e12, e13, e14, e15, e16, e17, e18, e19, e20, trivial⟩ ?_
      refine HA.one (k := 12) ⟨⟨hL_x_F_Sources.is, hL_x_O_Sources.is, hL_x_L.is, hL_46.is, hL_47.is, (hS.own 2 rfl), (hS.box 3 rfl)⟩, (at_now (hS.box 1 rfl) (at_now (hS.box 0 rfl) (Go.Wk.at_nil _ _)))⟩ (by kernel_rfl) ?_
      refine HS.eff rfl (want_none) rfl (st_alloc (c := #[.bool false, .slice none 0 0]) hS tz_24 rfl) ?_
      rintro _ h_95 ⟨b_137, rfl, hS, hk⟩
      replace hK := hK.trans hk
      replace hL_x_F_Sources := hL_x_F_Sources.kp hk
      replace hL_x_O_Sources := hL_x_O_Sources.kp hk
      replace hL_x_L := hL_x_L.kp hk
      replace hL_46 := hL_46.kp hk
      replace hL_47 := hL_47.kp hk
      replace hS : St F_33 (Ow.box b_114 27 (e_api_Addr (false, (default : Ba 16))).toArray :: Ow.box b_137 24 #[.bool false, .slice none 0 0] :: Ow.box b_115 24 #[.bool false, .slice none 0 0] :: Ow.own 27 17 e_api_Addr v_33 l_34 :: Ow.box b_1 29 (c_acequialaw19_One (.bool x_F_Exclude) vx_F_Sources (.bool x_O_Exclude) vx_O_Sources x_G x_A vx_L).toArray :: fr) h_95 := hS.perm2 [1, 0, 2, 3, 4] 5 rfl rfl
      exact Go.Wk.HA.via (N_1 (F_33, l_34, b_116, l_35, b_117, l_36, b_114, b_137, b_115, v_33, v_34, v_35) _ _ ⟨rfl, rfl, rfl, rfl, rfl, rfl, rfl, rfl, rfl, rfl, rfl, rfl, rfl, rfl, rfl, rfl, rfl, hK, hS, hL_x_F_Sources, hL_x_O_Sources, hL_x_L, hL_46, hL_47, hM⟩) (fun L_ h_ hL_ ⟨hL_x_F_Sources, hL_x_O_Sources, hL_x_L, hL_46, hL_47, c266, c201⟩ hs_ => ⟨⟨hL_x_F_Sources, hL_x_O_Sources, hL_x_L, hL_46, hL_47, c266, c201⟩, (at_keep 0 rfl hs_ (fun c272 => c272) (at_keep 2 rfl hs_ (fun c284 => c284) (Go.Wk.at_nil _ _)))⟩)
    refine HA.node (C1 := fun (i : Fz × (List T_api_Addr) × Bool × (List T_api_Addr) × Bool × (List T_api_Addr) × Nat × Nat × Value × Value × Value) => match i with | (F', l_37, b_121, l_38, b_122, l_39, b_119, b_120, v_36, v_37, v_38) => fun h => (SliceIs h 17 e_api_Addr vx_F_Sources x_F_Sources) ∧ (SliceIs h 17 e_api_Addr vx_O_Sources x_O_Sources) ∧ (SliceIs h 17 e_api_Addr vx_L x_L) ∧ (SliceIs h 17 e_api_Addr v_37 l_38) ∧ (SliceIs h 17 e_api_Addr v_38 l_39) ∧ (OwnIs h 0 27 17 e_api_Addr v_36 l_37) ∧ (Blk h b_1 (.cells (c_acequialaw19_One (.bool x_F_Exclude) vx_F_Sources (.bool x_O_Exclude) vx_O_Sources x_G x_A vx_L).toArray 29 (0, 0)))) (cs1 := fun (i : Fz × (List T_api_Addr) × Bool × (List T_api_Addr) × Bool × (List T_api_Addr) × Nat × Nat × Value × Value × Value) => match i with | (F', l_37, b_121, l_38, b_122, l_39, b_119, b_120, v_36, v_37, v_38) => [(15, fun h => (Blk h b_120 (.cells #[.bool false, .slice none 0 0] 24 (0, 0)))), (16, fun h => (Blk h b_119 (.cells (e_api_Addr (false, (default : Ba 16))).toArray 27 (0, 0))))]) (fuel1 := 5) (listed1 := #[true, true, true, true, true, true, true, true, true, true, true, false, true, true, false, false, false, false]) (fun (i : Fz × (List T_api_Addr) × Bool × (List T_api_Addr) × Bool × (List T_api_Addr) × Nat × Nat × Value × Value × Value) f h => match i with | (F', l_37, b_121, l_38, b_122, l_39, b_119, b_120, v_36, v_37, v_38) => f 0 = .agg (c_acequialaw19_One (.bool x_F_Exclude) vx_F_Sources (.bool x_O_Exclude) vx_O_Sources x_G x_A vx_L).toArray ∧ f 1 = .pointer (some ⟨b_1, 0, none⟩) ∧ f 2 = .bool false ∧ f 4 = .pointer (some ⟨b_120, 0, none⟩) ∧ f 5 = .pointer (some ⟨b_119, 0, none⟩) ∧ f 10 = .pointer (some ⟨b_1, 0, none⟩) ∧ f 11 = .agg #[.bool x_F_Exclude, vx_F_Sources] ∧ f 12 = .agg #[.bool b_121, v_37] ∧ f 13 = .pointer (some ⟨b_1, 2, none⟩) ∧ f 14 = .agg #[.bool x_O_Exclude, vx_O_Sources] ∧ f 15 = .agg #[.bool b_122, v_38] ∧ f 16 = .pointer (some ⟨b_1, 21, none⟩) ∧ f 17 = .agg (e_api_Addr x_A).toArray ∧ f 18 = .pointer (some ⟨b_1, 38, none⟩) ∧ f 19 = vx_L ∧ f 20 = v_36 ∧ Kp F h0 F' h ∧ St F' (Ow.box b_119 27 (e_api_Addr (false, (default : Ba 16))).toArray :: Ow.box b_120 24 #[.bool false, .slice none 0 0] :: Ow.own 27 17 e_api_Addr v_36 l_37 :: Ow.box b_1 29 (c_acequialaw19_One (.bool x_F_Exclude) vx_F_Sources (.bool x_O_Exclude) vx_O_Sources x_G x_A vx_L).toArray :: fr) h ∧ (SliceF F' h 17 e_api_Addr vx_F_Sources x_F_Sources) ∧ (SliceF F' h 17 e_api_Addr vx_O_Sources x_O_Sources) ∧ (SliceF F' h 17 e_api_Addr vx_L x_L) ∧ (SliceF F' h 17 e_api_Addr v_37 l_38) ∧ (SliceF F' h 17 e_api_Addr v_38 l_39) ∧ law19_MergeOne_j1 x_A Q b_121 l_38 b_122 l_39 l_37) ?_ (fun N_4 => ?_)
    · rintro ⟨F_36, l_37, b_121, l_38, b_122, l_39, b_119, b_120, v_36, v_37, v_38⟩ f_12 h_99 ⟨e0, e1, e2, e4, e5, e10, e11, e12, e13, e14, e15, e16, e17, e18, e19, e20, hK, hS, hL_x_F_Sources, hL_x_O_Sources, hL_x_L, hL_48, hL_49, hM⟩
      refine HA.fr [(0, .agg (c_acequialaw19_One (.bool x_F_Exclude) vx_F_Sources (.bool x_O_Exclude) vx_O_Sources x_G x_A vx_L).toArray), (1, .pointer (some ⟨b_1, 0, none⟩)), (2, .bool false), (4, .pointer (some ⟨b_120, 0, none⟩)), (5, .pointer (some ⟨b_119, 0, none⟩)), (10, .pointer (some ⟨b_1, 0, none⟩)), (11, .agg #[.bool x_F_Exclude, vx_F_Sources]), (12, .agg #[.bool b_121, v_37]), (13, .pointer (some ⟨b_1, 2, none⟩)), (14, .agg #[.bool x_O_Exclude, vx_O_Sources]), (15, .agg #[.bool b_122, v_38]), (16, .pointer (some ⟨b_1, 21, none⟩)), (17, .agg (e_api_Addr x_A).toArray), (18, .pointer (some ⟨b_1, 38, none⟩)), (19, vx_L), (20, v_36)] ⟨e0, e1, e2, e4, e5, e10, e11, e12, e13, e14, e15, e16, e17, e18, e19, e20, trivial⟩ ?_
      refine HA.one (k := 11) ⟨⟨hL_x_F_Sources.is, hL_x_O_Sources.is, hL_x_L.is, hL_48.is, hL_49.is, (hS.own 2 rfl), (hS.box 3 rfl)⟩, (at_now (hS.box 1 rfl) (at_now (hS.box 0 rfl) (Go.Wk.at_nil _ _)))⟩ (by kernel_rfl) ?_
      refine HS.eff rfl (want_none) rfl (st_alloc (c := #[.bool false, .slice none 0 0]) hS tz_24 rfl) ?_
      rintro _ h_100 ⟨b_139, rfl, hS, hk⟩
      replace hK := hK.trans hk
      replace hL_x_F_Sources := hL_x_F_Sources.kp hk
      replace hL_x_O_Sources := hL_x_O_Sources.kp hk
      replace hL_x_L := hL_x_L.kp hk
      replace hL_48 := hL_48.kp hk
      replace hL_49 := hL_49.kp hk
      replace hS : St F_36 (Ow.box b_119 27 (e_api_Addr (false, (default : Ba 16))).toArray :: Ow.box b_120 24 #[.bool false, .slice none 0 0] :: Ow.box b_139 24 #[.bool false, .slice none 0 0] :: Ow.own 27 17 e_api_Addr v_36 l_37 :: Ow.box b_1 29 (c_acequialaw19_One (.bool x_F_Exclude) vx_F_Sources (.bool x_O_Exclude) vx_O_Sources x_G x_A vx_L).toArray :: fr) h_100 := hS.perm2 [1, 2, 0, 3, 4] 5 rfl rfl
      exact Go.Wk.HA.via (N_1 (F_36, l_37, b_121, l_38, b_122, l_39, b_119, b_120, b_139, v_36, v_37, v_38) _ _ ⟨rfl, rfl, rfl, rfl, rfl, rfl, rfl, rfl, rfl, rfl, rfl, rfl, rfl, rfl, rfl, rfl, rfl, hK, hS, hL_x_F_Sources, hL_x_O_Sources, hL_x_L, hL_48, hL_49, hM⟩) (fun L_ h_ hL_ ⟨hL_x_F_Sources, hL_x_O_Sources, hL_x_L, hL_48, hL_49, c266, c201⟩ hs_ => ⟨⟨hL_x_F_Sources, hL_x_O_Sources, hL_x_L, hL_48, hL_49, c266, c201⟩, (at_keep 1 rfl hs_ (fun c278 => c278) (at_keep 2 rfl hs_ (fun c284 => c284) (Go.Wk.at_nil _ _)))⟩)
    refine HA.node (C1 := fun (i : Fz × Bool × (List T_api_Addr) × Bool × (List T_api_Addr) × Nat × Nat × Nat × Value × Value) => match i with | (F', b_127, l_40, b_128, l_41, b_124, b_125, b_126, v_39, v_40) => fun h => (SliceIs h 17 e_api_Addr vx_F_Sources x_F_Sources) ∧ (SliceIs h 17 e_api_Addr vx_O_Sources x_O_Sources) ∧ (SliceIs h 17 e_api_Addr vx_L x_L) ∧ (SliceIs h 17 e_api_Addr v_39 l_40) ∧ (SliceIs h 17 e_api_Addr v_40 l_41) ∧ (Blk h b_1 (.cells (c_acequialaw19_One (.bool x_F_Exclude) vx_F_Sources (.bool x_O_Exclude) vx_O_Sources x_G x_A vx_L).toArray 29 (0, 0)))) (cs1 := fun (i : Fz × Bool × (List T_api_Addr) × Bool × (List T_api_Addr) × Nat × Nat × Nat × Value × Value) => match i with | (F', b_127, l_40, b_128, l_41, b_124, b_125, b_126, v_39, v_40) => [(14, fun h => (Blk h b_126 (.cells #[.bool false, .slice none 0 0] 24 (0, 0)))), (15, fun h => (Blk h b_125 (.cells #[.bool false, .slice none 0 0] 24 (0, 0)))), (16, fun h => (Blk h b_124 (.cells (e_api_Addr (false, (default : Ba 16))).toArray 27 (0, 0))))]) (fuel1 := 5) (listed1 := #[true, true, true, true, true, true, true, true, true, true, false, true, true, true, false, false, false, false]) (fun (i : Fz × Bool × (List T_api_Addr) × Bool × (List T_api_Addr) × Nat × Nat × Nat × Value × Value) f h => match i with | (F', b_127, l_40, b_128, l_41, b_124, b_125, b_126, v_39, v_40) => f 0 = .agg (c_acequialaw19_One (.bool x_F_Exclude) vx_F_Sources (.bool x_O_Exclude) vx_O_Sources x_G x_A vx_L).toArray ∧ f 1 = .pointer (some ⟨b_1, 0, none⟩) ∧ f 2 = .bool false ∧ f 3 = .pointer (some ⟨b_126, 0, none⟩) ∧ f 4 = .pointer (some ⟨b_125, 0, none⟩) ∧ f 5 = .pointer (some ⟨b_124, 0, none⟩) ∧ f 10 = .pointer (some ⟨b_1, 0, none⟩) ∧ f 11 = .agg #[.bool x_F_Exclude, vx_F_Sources] ∧ f 12 = .agg #[.bool b_127, v_39] ∧ f 13 = .pointer (some ⟨b_1, 2, none⟩) ∧ f 14 = .agg #[.bool x_O_Exclude, vx_O_Sources] ∧ f 15 = .agg #[.bool b_128, v_40] ∧ f 16 = .pointer (some ⟨b_1, 21, none⟩) ∧ f 17 = .agg (e_api_Addr x_A).toArray ∧ f 18 = .pointer (some ⟨b_1, 38, none⟩) ∧ f 19 = vx_L ∧ Kp F h0 F' h ∧ St F' (Ow.box b_124 27 (e_api_Addr (false, (default : Ba 16))).toArray :: Ow.box b_125 24 #[.bool false, .slice none 0 0] :: Ow.box b_126 24 #[.bool false, .slice none 0 0] :: Ow.box b_1 29 (c_acequialaw19_One (.bool x_F_Exclude) vx_F_Sources (.bool x_O_Exclude) vx_O_Sources x_G x_A vx_L).toArray :: fr) h ∧ (SliceF F' h 17 e_api_Addr vx_F_Sources x_F_Sources) ∧ (SliceF F' h 17 e_api_Addr vx_O_Sources x_O_Sources) ∧ (SliceF F' h 17 e_api_Addr vx_L x_L) ∧ (SliceF F' h 17 e_api_Addr v_39 l_40) ∧ (SliceF F' h 17 e_api_Addr v_40 l_41) ∧ law08_Addrs_W x_L 6 (fun r_10 => law19_MergeOne_j1 x_A Q b_127 l_40 b_128 l_41 r_10)) ?_ (fun N_5 => ?_)
    · rintro ⟨F_40, b_127, l_40, b_128, l_41, b_124, b_125, b_126, v_39, v_40⟩ f_15 h_104 ⟨e0, e1, e2, e3, e4, e5, e10, e11, e12, e13, e14, e15, e16, e17, e18, e19, hK, hS, hL_x_F_Sources, hL_x_O_Sources, hL_x_L, hL_50, hL_51, hM⟩
      refine HA.fr [(0, .agg (c_acequialaw19_One (.bool x_F_Exclude) vx_F_Sources (.bool x_O_Exclude) vx_O_Sources x_G x_A vx_L).toArray), (1, .pointer (some ⟨b_1, 0, none⟩)), (2, .bool false), (3, .pointer (some ⟨b_126, 0, none⟩)), (4, .pointer (some ⟨b_125, 0, none⟩)), (5, .pointer (some ⟨b_124, 0, none⟩)), (10, .pointer (some ⟨b_1, 0, none⟩)), (11, .agg #[.bool x_F_Exclude, vx_F_Sources]), (12, .agg #[.bool b_127, v_39]), (13, .pointer (some ⟨b_1, 2, none⟩)), (14, .agg #[.bool x_O_Exclude, vx_O_Sources]), (15, .agg #[.bool b_128, v_40]), (16, .pointer (some ⟨b_1, 21, none⟩)), (17, .agg (e_api_Addr x_A).toArray), (18, .pointer (some ⟨b_1, 38, none⟩)), (19, vx_L)] ⟨e0, e1, e2, e3, e4, e5, e10, e11, e12, e13, e14, e15, e16, e17, e18, e19, trivial⟩ ?_
      refine HA.one (k := 10) ⟨⟨hL_x_F_Sources.is, hL_x_O_Sources.is, hL_x_L.is, hL_50.is, hL_51.is, (hS.box 3 rfl)⟩, (at_now (hS.box 2 rfl) (at_now (hS.box 1 rfl) (at_now (hS.box 0 rfl) (Go.Wk.at_nil _ _))))⟩ (by kernel_rfl) ?_
      refine HS.call rfl (want_none) rfl (ec en_25 rfl rfl) (law08_Addrs_walk (fr := (Ow.box b_124 27 (e_api_Addr (false, (default : Ba 16))).toArray :: Ow.box b_125 24 #[.bool false, .slice none 0 0] :: Ow.box b_126 24 #[.bool false, .slice none 0 0] :: Ow.box b_1 29 (c_acequialaw19_One (.bool x_F_Exclude) vx_F_Sources (.bool x_O_Exclude) vx_O_Sources x_G x_A vx_L).toArray :: fr)) x_L 6 vx_L hS hL_x_L hM) ?_
      rintro vr_10 h_105 ⟨F_41, r_11, _, rfl, hk, hS, _, hM⟩
      replace hK := hK.trans hk
      replace hL_x_F_Sources := hL_x_F_Sources.kp hk
      replace hL_x_O_Sources := hL_x_O_Sources.kp hk
      replace hL_x_L := hL_x_L.kp hk
      replace hL_50 := hL_50.kp hk
      replace hL_51 := hL_51.kp hk
      replace hS : St F_41 (Ow.box b_124 27 (e_api_Addr (false, (default : Ba 16))).toArray :: Ow.box b_125 24 #[.bool false, .slice none 0 0] :: Ow.box b_126 24 #[.bool false, .slice none 0 0] :: Ow.own 27 17 e_api_Addr vr_10 r_11 :: Ow.box b_1 29 (c_acequialaw19_One (.bool x_F_Exclude) vx_F_Sources (.bool x_O_Exclude) vx_O_Sources x_G x_A vx_L).toArray :: fr) h_105 := hS.perm2 [1, 2, 3, 0, 4] 5 rfl rfl
      exact Go.Wk.HA.via (N_1 (F_41, r_11, b_127, l_40, b_128, l_41, b_124, b_125, b_126, vr_10, v_39, v_40) _ _ ⟨rfl, rfl, rfl, rfl, rfl, rfl, rfl, rfl, rfl, rfl, rfl, rfl, rfl, rfl, rfl, rfl, rfl, hK, hS, hL_x_F_Sources, hL_x_O_Sources, hL_x_L, hL_50, hL_51, hM⟩) (fun L_ h_ hL_ ⟨hL_x_F_Sources, hL_x_O_Sources, hL_x_L, hL_50, hL_51, c266, c201⟩ hs_ => ⟨⟨hL_x_F_Sources, hL_x_O_Sources, hL_x_L, hL_50, hL_51, c201⟩, (at_keep 0 rfl hs_ (fun c272 => c272) (at_keep 1 rfl hs_ (fun c278 => c278) (at_keep 2 rfl hs_ (fun c284 => c284) (Go.Wk.at_nil _ _))))⟩)
    refine HA.node (C1 := fun (i : Fz × (List T_api_Addr) × Bool × (List T_api_Addr) × Bool × (List T_api_Addr) × Nat × Value × Value × Value) => match i with | (F', l_15, b_76, l_16, b_77, l_17, b_75, v_14, v_15, v_16) => fun h => (SliceIs h 17 e_api_Addr vx_F_Sources x_F_Sources) ∧ (SliceIs h 17 e_api_Addr vx_O_Sources x_O_Sources) ∧ (SliceIs h 17 e_api_Addr vx_L x_L) ∧ (SliceIs h 17 e_api_Addr v_15 l_16) ∧ (SliceIs h 17 e_api_Addr v_16 l_17) ∧ (OwnIs h 0 27 17 e_api_Addr v_14 l_15) ∧ (Blk h b_1 (.cells (c_acequialaw19_One (.bool x_F_Exclude) vx_F_Sources (.bool x_O_Exclude) vx_O_Sources x_G x_A vx_L).toArray 29 (0, 0)))) (cs1 := fun (i : Fz × (List T_api_Addr) × Bool × (List T_api_Addr) × Bool × (List T_api_Addr) × Nat × Value × Value × Value) => match i with | (F', l_15, b_76, l_16, b_77, l_17, b_75, v_14, v_15, v_16) => [(14, fun h => (Blk h b_75 (.cells #[.bool false, .slice none 0 0] 24 (0, 0))))]) (fuel1 := 6) (listed1 := #[true, true, true, true, true, true, true, true, true, true, true, true, false, false, false, false, false, false]) (fun (i : Fz × (List T_api_Addr) × Bool × (List T_api_Addr) × Bool × (List T_api_Addr) × Nat × Value × Value × Value) f h => match i with | (F', l_15, b_76, l_16, b_77, l_17, b_75, v_14, v_15, v_16) => f 0 = .agg (c_acequialaw19_One (.bool x_F_Exclude) vx_F_Sources (.bool x_O_Exclude) vx_O_Sources x_G x_A vx_L).toArray ∧ f 1 = .pointer (some ⟨b_1, 0, none⟩) ∧ f 2 = .bool false ∧ f 3 = .pointer (some ⟨b_75, 0, none⟩) ∧ f 10 = .pointer (some ⟨b_1, 0, none⟩) ∧ f 11 = .agg #[.bool x_F_Exclude, vx_F_Sources] ∧ f 12 = .agg #[.bool b_76, v_15] ∧ f 13 = .pointer (some ⟨b_1, 2, none⟩) ∧ f 14 = .agg #[.bool x_O_Exclude, vx_O_Sources] ∧ f 15 = .agg #[.bool b_77, v_16] ∧ f 16 = .pointer (some ⟨b_1, 21, none⟩) ∧ f 17 = .agg (e_api_Addr x_A).toArray ∧ f 18 = .pointer (some ⟨b_1, 38, none⟩) ∧ f 19 = vx_L ∧ f 20 = v_14 ∧ Kp F h0 F' h ∧ St F' (Ow.box b_75 24 #[.bool false, .slice none 0 0] :: Ow.own 27 17 e_api_Addr v_14 l_15 :: Ow.box b_1 29 (c_acequialaw19_One (.bool x_F_Exclude) vx_F_Sources (.bool x_O_Exclude) vx_O_Sources x_G x_A vx_L).toArray :: fr) h ∧ (SliceF F' h 17 e_api_Addr vx_F_Sources x_F_Sources) ∧ (SliceF F' h 17 e_api_Addr vx_O_Sources x_O_Sources) ∧ (SliceF F' h 17 e_api_Addr vx_L x_L) ∧ (SliceF F' h 17 e_api_Addr v_15 l_16) ∧ (SliceF F' h 17 e_api_Addr v_16 l_17) ∧ law19_MergeOne_j1 x_A Q b_76 l_16 b_77 l_17 l_15) ?_ (fun N_6 => ?_)
    · rintro ⟨F_44, l_15, b_76, l_16, b_77, l_17, b_75, v_14, v_15, v_16⟩ f_18 h_110 ⟨e0, e1, e2, e3, e10, e11, e12, e13, e14, e15, e16, e17, e18, e19, e20, hK, hS, hL_x_F_Sources, hL_x_O_Sources, hL_x_L, hL_30, hL_31, hM⟩
      refine HA.fr [(0, .agg (c_acequialaw19_One (.bool x_F_Exclude) vx_F_Sources (.bool x_O_Exclude) vx_O_Sources x_G x_A vx_L).toArray), (1, .pointer (some ⟨b_1, 0, none⟩)), (2, .bool false), (3, .pointer (some ⟨b_75, 0, none⟩)), (10, .pointer (some ⟨b_1, 0, none⟩)), (11, .agg #[.bool x_F_Exclude, vx_F_Sources]), (12, .agg #[.bool b_76, v_15]), (13, .pointer (some ⟨b_1, 2, none⟩)), (14, .agg #[.bool x_O_Exclude, vx_O_Sources]), (15, .agg #[.bool b_77, v_16]), (16, .pointer (some ⟨b_1, 21, none⟩)), (17, .agg (e_api_Addr x_A).toArray), (18, .pointer (some ⟨b_1, 38, none⟩)), (19, vx_L), (20, v_14)] ⟨e0, e1, e2, e3, e10, e11, e12, e13, e14, e15, e16, e17, e18, e19, e20, trivial⟩ ?_
      refine HA.two (k := 12) (k' := 13) ⟨⟨hL_x_F_Sources.is, hL_x_O_Sources.is, hL_x_L.is, hL_30.is, hL_31.is, (hS.own 1 rfl), (hS.box 2 rfl)⟩, (at_now (hS.box 0 rfl) (Go.Wk.at_nil _ _))⟩ (by kernel_rfl) ?_ ?_
      · refine HS.eff rfl (want_none) rfl (st_alloc (c := #[.bool false, .slice none 0 0]) hS tz_24 rfl) ?_
        rintro _ h_111 ⟨b_142, rfl, hS, hk⟩
        replace hK := hK.trans hk
        replace hL_x_F_Sources := hL_x_F_Sources.kp hk
        replace hL_x_O_Sources := hL_x_O_Sources.kp hk
        replace hL_x_L := hL_x_L.kp hk
        replace hL_30 := hL_30.kp hk
        replace hL_31 := hL_31.kp hk
        exact Go.Wk.HA.via (N_2 (F_44, l_15, b_76, l_16, b_77, l_17, b_142, b_75, v_14, v_15, v_16) _ _ ⟨rfl, rfl, rfl, rfl, rfl, rfl, rfl, rfl, rfl, rfl, rfl, rfl, rfl, rfl, rfl, rfl, hK, hS, hL_x_F_Sources, hL_x_O_Sources, hL_x_L, hL_30, hL_31, hM⟩) (fun L_ h_ hL_ ⟨hL_x_F_Sources, hL_x_O_Sources, hL_x_L, hL_30, hL_31, c266, c201⟩ hs_ => ⟨⟨hL_x_F_Sources, hL_x_O_Sources, hL_x_L, hL_30, hL_31, c266, c201⟩, (at_keep 0 rfl hs_ (fun c272 => c272) (Go.Wk.at_nil _ _))⟩)
      · refine HS.eff rfl (want_none) rfl (st_alloc (c := (e_api_Addr (false, (default : Ba 16))).toArray) hS tz_27 rfl) ?_
        rintro _ h_112 ⟨b_143, rfl, hS, hk⟩
        replace hK := hK.trans hk
        replace hL_x_F_Sources := hL_x_F_Sources.kp hk
        replace hL_x_O_Sources := hL_x_O_Sources.kp hk
        replace hL_x_L := hL_x_L.kp hk
        replace hL_30 := hL_30.kp hk
        replace hL_31 := hL_31.kp hk
        exact Go.Wk.HA.via (N_3 (F_44, l_15, b_76, l_16, b_77, l_17, b_143, b_75, v_14, v_15, v_16) _ _ ⟨rfl, rfl, rfl, rfl, rfl, rfl, rfl, rfl, rfl, rfl, rfl, rfl, rfl, rfl, rfl, rfl, hK, hS, hL_x_F_Sources, hL_x_O_Sources, hL_x_L, hL_30, hL_31, hM⟩) (fun L_ h_ hL_ ⟨hL_x_F_Sources, hL_x_O_Sources, hL_x_L, hL_30, hL_31, c266, c201⟩ hs_ => ⟨⟨hL_x_F_Sources, hL_x_O_Sources, hL_x_L, hL_30, hL_31, c266, c201⟩, (at_keep 0 rfl hs_ (fun c272 => c272) (Go.Wk.at_nil _ _))⟩)
    refine HA.node (C1 := fun (i : Fz × (List T_api_Addr) × Bool × (List T_api_Addr) × Bool × (List T_api_Addr) × Nat × Value × Value × Value) => match i with | (F', l_18, b_81, l_19, b_82, l_20, b_80, v_17, v_18, v_19) => fun h => (SliceIs h 17 e_api_Addr vx_F_Sources x_F_Sources) ∧ (SliceIs h 17 e_api_Addr vx_O_Sources x_O_Sources) ∧ (SliceIs h 17 e_api_Addr vx_L x_L) ∧ (SliceIs h 17 e_api_Addr v_18 l_19) ∧ (SliceIs h 17 e_api_Addr v_19 l_20) ∧ (OwnIs h 0 27 17 e_api_Addr v_17 l_18) ∧ (Blk h b_1 (.cells (c_acequialaw19_One (.bool x_F_Exclude) vx_F_Sources (.bool x_O_Exclude) vx_O_Sources x_G x_A vx_L).toArray 29 (0, 0)))) (cs1 := fun (i : Fz × (List T_api_Addr) × Bool × (List T_api_Addr) × Bool × (List T_api_Addr) × Nat × Value × Value × Value) => match i with | (F', l_18, b_81, l_19, b_82, l_20, b_80, v_17, v_18, v_19) => [(15, fun h => (Blk h b_80 (.cells #[.bool false, .slice none 0 0] 24 (0, 0))))]) (fuel1 := 6) (listed1 := #[true, true, true, true, true, true, true, true, true, true, true, false, true, false, false, false, false, false]) (fun (i : Fz × (List T_api_Addr) × Bool × (List T_api_Addr) × Bool × (List T_api_Addr) × Nat × Value × Value × Value) f h => match i with | (F', l_18, b_81, l_19, b_82, l_20, b_80, v_17, v_18, v_19) => f 0 = .agg (c_acequialaw19_One (.bool x_F_Exclude) vx_F_Sources (.bool x_O_Exclude) vx_O_Sources x_G x_A vx_L).toArray ∧ f 1 = .pointer (some ⟨b_1, 0, none⟩) ∧ f 2 = .bool false ∧ f 4 = .pointer (some ⟨b_80, 0, none⟩) ∧ f 10 = .pointer (some ⟨b_1, 0, none⟩) ∧ f 11 = .agg #[.bool x_F_Exclude, vx_F_Sources] ∧ f 12 = .agg #[.bool b_81, v_18] ∧ f 13 = .pointer (some ⟨b_1, 2, none⟩) ∧ f 14 = .agg #[.bool x_O_Exclude, vx_O_Sources] ∧ f 15 = .agg #[.bool b_82, v_19] ∧ f 16 = .pointer (some ⟨b_1, 21, none⟩) ∧ f 17 = .agg (e_api_Addr x_A).toArray ∧ f 18 = .pointer (some ⟨b_1, 38, none⟩) ∧ f 19 = vx_L ∧ f 20 = v_17 ∧ Kp F h0 F' h ∧ St F' (Ow.box b_80 24 #[.bool false, .slice none 0 0] :: Ow.own 27 17 e_api_Addr v_17 l_18 :: Ow.box b_1 29 (c_acequialaw19_One (.bool x_F_Exclude) vx_F_Sources (.bool x_O_Exclude) vx_O_Sources x_G x_A vx_L).toArray :: fr) h ∧ (SliceF F' h 17 e_api_Addr vx_F_Sources x_F_Sources) ∧ (SliceF F' h 17 e_api_Addr vx_O_Sources x_O_Sources) ∧ (SliceF F' h 17 e_api_Addr vx_L x_L) ∧ (SliceF F' h 17 e_api_Addr v_18 l_19) ∧ (SliceF F' h 17 e_api_Addr v_19 l_20) ∧ law19_MergeOne_j1 x_A Q b_81 l_19 b_82 l_20 l_18) ?_ (fun N_7 => ?_)
    · rintro ⟨F_47, l_18, b_81, l_19, b_82, l_20, b_80, v_17, v_18, v_19⟩ f_21 h_117 ⟨e0, e1, e2, e4, e10, e11, e12, e13, e14, e15, e16, e17, e18, e19, e20, hK, hS, hL_x_F_Sources, hL_x_O_Sources, hL_x_L, hL_32, hL_33, hM⟩
      refine HA.fr [(0, .agg (c_acequialaw19_One (.bool x_F_Exclude) vx_F_Sources (.bool x_O_Exclude) vx_O_Sources x_G x_A vx_L).toArray), (1, .pointer (some ⟨b_1, 0, none⟩)), (2, .bool false), (4, .pointer (some ⟨b_80, 0, none⟩)), (10, .pointer (some ⟨b_1, 0, none⟩)), (11, .agg #[.bool x_F_Exclude, vx_F_Sources]), (12, .agg #[.bool b_81, v_18]), (13, .pointer (some ⟨b_1, 2, none⟩)), (14, .agg #[.bool x_O_Exclude, vx_O_Sources]), (15, .agg #[.bool b_82, v_19]), (16, .pointer (some ⟨b_1, 21, none⟩)), (17, .agg (e_api_Addr x_A).toArray), (18, .pointer (some ⟨b_1, 38, none⟩)), (19, vx_L), (20, v_17)] ⟨e0, e1, e2, e4, e10, e11, e12, e13, e14, e15, e16, e17, e18, e19, e20, trivial⟩ ?_
      refine HA.two (k := 11) (k' := 13) ⟨⟨hL_x_F_Sources.is, hL_x_O_Sources.is, hL_x_L.is, hL_32.is, hL_33.is, (hS.own 1 rfl), (hS.box 2 rfl)⟩, (at_now (hS.box 0 rfl) (Go.Wk.at_nil _ _))⟩ (by kernel_rfl) ?_ ?_
      · refine HS.eff rfl (want_none) rfl (st_alloc (c := #[.bool false, .slice none 0 0]) hS tz_24 rfl) ?_
        rintro _ h_118 ⟨b_146, rfl, hS, hk⟩
        replace hK := hK.trans hk
        replace hL_x_F_Sources := hL_x_F_Sources.kp hk
        replace hL_x_O_Sources := hL_x_O_Sources.kp hk
        replace hL_x_L := hL_x_L.kp hk
        replace hL_32 := hL_32.kp hk
        replace hL_33 := hL_33.kp hk
        replace hS : St F_47 (Ow.box b_80 24 #[.bool false, .slice none 0 0] :: Ow.box b_146 24 #[.bool false, .slice none 0 0] :: Ow.own 27 17 e_api_Addr v_17 l_18 :: Ow.box b_1 29 (c_acequialaw19_One (.bool x_F_Exclude) vx_F_Sources (.bool x_O_Exclude) vx_O_Sources x_G x_A vx_L).toArray :: fr) h_118 := hS.perm2 [1, 0, 2, 3] 4 rfl rfl
        exact Go.Wk.HA.via (N_2 (F_47, l_18, b_81, l_19, b_82, l_20, b_80, b_146, v_17, v_18, v_19) _ _ ⟨rfl, rfl, rfl, rfl, rfl, rfl, rfl, rfl, rfl, rfl, rfl, rfl, rfl, rfl, rfl, rfl, hK, hS, hL_x_F_Sources, hL_x_O_Sources, hL_x_L, hL_32, hL_33, hM⟩) (fun L_ h_ hL_ ⟨hL_x_F_Sources, hL_x_O_Sources, hL_x_L, hL_32, hL_33, c266, c201⟩ hs_ => ⟨⟨hL_x_F_Sources, hL_x_O_Sources, hL_x_L, hL_32, hL_33, c266, c201⟩, (at_keep 1 rfl hs_ (fun c278 => c278) (Go.Wk.at_nil _ _))⟩)
      · refine HS.eff rfl (want_none) rfl (st_alloc (c := (e_api_Addr (false, (default : Ba 16))).toArray) hS tz_27 rfl) ?_
        rintro _ h_119 ⟨b_147, rfl, hS, hk⟩
        replace hK := hK.trans hk
        replace hL_x_F_Sources := hL_x_F_Sources.kp hk
        replace hL_x_O_Sources := hL_x_O_Sources.kp hk
        replace hL_x_L := hL_x_L.kp hk
        replace hL_32 := hL_32.kp hk
        replace hL_33 := hL_33.kp hk
        exact Go.Wk.HA.via (N_4 (F_47, l_18, b_81, l_19, b_82, l_20, b_147, b_80, v_17, v_18, v_19) _ _ ⟨rfl, rfl, rfl, rfl, rfl, rfl, rfl, rfl, rfl, rfl, rfl, rfl, rfl, rfl, rfl, rfl, hK, hS, hL_x_F_Sources, hL_x_O_Sources, hL_x_L, hL_32, hL_33, hM⟩) (fun L_ h_ hL_ ⟨hL_x_F_Sources, hL_x_O_Sources, hL_x_L, hL_32, hL_33, c266, c201⟩ hs_ => ⟨⟨hL_x_F_Sources, hL_x_O_Sources, hL_x_L, hL_32, hL_33, c266, c201⟩, (at_keep 0 rfl hs_ (fun c278 => c278) (Go.Wk.at_nil _ _))⟩)
    refine HA.node (C1 := fun (i : Fz × (List T_api_Addr) × Bool × (List T_api_Addr) × Bool × (List T_api_Addr) × Nat × Value × Value × Value) => match i with | (F', l_21, b_86, l_22, b_87, l_23, b_85, v_20, v_21, v_22) => fun h => (SliceIs h 17 e_api_Addr vx_F_Sources x_F_Sources) ∧ (SliceIs h 17 e_api_Addr vx_O_Sources x_O_Sources) ∧ (SliceIs h 17 e_api_Addr vx_L x_L) ∧ (SliceIs h 17 e_api_Addr v_21 l_22) ∧ (SliceIs h 17 e_api_Addr v_22 l_23) ∧ (OwnIs h 0 27 17 e_api_Addr v_20 l_21) ∧ (Blk h b_1 (.cells (c_acequialaw19_One (.bool x_F_Exclude) vx_F_Sources (.bool x_O_Exclude) vx_O_Sources x_G x_A vx_L).toArray 29 (0, 0)))) (cs1 := fun (i : Fz × (List T_api_Addr) × Bool × (List T_api_Addr) × Bool × (List T_api_Addr) × Nat × Value × Value × Value) => match i with | (F', l_21, b_86, l_22, b_87, l_23, b_85, v_20, v_21, v_22) => [(16, fun h => (Blk h b_85 (.cells (e_api_Addr (false, (default : Ba 16))).toArray 27 (0, 0))))]) (fuel1 := 6) (listed1 := #[true, true, true, true, true, true, true, true, true, true, true, false, false, true, false, false, false, false]) (fun (i : Fz × (List T_api_Addr) × Bool × (List T_api_Addr) × Bool × (List T_api_Addr) × Nat × Value × Value × Value) f h => match i with | (F', l_21, b_86, l_22, b_87, l_23, b_85, v_20, v_21, v_22) => f 0 = .agg (c_acequialaw19_One (.bool x_F_Exclude) vx_F_Sources (.bool x_O_Exclude) vx_O_Sources x_G x_A vx_L).toArray ∧ f 1 = .pointer (some ⟨b_1, 0, none⟩) ∧ f 2 = .bool false ∧ f 5 = .pointer (some ⟨b_85, 0, none⟩) ∧ f 10 = .pointer (some ⟨b_1, 0, none⟩) ∧ f 11 = .agg #[.bool x_F_Exclude, vx_F_Sources] ∧ f 12 = .agg #[.bool b_86, v_21] ∧ f 13 = .pointer (some ⟨b_1, 2, none⟩) ∧ f 14 = .agg #[.bool x_O_Exclude, vx_O_Sources] ∧ f 15 = .agg #[.bool b_87, v_22] ∧ f 16 = .pointer (some ⟨b_1, 21, none⟩) ∧ f 17 = .agg (e_api_Addr x_A).toArray ∧ f 18 = .pointer (some ⟨b_1, 38, none⟩) ∧ f 19 = vx_L ∧ f 20 = v_20 ∧ Kp F h0 F' h ∧ St F' (Ow.box b_85 27 (e_api_Addr (false, (default : Ba 16))).toArray :: Ow.own 27 17 e_api_Addr v_20 l_21 :: Ow.box b_1 29 (c_acequialaw19_One (.bool x_F_Exclude) vx_F_Sources (.bool x_O_Exclude) vx_O_Sources x_G x_A vx_L).toArray :: fr) h ∧ (SliceF F' h 17 e_api_Addr vx_F_Sources x_F_Sources) ∧ (SliceF F' h 17 e_api_Addr vx_O_Sources x_O_Sources) ∧ (SliceF F' h 17 e_api_Addr vx_L x_L) ∧ (SliceF F' h 17 e_api_Addr v_21 l_22) ∧ (SliceF F' h 17 e_api_Addr v_22 l_23) ∧ law19_MergeOne_j1 x_A Q b_86 l_22 b_87 l_23 l_21) ?_ (fun N_8 => ?_)
    · rintro ⟨F_50, l_21, b_86, l_22, b_87, l_23, b_85, v_20, v_21, v_22⟩ f_24 h_124 ⟨e0, e1, e2, e5, e10, e11, e12, e13, e14, e15, e16, e17, e18, e19, e20, hK, hS, hL_x_F_Sources, hL_x_O_Sources, hL_x_L, hL_34, hL_35, hM⟩
      refine HA.fr [(0, .agg (c_acequialaw19_One (.bool x_F_Exclude) vx_F_Sources (.bool x_O_Exclude) vx_O_Sources x_G x_A vx_L).toArray), (1, .pointer (some ⟨b_1, 0, none⟩)), (2, .bool false), (5, .pointer (some ⟨b_85, 0, none⟩)), (10, .pointer (some ⟨b_1, 0, none⟩)), (11, .agg #[.bool x_F_Exclude, vx_F_Sources]), (12, .agg #[.bool b_86, v_21]), (13, .pointer (some ⟨b_1, 2, none⟩)), (14, .agg #[.bool x_O_Exclude, vx_O_Sources]), (15, .agg #[.bool b_87, v_22]), (16, .pointer (some ⟨b_1, 21, none⟩)), (17, .agg (e_api_Addr x_A).toArray), (18, .pointer (some ⟨b_1, 38, none⟩)), (19, vx_L), (20, v_20)] ⟨e0, e1, e2, e5, e10, e11, e12, e13, e14, e15, e16, e17, e18, e19, e20, trivial⟩ ?_
      refine HA.two (k := 11) (k' := 12) ⟨⟨hL_x_F_Sources.is, hL_x_O_Sources.is, hL_x_L.is, hL_34.is, hL_35.is, (hS.own 1 rfl), (hS.box 2 rfl)⟩, (at_now (hS.box 0 rfl) (Go.Wk.at_nil _ _))⟩ (by kernel_rfl) ?_ ?_
      · refine HS.eff rfl (want_none) rfl (st_alloc (c := #[.bool false, .slice none 0 0]) hS tz_24 rfl) ?_
        rintro _ h_125 ⟨b_150, rfl, hS, hk⟩
        replace hK := hK.trans hk
        replace hL_x_F_Sources := hL_x_F_Sources.kp hk
        replace hL_x_O_Sources := hL_x_O_Sources.kp hk
        replace hL_x_L := hL_x_L.kp hk
        replace hL_34 := hL_34.kp hk
        replace hL_35 := hL_35.kp hk
        replace hS : St F_50 (Ow.box b_85 27 (e_api_Addr (false, (default : Ba 16))).toArray :: Ow.box b_150 24 #[.bool false, .slice none 0 0] :: Ow.own 27 17 e_api_Addr v_20 l_21 :: Ow.box b_1 29 (c_acequialaw19_One (.bool x_F_Exclude) vx_F_Sources (.bool x_O_Exclude) vx_O_Sources x_G x_A vx_L).toArray :: fr) h_125 := hS.perm2 [1, 0, 2, 3] 4 rfl rfl
        exact Go.Wk.HA.via (N_3 (F_50, l_21, b_86, l_22, b_87, l_23, b_85, b_150, v_20, v_21, v_22) _ _ ⟨rfl, rfl, rfl, rfl, rfl, rfl, rfl, rfl, rfl, rfl, rfl, rfl, rfl, rfl, rfl, rfl, hK, hS, hL_x_F_Sources, hL_x_O_Sources, hL_x_L, hL_34, hL_35, hM⟩) (fun L_ h_ hL_ ⟨hL_x_F_Sources, hL_x_O_Sources, hL_x_L, hL_34, hL_35, c266, c201⟩ hs_ => ⟨⟨hL_x_F_Sources, hL_x_O_Sources, hL_x_L, hL_34, hL_35, c266, c201⟩, (at_keep 1 rfl hs_ (fun c284 => c284) (Go.Wk.at_nil _ _))⟩)
      · refine HS.eff rfl (want_none) rfl (st_alloc (c := #[.bool false, .slice none 0 0]) hS tz_24 rfl) ?_
        rintro _ h_126 ⟨b_151, rfl, hS, hk⟩
        replace hK := hK.trans hk
        replace hL_x_F_Sources := hL_x_F_Sources.kp hk
        replace hL_x_O_Sources := hL_x_O_Sources.kp hk
        replace hL_x_L := hL_x_L.kp hk
        replace hL_34 := hL_34.kp hk
        replace hL_35 := hL_35.kp hk
        replace hS : St F_50 (Ow.box b_85 27 (e_api_Addr (false, (default : Ba 16))).toArray :: Ow.box b_151 24 #[.bool false, .slice none 0 0] :: Ow.own 27 17 e_api_Addr v_20 l_21 :: Ow.box b_1 29 (c_acequialaw19_One (.bool x_F_Exclude) vx_F_Sources (.bool x_O_Exclude) vx_O_Sources x_G x_A vx_L).toArray :: fr) h_126 := hS.perm2 [1, 0, 2, 3] 4 rfl rfl
        exact Go.Wk.HA.via (N_4 (F_50, l_21, b_86, l_22, b_87, l_23, b_85, b_151, v_20, v_21, v_22) _ _ ⟨rfl, rfl, rfl, rfl, rfl, rfl, rfl, rfl, rfl, rfl, rfl, rfl, rfl, rfl, rfl, rfl, hK, hS, hL_x_F_Sources, hL_x_O_Sources, hL_x_L, hL_34, hL_35, hM⟩) (fun L_ h_ hL_ ⟨hL_x_F_Sources, hL_x_O_Sources, hL_x_L, hL_34, hL_35, c266, c201⟩ hs_ => ⟨⟨hL_x_F_Sources, hL_x_O_Sources, hL_x_L, hL_34, hL_35, c266, c201⟩, (at_keep 1 rfl hs_ (fun c284 => c284) (Go.Wk.at_nil _ _))⟩)
    refine HA.node (C1 := fun (i : Fz × Bool × (List T_api_Addr) × Bool × (List T_api_Addr) × Nat × Nat × Value × Value) => match i with | (F', b_92, l_24, b_93, l_25, b_90, b_91, v_23, v_24) => fun h => (SliceIs h 17 e_api_Addr vx_F_Sources x_F_Sources) ∧ (SliceIs h 17 e_api_Addr vx_O_Sources x_O_Sources) ∧ (SliceIs h 17 e_api_Addr vx_L x_L) ∧ (SliceIs h 17 e_api_Addr v_23 l_24) ∧ (SliceIs h 17 e_api_Addr v_24 l_25) ∧ (Blk h b_1 (.cells (c_acequialaw19_One (.bool x_F_Exclude) vx_F_Sources (.bool x_O_Exclude) vx_O_Sources x_G x_A vx_L).toArray 29 (0, 0)))) (cs1 := fun (i : Fz × Bool × (List T_api_Addr) × Bool × (List T_api_Addr) × Nat × Nat × Value × Value) => match i with | (F', b_92, l_24, b_93, l_25, b_90, b_91, v_23, v_24) => [(14, fun h => (Blk h b_91 (.cells #[.bool false, .slice none 0 0] 24 (0, 0)))), (15, fun h => (Blk h b_90 (.cells #[.bool false, .slice none 0 0] 24 (0, 0))))]) (fuel1 := 6) (listed1 := #[true, true, true, true, true, true, true, true, true, true, false, true, true, false, false, false, false, false]) (fun (i : Fz × Bool × (List T_api_Addr) × Bool × (List T_api_Addr) × Nat × Nat × Value × Value) f h => match i with | (F', b_92, l_24, b_93, l_25, b_90, b_91, v_23, v_24) => f 0 = .agg (c_acequialaw19_One (.bool x_F_Exclude) vx_F_Sources (.bool x_O_Exclude) vx_O_Sources x_G x_A vx_L).toArray ∧ f 1 = .pointer (some ⟨b_1, 0, none⟩) ∧ f 2 = .bool false ∧ f 3 = .pointer (some ⟨b_91, 0, none⟩) ∧ f 4 = .pointer (some ⟨b_90, 0, none⟩) ∧ f 10 = .pointer (some ⟨b_1, 0, none⟩) ∧ f 11 = .agg #[.bool x_F_Exclude, vx_F_Sources] ∧ f 12 = .agg #[.bool b_92, v_23] ∧ f 13 = .pointer (some ⟨b_1, 2, none⟩) ∧ f 14 = .agg #[.bool x_O_Exclude, vx_O_Sources] ∧ f 15 = .agg #[.bool b_93, v_24] ∧ f 16 = .pointer (some ⟨b_1, 21, none⟩) ∧ f 17 = .agg (e_api_Addr x_A).toArray ∧ f 18 = .pointer (some ⟨b_1, 38, none⟩) ∧ f 19 = vx_L ∧ Kp F h0 F' h ∧ St F' (Ow.box b_90 24 #[.bool false, .slice none 0 0] :: Ow.box b_91 24 #[.bool false, .slice none 0 0] :: Ow.box b_1 29 (c_acequialaw19_One (.bool x_F_Exclude) vx_F_Sources (.bool x_O_Exclude) vx_O_Sources x_G x_A vx_L).toArray :: fr) h ∧ (SliceF F' h 17 e_api_Addr vx_F_Sources x_F_Sources) ∧ (SliceF F' h 17 e_api_Addr vx_O_Sources x_O_Sources) ∧ (SliceF F' h 17 e_api_Addr vx_L x_L) ∧ (SliceF F' h 17 e_api_Addr v_23 l_24) ∧ (SliceF F' h 17 e_api_Addr v_24 l_25) ∧ law08_Addrs_W x_L 6 (fun r_12 => law19_MergeOne_j1 x_A Q b_92 l_24 b_93 l_25 r_12)) ?_ (fun N_9 => ?_)
    · rintro ⟨F_54, b_92, l_24, b_93, l_25, b_90, b_91, v_23, v_24⟩ f_27 h_131 ⟨e0, e1, e2, e3, e4, e10, e11, e12, e13, e14, e15, e16, e17, e18, e19, hK, hS, hL_x_F_Sources, hL_x_O_Sources, hL_x_L, hL_36, hL_37, hM⟩
      refine HA.fr [(0, .agg (c_acequialaw19_One (.bool x_F_Exclude) vx_F_Sources (.bool x_O_Exclude) vx_O_Sources x_G x_A vx_L).toArray), (1, .pointer (some ⟨b_1, 0, none⟩)), (2, .bool false), (3, .pointer (some ⟨b_91, 0, none⟩)), (4, .pointer (some ⟨b_90, 0, none⟩)), (10, .pointer (some ⟨b_1, 0, none⟩)), (11, .agg #[.bool x_F_Exclude, vx_F_Sources]), (12, .agg #[.bool b_92, v_23]), (13, .pointer (some ⟨b_1, 2, none⟩)), (14, .agg #[.bool x_O_Exclude, vx_O_Sources]), (15, .agg #[.bool b_93, v_24]), (16, .pointer (some ⟨b_1, 21, none⟩)), (17, .agg (e_api_Addr x_A).toArray), (18, .pointer (some ⟨b_1, 38, none⟩)), (19, vx_L)] ⟨e0, e1, e2, e3, e4, e10, e11, e12, e13, e14, e15, e16, e17, e18, e19, trivial⟩ ?_
      refine HA.two (k := 10) (k' := 13) ⟨⟨hL_x_F_Sources.is, hL_x_O_Sources.is, hL_x_L.is, hL_36.is, hL_37.is, (hS.box 2 rfl)⟩, (at_now (hS.box 1 rfl) (at_now (hS.box 0 rfl) (Go.Wk.at_nil _ _)))⟩ (by kernel_rfl) ?_ ?_
      · refine HS.call rfl (want_none) rfl (ec en_25 rfl rfl) (law08_Addrs_walk (fr := (Ow.box b_90 24 #[.bool false, .slice none 0 0] :: Ow.box b_91 24 #[.bool false, .slice none 0 0] :: Ow.box b_1 29 (c_acequialaw19_One (.bool x_F_Exclude) vx_F_Sources (.bool x_O_Exclude) vx_O_Sources x_G x_A vx_L).toArray :: fr)) x_L 6 vx_L hS hL_x_L hM) ?_
        rintro vr_12 h_132 ⟨F_55, r_13, _, rfl, hk, hS, _, hM⟩
        replace hK := hK.trans hk
        replace hL_x_F_Sources := hL_x_F_Sources.kp hk
        replace hL_x_O_Sources := hL_x_O_Sources.kp hk
        replace hL_x_L := hL_x_L.kp hk
        replace hL_36 := hL_36.kp hk
        replace hL_37 := hL_37.kp hk
        replace hS : St F_55 (Ow.box b_90 24 #[.bool false, .slice none 0 0] :: Ow.box b_91 24 #[.bool false, .slice none 0 0] :: Ow.own 27 17 e_api_Addr vr_12 r_13 :: Ow.box b_1 29 (c_acequialaw19_One (.bool x_F_Exclude) vx_F_Sources (.bool x_O_Exclude) vx_O_Sources x_G x_A vx_L).toArray :: fr) h_132 := hS.perm2 [1, 2, 0, 3] 4 rfl rfl
        exact Go.Wk.HA.via (N_2 (F_55, r_13, b_92, l_24, b_93, l_25, b_90, b_91, vr_12, v_23, v_24) _ _ ⟨rfl, rfl, rfl, rfl, rfl, rfl, rfl, rfl, rfl, rfl, rfl, rfl, rfl, rfl, rfl, rfl, hK, hS, hL_x_F_Sources, hL_x_O_Sources, hL_x_L, hL_36, hL_37, hM⟩) (fun L_ h_ hL_ ⟨hL_x_F_Sources, hL_x_O_Sources, hL_x_L, hL_36, hL_37, c266, c201⟩ hs_ => ⟨⟨hL_x_F_Sources, hL_x_O_Sources, hL_x_L, hL_36, hL_37, c201⟩, (at_keep 0 rfl hs_ (fun c272 => c272) (at_keep 1 rfl hs_ (fun c278 => c278) (Go.Wk.at_nil _ _)))⟩)
      · refine HS.eff rfl (want_none) rfl (st_alloc (c := (e_api_Addr (false, (default : Ba 16))).toArray) hS tz_27 rfl) ?_
        rintro _ h_133 ⟨b_153, rfl, hS, hk⟩
        replace hK := hK.trans hk
        replace hL_x_F_Sources := hL_x_F_Sources.kp hk
        replace hL_x_O_Sources := hL_x_O_Sources.kp hk
        replace hL_x_L := hL_x_L.kp hk
        replace hL_36 := hL_36.kp hk
        replace hL_37 := hL_37.kp hk
        exact Go.Wk.HA.via (N_5 (F_54, b_92, l_24, b_93, l_25, b_153, b_90, b_91, v_23, v_24) _ _ ⟨rfl, rfl, rfl, rfl, rfl, rfl, rfl, rfl, rfl, rfl, rfl, rfl, rfl, rfl, rfl, rfl, hK, hS, hL_x_F_Sources, hL_x_O_Sources, hL_x_L, hL_36, hL_37, hM⟩) (fun L_ h_ hL_ ⟨hL_x_F_Sources, hL_x_O_Sources, hL_x_L, hL_36, hL_37, c201⟩ hs_ => ⟨⟨hL_x_F_Sources, hL_x_O_Sources, hL_x_L, hL_36, hL_37, c201⟩, (at_keep 0 rfl hs_ (fun c272 => c272) (at_keep 1 rfl hs_ (fun c278 => c278) (Go.Wk.at_nil _ _)))⟩)
    refine HA.node (C1 := fun (i : Fz × Bool × (List T_api_Addr) × Bool × (List T_api_Addr) × Nat × Nat × Value × Value) => match i with | (F', b_97, l_26, b_98, l_27, b_95, b_96, v_25, v_26) => fun h => (SliceIs h 17 e_api_Addr vx_F_Sources x_F_Sources) ∧ (SliceIs h 17 e_api_Addr vx_O_Sources x_O_Sources) ∧ (SliceIs h 17 e_api_Addr vx_L x_L) ∧ (SliceIs h 17 e_api_Addr v_25 l_26) ∧ (SliceIs h 17 e_api_Addr v_26 l_27) ∧ (Blk h b_1 (.cells (c_acequialaw19_One (.bool x_F_Exclude) vx_F_Sources (.bool x_O_Exclude) vx_O_Sources x_G x_A vx_L).toArray 29 (0, 0)))) (cs1 := fun (i : Fz × Bool × (List T_api_Addr) × Bool × (List T_api_Addr) × Nat × Nat × Value × Value) => match i with | (F', b_97, l_26, b_98, l_27, b_95, b_96, v_25, v_26) => [(14, fun h => (Blk h b_96 (.cells #[.bool false, .slice none 0 0] 24 (0, 0)))), (16, fun h => (Blk h b_95 (.cells (e_api_Addr (false, (default : Ba 16))).toArray 27 (0, 0))))]) (fuel1 := 6) (listed1 := #[true, true, true, true, true, true, true, true, true, true, false, true, false, true, false, false, false, false]) (fun (i : Fz × Bool × (List T_api_Addr) × Bool × (List T_api_Addr) × Nat × Nat × Value × Value) f h => match i with | (F', b_97, l_26, b_98, l_27, b_95, b_96, v_25, v_26) => f 0 = .agg (c_acequialaw19_One (.bool x_F_Exclude) vx_F_Sources (.bool x_O_Exclude) vx_O_Sources x_G x_A vx_L).toArray ∧ f 1 = .pointer (some ⟨b_1, 0, none⟩) ∧ f 2 = .bool false ∧ f 3 = .pointer (some ⟨b_96, 0, none⟩) ∧ f 5 = .pointer (some ⟨b_95, 0, none⟩) ∧ f 10 = .pointer (some ⟨b_1, 0, none⟩) ∧ f 11 = .agg #[.bool x_F_Exclude, vx_F_Sources] ∧ f 12 = .agg #[.bool b_97, v_25] ∧ f 13 = .pointer (some ⟨b_1, 2, none⟩) ∧ f 14 = .agg #[.bool x_O_Exclude, vx_O_Sources] ∧ f 15 = .agg #[.bool b_98, v_26] ∧ f 16 = .pointer (some ⟨b_1, 21, none⟩) ∧ f 17 = .agg (e_api_Addr x_A).toArray ∧ f 18 = .pointer (some ⟨b_1, 38, none⟩) ∧ f 19 = vx_L ∧ Kp F h0 F' h ∧ St F' (Ow.box b_95 27 (e_api_Addr (false, (default : Ba 16))).toArray :: Ow.box b_96 24 #[.bool false, .slice none 0 0] :: Ow.box b_1 29 (c_acequialaw19_One (.bool x_F_Exclude) vx_F_Sources (.bool x_O_Exclude) vx_O_Sources x_G x_A vx_L).toArray :: fr) h ∧ (SliceF F' h 17 e_api_Addr vx_F_Sources x_F_Sources) ∧ (SliceF F' h 17 e_api_Addr vx_O_Sources x_O_Sources) ∧ (SliceF F' h 17 e_api_Addr vx_L x_L) ∧ (SliceF F' h 17 e_api_Addr v_25 l_26) ∧ (SliceF F' h 17 e_api_Addr v_26 l_27) ∧ law08_Addrs_W x_L 6 (fun r_14 => law19_MergeOne_j1 x_A Q b_97 l_26 b_98 l_27 r_14)) ?_ (fun N_10 => ?_)
    · rintro ⟨F_59, b_97, l_26, b_98, l_27, b_95, b_96, v_25, v_26⟩ f_30 h_138 ⟨e0, e1, e2, e3, e5, e10, e11, e12, e13, e14, e15, e16, e17, e18, e19, hK, hS, hL_x_F_Sources, hL_x_O_Sources, hL_x_L, hL_38, hL_39, hM⟩
      refine HA.fr [(0, .agg (c_acequialaw19_One (.bool x_F_Exclude) vx_F_Sources (.bool x_O_Exclude) vx_O_Sources x_G x_A vx_L).toArray), (1, .pointer (some ⟨b_1, 0, none⟩)), (2, .bool false), (3, .pointer (some ⟨b_96, 0, none⟩)), (5, .pointer (some ⟨b_95, 0, none⟩)), (10, .pointer (some ⟨b_1, 0, none⟩)), (11, .agg #[.bool x_F_Exclude, vx_F_Sources]), (12, .agg #[.bool b_97, v_25]), (13, .pointer (some ⟨b_1, 2, none⟩)), (14, .agg #[.bool x_O_Exclude, vx_O_Sources]), (15, .agg #[.bool b_98, v_26]), (16, .pointer (some ⟨b_1, 21, none⟩)), (17, .agg (e_api_Addr x_A).toArray), (18, .pointer (some ⟨b_1, 38, none⟩)), (19, vx_L)] ⟨e0, e1, e2, e3, e5, e10, e11, e12, e13, e14, e15, e16, e17, e18, e19, trivial⟩ ?_
      refine HA.two (k := 10) (k' := 12) ⟨⟨hL_x_F_Sources.is, hL_x_O_Sources.is, hL_x_L.is, hL_38.is, hL_39.is, (hS.box 2 rfl)⟩, (at_now (hS.box 1 rfl) (at_now (hS.box 0 rfl) (Go.Wk.at_nil _ _)))⟩ (by kernel_rfl) ?_ ?_
      · refine HS.call rfl (want_none) rfl (ec en_25 rfl rfl) (law08_Addrs_walk (fr := (Ow.box b_95 27 (e_api_Addr (false, (default : Ba 16))).toArray :: Ow.box b_96 24 #[.bool false, .slice none 0 0] :: Ow.box b_1 29 (c_acequialaw19_One (.bool x_F_Exclude) vx_F_Sources (.bool x_O_Exclude) vx_O_Sources x_G x_A vx_L).toArray :: fr)) x_L 6 vx_L hS hL_x_L hM) ?_
        rintro vr_14 h_139 ⟨F_60, r_15, _, rfl, hk, hS, _, hM⟩
        replace hK := hK.trans hk
        replace hL_x_F_Sources := hL_x_F_Sources.kp hk
        replace hL_x_O_Sources := hL_x_O_Sources.kp hk
        replace hL_x_L := hL_x_L.kp hk
        replace hL_38 := hL_38.kp hk
        replace hL_39 := hL_39.kp hk
        replace hS : St F_60 (Ow.box b_95 27 (e_api_Addr (false, (default : Ba 16))).toArray :: Ow.box b_96 24 #[.bool false, .slice none 0 0] :: Ow.own 27 17 e_api_Addr vr_14 r_15 :: Ow.box b_1 29 (c_acequialaw19_One (.bool x_F_Exclude) vx_F_Sources (.bool x_O_Exclude) vx_O_Sources x_G x_A vx_L).toArray :: fr) h_139 := hS.perm2 [1, 2, 0, 3] 4 rfl rfl
        exact Go.Wk.HA.via (N_3 (F_60, r_15, b_97, l_26, b_98, l_27, b_95, b_96, vr_14, v_25, v_26) _ _ ⟨rfl, rfl, rfl, rfl, rfl, rfl, rfl, rfl, rfl, rfl, rfl, rfl, rfl, rfl, rfl, rfl, hK, hS, hL_x_F_Sources, hL_x_O_Sources, hL_x_L, hL_38, hL_39, hM⟩) (fun L_ h_ hL_ ⟨hL_x_F_Sources, hL_x_O_Sources, hL_x_L, hL_38, hL_39, c266, c201⟩ hs_ => ⟨⟨hL_x_F_Sources, hL_x_O_Sources, hL_x_L, hL_38, hL_39, c201⟩, (at_keep 0 rfl hs_ (fun c272 => c272) (at_keep 1 rfl hs_ (fun c284 => c284) (Go.Wk.at_nil _ _)))⟩)
      · refine HS.eff rfl (want_none) rfl (st_alloc (c := #[.bool false, .slice none 0 0]) hS tz_24 rfl) ?_
        rintro _ h_140 ⟨b_155, rfl, hS, hk⟩
        replace hK := hK.trans hk
        replace hL_x_F_Sources := hL_x_F_Sources.kp hk
        replace hL_x_O_Sources := hL_x_O_Sources.kp hk
        replace hL_x_L := hL_x_L.kp hk
        replace hL_38 := hL_38.kp hk
        replace hL_39 := hL_39.kp hk
        replace hS : St F_59 (Ow.box b_95 27 (e_api_Addr (false, (default : Ba 16))).toArray :: Ow.box b_155 24 #[.bool false, .slice none 0 0] :: Ow.box b_96 24 #[.bool false, .slice none 0 0] :: Ow.box b_1 29 (c_acequialaw19_One (.bool x_F_Exclude) vx_F_Sources (.bool x_O_Exclude) vx_O_Sources x_G x_A vx_L).toArray :: fr) h_140 := hS.perm2 [1, 0, 2, 3] 4 rfl rfl
        exact Go.Wk.HA.via (N_5 (F_59, b_97, l_26, b_98, l_27, b_95, b_155, b_96, v_25, v_26) _ _ ⟨rfl, rfl, rfl, rfl, rfl, rfl, rfl, rfl, rfl, rfl, rfl, rfl, rfl, rfl, rfl, rfl, hK, hS, hL_x_F_Sources, hL_x_O_Sources, hL_x_L, hL_38, hL_39, hM⟩) (fun L_ h_ hL_ ⟨hL_x_F_Sources, hL_x_O_Sources, hL_x_L, hL_38, hL_39, c201⟩ hs_ => ⟨⟨hL_x_F_Sources, hL_x_O_Sources, hL_x_L, hL_38, hL_39, c201⟩, (at_keep 0 rfl hs_ (fun c272 => c272) (at_keep 2 rfl hs_ (fun c284 => c284) (Go.Wk.at_nil _ _)))⟩)
    refine HA.node (C1 := fun (i : Fz × Bool × (List T_api_Addr) × Bool × (List T_api_Addr) × Nat × Nat × Value × Value) => match i with | (F', b_102, l_28, b_103, l_29, b_100, b_101, v_27, v_28) => fun h => (SliceIs h 17 e_api_Addr vx_F_Sources x_F_Sources) ∧ (SliceIs h 17 e_api_Addr vx_O_Sources x_O_Sources) ∧ (SliceIs h 17 e_api_Addr vx_L x_L) ∧ (SliceIs h 17 e_api_Addr v_27 l_28) ∧ (SliceIs h 17 e_api_Addr v_28 l_29) ∧ (Blk h b_1 (.cells (c_acequialaw19_One (.bool x_F_Exclude) vx_F_Sources (.bool x_O_Exclude) vx_O_Sources x_G x_A vx_L).toArray 29 (0, 0)))) (cs1 := fun (i : Fz × Bool × (List T_api_Addr) × Bool × (List T_api_Addr) × Nat × Nat × Value × Value) => match i with | (F', b_102, l_28, b_103, l_29, b_100, b_101, v_27, v_28) => [(15, fun h => (Blk h b_101 (.cells #[.bool false, .slice none 0 0] 24 (0, 0)))), (16, fun h => (Blk h b_100 (.cells (e_api_Addr (false, (default : Ba 16))).toArray 27 (0, 0))))]) (fuel1 := 6) (listed1 := #[true, true, true, true, true, true, true, true, true, true, false, false, true, true, false, false, false, false]) (fun (i : Fz × Bool × (List T_api_Addr) × Bool × (List T_api_Addr) × Nat × Nat × Value × Value) f h => match i with | (F', b_102, l_28, b_103, l_29, b_100, b_101, v_27, v_28) => f 0 = .agg (c_acequialaw19_One (.bool x_F_Exclude) vx_F_Sources (.bool x_O_Exclude) vx_O_Sources x_G x_A vx_L).toArray ∧ f 1 = .pointer (some ⟨b_1, 0, none⟩) ∧ f 2 = .bool false ∧ f 4 = .pointer (some ⟨b_101, 0, none⟩) ∧ f 5 = .pointer (some ⟨b_100, 0, none⟩) ∧ f 10 = .pointer (some ⟨b_1, 0, none⟩) ∧ f 11 = .agg #[.bool x_F_Exclude, vx_F_Sources] ∧ f 12 = .agg #[.bool b_102, v_27] ∧ f 13 = .pointer (some ⟨b_1, 2, none⟩) ∧ f 14 = .agg #[.bool x_O_Exclude, vx_O_Sources] ∧ f 15 = .agg #[.bool b_103, v_28] ∧ f 16 = .pointer (some ⟨b_1, 21, none⟩) ∧ f 17 = .agg (e_api_Addr x_A).toArray ∧ f 18 = .pointer (some ⟨b_1, 38, none⟩) ∧ f 19 = vx_L ∧ Kp F h0 F' h ∧ St F' (Ow.box b_100 27 (e_api_Addr (false, (default : Ba 16))).toArray :: Ow.box b_101 24 #[.bool false, .slice none 0 0] :: Ow.box b_1 29 (c_acequialaw19_One (.bool x_F_Exclude) vx_F_Sources (.bool x_O_Exclude) vx_O_Sources x_G x_A vx_L).toArray :: fr) h ∧ (SliceF F' h 17 e_api_Addr vx_F_Sources x_F_Sources) ∧ (SliceF F' h 17 e_api_Addr vx_O_Sources x_O_Sources) ∧ (SliceF F' h 17 e_api_Addr vx_L x_L) ∧ (SliceF F' h 17 e_api_Addr v_27 l_28) ∧ (SliceF F' h 17 e_api_Addr v_28 l_29) ∧ law08_Addrs_W x_L 6 (fun r_16 => law19_MergeOne_j1 x_A Q b_102 l_28 b_103 l_29 r_16)) ?_ (fun N_11 => ?_)
    · rintro ⟨F_64, b_102, l_28, b_103, l_29, b_100, b_101, v_27, v_28⟩ f_33 h_145 ⟨e0, e1, e2, e4, e5, e10, e11, e12, e13, e14, e15, e16, e17, e18, e19, hK, hS, hL_x_F_Sources, hL_x_O_Sources, hL_x_L, hL_40, hL_41, hM⟩
      refine HA.fr [(0, .agg (c_acequialaw19_One (.bool x_F_Exclude) vx_F_Sources (.bool x_O_Exclude) vx_O_Sources x_G x_A vx_L).toArray), (1, .pointer (some ⟨b_1, 0, none⟩)), (2, .bool false), (4, .pointer (some ⟨b_101, 0, none⟩)), (5, .pointer (some ⟨b_100, 0, none⟩)), (10, .pointer (some ⟨b_1, 0, none⟩)), (11, .agg #[.bool x_F_Exclude, vx_F_Sources]), (12, .agg #[.bool b_102, v_27]), (13, .pointer (some ⟨b_1, 2, none⟩)), (14, .agg #[.bool x_O_Exclude, vx_O_Sources]), (15, .agg #[.bool b_103, v_28]), (16, .pointer (some ⟨b_1, 21, none⟩)), (17, .agg (e_api_Addr x_A).toArray), (18, .pointer (some ⟨b_1, 38, none⟩)), (19, vx_L)] ⟨e0, e1, e2, e4, e5, e10, e11, e12, e13, e14, e15, e16, e17, e18, e19, trivial⟩ ?_
      refine HA.two (k := 10) (k' := 11) ⟨⟨hL_x_F_Sources.is, hL_x_O_Sources.is, hL_x_L.is, hL_40.is, hL_41.is, (hS.box 2 rfl)⟩, (at_now (hS.box 1 rfl) (at_now (hS.box 0 rfl) (Go.Wk.at_nil _ _)))⟩ (by kernel_rfl) ?_ ?_
      · refine HS.call rfl (want_none) rfl (ec en_25 rfl rfl) (law08_Addrs_walk (fr := (Ow.box b_100 27 (e_api_Addr (false, (default : Ba 16))).toArray :: Ow.box b_101 24 #[.bool false, .slice none 0 0] :: Ow.box b_1 29 (c_acequialaw19_One (.bool x_F_Exclude) vx_F_Sources (.bool x_O_Exclude) vx_O_Sources x_G x_A vx_L).toArray :: fr)) x_L 6 vx_L hS hL_x_L hM) ?_
        rintro vr_16 h_146 ⟨F_65, r_17, _, rfl, hk, hS, _, hM⟩
        replace hK := hK.trans hk
        replace hL_x_F_Sources := hL_x_F_Sources.kp hk
        replace hL_x_O_Sources := hL_x_O_Sources.kp hk
        replace hL_x_L := hL_x_L.kp hk
        replace hL_40 := hL_40.kp hk
        replace hL_41 := hL_41.kp hk
        replace hS : St F_65 (Ow.box b_100 27 (e_api_Addr (false, (default : Ba 16))).toArray :: Ow.box b_101 24 #[.bool false, .slice none 0 0] :: Ow.own 27 17 e_api_Addr vr_16 r_17 :: Ow.box b_1 29 (c_acequialaw19_One (.bool x_F_Exclude) vx_F_Sources (.bool x_O_Exclude) vx_O_Sources x_G x_A vx_L).toArray :: fr) h_146 := hS.perm2 [1, 2, 0, 3] 4 rfl rfl
        exact Go.Wk.HA.via (N_4 (F_65, r_17, b_102, l_28, b_103, l_29, b_100, b_101, vr_16, v_27, v_28) _ _ ⟨rfl, rfl, rfl, rfl, rfl, rfl, rfl, rfl, rfl, rfl, rfl, rfl, rfl, rfl, rfl, rfl, hK, hS, hL_x_F_Sources, hL_x_O_Sources, hL_x_L, hL_40, hL_41, hM⟩) (fun L_ h_ hL_ ⟨hL_x_F_Sources, hL_x_O_Sources, hL_x_L, hL_40, hL_41, c266, c201⟩ hs_ => ⟨⟨hL_x_F_Sources, hL_x_O_Sources, hL_x_L, hL_40, hL_41, c201⟩, (at_keep 0 rfl hs_ (fun c278 => c278) (at_keep 1 rfl hs_ (fun c284 => c284) (Go.Wk.at_nil _ _)))⟩)
      · refine HS.eff rfl (want_none) rfl (st_alloc (c := #[.bool false, .slice none 0 0]) hS tz_24 rfl) ?_
        rintro _ h_147 ⟨b_157, rfl, hS, hk⟩
        replace hK := hK.trans hk
        replace hL_x_F_Sources := hL_x_F_Sources.kp hk
        replace hL_x_O_Sources := hL_x_O_Sources.kp hk
        replace hL_x_L := hL_x_L.kp hk
        replace hL_40 := hL_40.kp hk
        replace hL_41 := hL_41.kp hk
        replace hS : St F_64 (Ow.box b_100 27 (e_api_Addr (false, (default : Ba 16))).toArray :: Ow.box b_101 24 #[.bool false, .slice none 0 0] :: Ow.box b_157 24 #[.bool false, .slice none 0 0] :: Ow.box b_1 29 (c_acequialaw19_One (.bool x_F_Exclude) vx_F_Sources (.bool x_O_Exclude) vx_O_Sources x_G x_A vx_L).toArray :: fr) h_147 := hS.perm2 [1, 2, 0, 3] 4 rfl rfl
        exact Go.Wk.HA.via (N_5 (F_64, b_102, l_28, b_103, l_29, b_100, b_101, b_157, v_27, v_28) _ _ ⟨rfl, rfl, rfl, rfl, rfl, rfl, rfl, rfl, rfl, rfl, rfl, rfl, rfl, rfl, rfl, rfl, hK, hS, hL_x_F_Sources, hL_x_O_Sources, hL_x_L, hL_40, hL_41, hM⟩) (fun L_ h_ hL_ ⟨hL_x_F_Sources, hL_x_O_Sources, hL_x_L, hL_40, hL_41, c201⟩ hs_ => ⟨⟨hL_x_F_Sources, hL_x_O_Sources, hL_x_L, hL_40, hL_41, c201⟩, (at_keep 1 rfl hs_ (fun c278 => c278) (at_keep 2 rfl hs_ (fun c284 => c284) (Go.Wk.at_nil _ _)))⟩)
    refine HA.node (C1 := fun (i : Fz × Bool × (List T_api_Addr) × Nat × Nat × Nat × Value) => match i with | (F', b_108, l_30, b_105, b_106, b_107, v_29) => fun h => (SliceIs h 17 e_api_Addr vx_F_Sources x_F_Sources) ∧ (SliceIs h 17 e_api_Addr vx_O_Sources x_O_Sources) ∧ (SliceIs h 17 e_api_Addr vx_L x_L) ∧ (SliceIs h 17 e_api_Addr v_29 l_30) ∧ (Blk h b_1 (.cells (c_acequialaw19_One (.bool x_F_Exclude) vx_F_Sources (.bool x_O_Exclude) vx_O_Sources x_G x_A vx_L).toArray 29 (0, 0)))) (cs1 := fun (i : Fz × Bool × (List T_api_Addr) × Nat × Nat × Nat × Value) => match i with | (F', b_108, l_30, b_105, b_106, b_107, v_29) => [(14, fun h => (Blk h b_107 (.cells #[.bool false, .slice none 0 0] 24 (0, 0)))), (15, fun h => (Blk h b_106 (.cells #[.bool false, .slice none 0 0] 24 (0, 0)))), (16, fun h => (Blk h b_105 (.cells (e_api_Addr (false, (default : Ba 16))).toArray 27 (0, 0))))]) (fuel1 := 6) (listed1 := #[true, true, true, true, true, false, true, true, true, true, false, true, true, true, false, false, false, false]) (fun (i : Fz × Bool × (List T_api_Addr) × Nat × Nat × Nat × Value) f h => match i with | (F', b_108, l_30, b_105, b_106, b_107, v_29) => f 0 = .agg (c_acequialaw19_One (.bool x_F_Exclude) vx_F_Sources (.bool x_O_Exclude) vx_O_Sources x_G x_A vx_L).toArray ∧ f 1 = .pointer (some ⟨b_1, 0, none⟩) ∧ f 2 = .bool false ∧ f 3 = .pointer (some ⟨b_107, 0, none⟩) ∧ f 4 = .pointer (some ⟨b_106, 0, none⟩) ∧ f 5 = .pointer (some ⟨b_105, 0, none⟩) ∧ f 10 = .pointer (some ⟨b_1, 0, none⟩) ∧ f 11 = .agg #[.bool x_F_Exclude, vx_F_Sources] ∧ f 12 = .agg #[.bool b_108, v_29] ∧ f 13 = .pointer (some ⟨b_1, 2, none⟩) ∧ f 14 = .agg #[.bool x_O_Exclude, vx_O_Sources] ∧ f 16 = .pointer (some ⟨b_1, 21, none⟩) ∧ f 17 = .agg (e_api_Addr x_A).toArray ∧ f 18 = .pointer (some ⟨b_1, 38, none⟩) ∧ f 19 = vx_L ∧ Kp F h0 F' h ∧ St F' (Ow.box b_105 27 (e_api_Addr (false, (default : Ba 16))).toArray :: Ow.box b_106 24 #[.bool false, .slice none 0 0] :: Ow.box b_107 24 #[.bool false, .slice none 0 0] :: Ow.box b_1 29 (c_acequialaw19_One (.bool x_F_Exclude) vx_F_Sources (.bool x_O_Exclude) vx_O_Sources x_G x_A vx_L).toArray :: fr) h ∧ (SliceF F' h 17 e_api_Addr vx_F_Sources x_F_Sources) ∧ (SliceF F' h 17 e_api_Addr vx_O_Sources x_O_Sources) ∧ (SliceF F' h 17 e_api_Addr vx_L x_L) ∧ (SliceF F' h 17 e_api_Addr v_29 l_30) ∧ law19_Few_W x_O_Exclude x_O_Sources (fun r_0_17 r_1_17 => law08_Addrs_W x_L 6 (fun r_10 => law19_MergeOne_j1 x_A Q b_108 l_30 r_0_17 r_1_17 r_10))) ?_ (fun N_12 => ?_)
    · rintro ⟨F_69, b_108, l_30, b_105, b_106, b_107, v_29⟩ f_36 h_151 ⟨e0, e1, e2, e3, e4, e5, e10, e11, e12, e13, e14, e16, e17, e18, e19, hK, hS, hL_x_F_Sources, hL_x_O_Sources, hL_x_L, hL_42, hM⟩
      refine HA.fr [(0, .agg (c_acequialaw19_One (.bool x_F_Exclude) vx_F_Sources (.bool x_O_Exclude) vx_O_Sources x_G x_A vx_L).toArray), (1, .pointer (some ⟨b_1, 0, none⟩)), (2, .bool false), (3, .pointer (some ⟨b_107, 0, none⟩)), (4, .pointer (some ⟨b_106, 0, none⟩)), (5, .pointer (some ⟨b_105, 0, none⟩)), (10, .pointer (some ⟨b_1, 0, none⟩)), (11, .agg #[.bool x_F_Exclude, vx_F_Sources]), (12, .agg #[.bool b_108, v_29]), (13, .pointer (some ⟨b_1, 2, none⟩)), (14, .agg #[.bool x_O_Exclude, vx_O_Sources]), (16, .pointer (some ⟨b_1, 21, none⟩)), (17, .agg (e_api_Addr x_A).toArray), (18, .pointer (some ⟨b_1, 38, none⟩)), (19, vx_L)] ⟨e0, e1, e2, e3, e4, e5, e10, e11, e12, e13, e14, e16, e17, e18, e19, trivial⟩ ?_
      refine HA.one (k := 5) ⟨⟨hL_x_F_Sources.is, hL_x_O_Sources.is, hL_x_L.is, hL_42.is, (hS.box 3 rfl)⟩, (at_now (hS.box 2 rfl) (at_now (hS.box 1 rfl) (at_now (hS.box 0 rfl) (Go.Wk.at_nil _ _))))⟩ (by kernel_rfl) ?_
      refine HS.call rfl (want_none) rfl (ec en_9 rfl rfl) (law19_Few_walk (fr := (Ow.box b_105 27 (e_api_Addr (false, (default : Ba 16))).toArray :: Ow.box b_106 24 #[.bool false, .slice none 0 0] :: Ow.box b_107 24 #[.bool false, .slice none 0 0] :: Ow.box b_1 29 (c_acequialaw19_One (.bool x_F_Exclude) vx_F_Sources (.bool x_O_Exclude) vx_O_Sources x_G x_A vx_L).toArray :: fr)) x_O_Exclude x_O_Sources vx_O_Sources hS hL_x_O_Sources hM) ?_
      rintro _ h_152 ⟨F_70, r_0_18, r_1_18, vr_1_18, rfl, hk, hS, _, hL_55, hM⟩
      replace hK := hK.trans hk
      replace hL_x_F_Sources := hL_x_F_Sources.kp hk
      replace hL_x_O_Sources := hL_x_O_Sources.kp hk
      replace hL_x_L := hL_x_L.kp hk
      replace hL_42 := hL_42.kp hk
      exact Go.Wk.HA.via (N_5 (F_70, b_108, l_30, r_0_18, r_1_18, b_105, b_106, b_107, v_29, vr_1_18) _ _ ⟨rfl, rfl, rfl, rfl, rfl, rfl, rfl, rfl, rfl, rfl, rfl, rfl, rfl, rfl, rfl, rfl, hK, hS, hL_x_F_Sources, hL_x_O_Sources, hL_x_L, hL_42, hL_55, hM⟩) (fun L_ h_ hL_ ⟨hL_x_F_Sources, hL_x_O_Sources, hL_x_L, hL_42, hL_55, c201⟩ hs_ => ⟨⟨hL_x_F_Sources, hL_x_O_Sources, hL_x_L, hL_42, c201⟩, (at_keep 0 rfl hs_ (fun c272 => c272) (at_keep 1 rfl hs_ (fun c278 => c278) (at_keep 2 rfl hs_ (fun c284 => c284) (Go.Wk.at_nil _ _))))⟩)
    refine HA.node (C1 := fun (i : Fz × Bool × (List T_api_Addr) × Bool × (List T_api_Addr) × Nat × Value × Value) => match i with | (F', b_46, l_6, b_47, l_7, b_45, v_5, v_6) => fun h => (SliceIs h 17 e_api_Addr vx_F_Sources x_F_Sources) ∧ (SliceIs h 17 e_api_Addr vx_O_Sources x_O_Sources) ∧ (SliceIs h 17 e_api_Addr vx_L x_L) ∧ (SliceIs h 17 e_api_Addr v_5 l_6) ∧ (SliceIs h 17 e_api_Addr v_6 l_7) ∧ (Blk h b_1 (.cells (c_acequialaw19_One (.bool x_F_Exclude) vx_F_Sources (.bool x_O_Exclude) vx_O_Sources x_G x_A vx_L).toArray 29 (0, 0)))) (cs1 := fun (i : Fz × Bool × (List T_api_Addr) × Bool × (List T_api_Addr) × Nat × Value × Value) => match i with | (F', b_46, l_6, b_47, l_7, b_45, v_5, v_6) => [(14, fun h => (Blk h b_45 (.cells #[.bool false, .slice none 0 0] 24 (0, 0))))]) (fuel1 := 7) (listed1 := #[true, true, true, true, true, true, true, true, true, true, false, true, false, false, false, false, false, false]) (fun (i : Fz × Bool × (List T_api_Addr) × Bool × (List T_api_Addr) × Nat × Value × Value) f h => match i with | (F', b_46, l_6, b_47, l_7, b_45, v_5, v_6) => f 0 = .agg (c_acequialaw19_One (.bool x_F_Exclude) vx_F_Sources (.bool x_O_Exclude) vx_O_Sources x_G x_A vx_L).toArray ∧ f 1 = .pointer (some ⟨b_1, 0, none⟩) ∧ f 2 = .bool false ∧ f 3 = .pointer (some ⟨b_45, 0, none⟩) ∧ f 10 = .pointer (some ⟨b_1, 0, none⟩) ∧ f 11 = .agg #[.bool x_F_Exclude, vx_F_Sources] ∧ f 12 = .agg #[.bool b_46, v_5] ∧ f 13 = .pointer (some ⟨b_1, 2, none⟩) ∧ f 14 = .agg #[.bool x_O_Exclude, vx_O_Sources] ∧ f 15 = .agg #[.bool b_47, v_6] ∧ f 16 = .pointer (some ⟨b_1, 21, none⟩) ∧ f 17 = .agg (e_api_Addr x_A).toArray ∧ f 18 = .pointer (some ⟨b_1, 38, none⟩) ∧ f 19 = vx_L ∧ Kp F h0 F' h ∧ St F' (Ow.box b_45 24 #[.bool false, .slice none 0 0] :: Ow.box b_1 29 (c_acequialaw19_One (.bool x_F_Exclude) vx_F_Sources (.bool x_O_Exclude) vx_O_Sources x_G x_A vx_L).toArray :: fr) h ∧ (SliceF F' h 17 e_api_Addr vx_F_Sources x_F_Sources) ∧ (SliceF F' h 17 e_api_Addr vx_O_Sources x_O_Sources) ∧ (SliceF F' h 17 e_api_Addr vx_L x_L) ∧ (SliceF F' h 17 e_api_Addr v_5 l_6) ∧ (SliceF F' h 17 e_api_Addr v_6 l_7) ∧ law08_Addrs_W x_L 6 (fun r_18 => law19_MergeOne_j1 x_A Q b_46 l_6 b_47 l_7 r_18)) ?_ (fun N_13 => ?_)
    · rintro ⟨F_74, b_46, l_6, b_47, l_7, b_45, v_5, v_6⟩ f_39 h_158 ⟨e0, e1, e2, e3, e10, e11, e12, e13, e14, e15, e16, e17, e18, e19, hK, hS, hL_x_F_Sources, hL_x_O_Sources, hL_x_L, hL_17, hL_18, hM⟩
      refine HA.fr [(0, .agg (c_acequialaw19_One (.bool x_F_Exclude) vx_F_Sources (.bool x_O_Exclude) vx_O_Sources x_G x_A vx_L).toArray), (1, .pointer (some ⟨b_1, 0, none⟩)), (2, .bool false), (3, .pointer (some ⟨b_45, 0, none⟩)), (10, .pointer (some ⟨b_1, 0, none⟩)), (11, .agg #[.bool x_F_Exclude, vx_F_Sources]), (12, .agg #[.bool b_46, v_5]), (13, .pointer (some ⟨b_1, 2, none⟩)), (14, .agg #[.bool x_O_Exclude, vx_O_Sources]), (15, .agg #[.bool b_47, v_6]), (16, .pointer (some ⟨b_1, 21, none⟩)), (17, .agg (e_api_Addr x_A).toArray), (18, .pointer (some ⟨b_1, 38, none⟩)), (19, vx_L)] ⟨e0, e1, e2, e3, e10, e11, e12, e13, e14, e15, e16, e17, e18, e19, trivial⟩ ?_
      refine HA.three (k := 10) (k' := 12) (k'' := 13) ⟨⟨hL_x_F_Sources.is, hL_x_O_Sources.is, hL_x_L.is, hL_17.is, hL_18.is, (hS.box 1 rfl)⟩, (at_now (hS.box 0 rfl) (Go.Wk.at_nil _ _))⟩ (by kernel_rfl) ?_ ?_ ?_
      · refine HS.call rfl (want_none) rfl (ec en_25 rfl rfl) (law08_Addrs_walk (fr := (Ow.box b_45 24 #[.bool false, .slice none 0 0] :: Ow.box b_1 29 (c_acequialaw19_One (.bool x_F_Exclude) vx_F_Sources (.bool x_O_Exclude) vx_O_Sources x_G x_A vx_L).toArray :: fr)) x_L 6 vx_L hS hL_x_L hM) ?_
        rintro vr_18 h_159 ⟨F_75, r_19, _, rfl, hk, hS, _, hM⟩
        replace hK := hK.trans hk
        replace hL_x_F_Sources := hL_x_F_Sources.kp hk
        replace hL_x_O_Sources := hL_x_O_Sources.kp hk
        replace hL_x_L := hL_x_L.kp hk
        replace hL_17 := hL_17.kp hk
        replace hL_18 := hL_18.kp hk
        replace hS : St F_75 (Ow.box b_45 24 #[.bool false, .slice none 0 0] :: Ow.own 27 17 e_api_Addr vr_18 r_19 :: Ow.box b_1 29 (c_acequialaw19_One (.bool x_F_Exclude) vx_F_Sources (.bool x_O_Exclude) vx_O_Sources x_G x_A vx_L).toArray :: fr) h_159 := hS.perm2 [1, 0, 2] 3 rfl rfl
        exact Go.Wk.HA.via (N_6 (F_75, r_19, b_46, l_6, b_47, l_7, b_45, vr_18, v_5, v_6) _ _ ⟨rfl, rfl, rfl, rfl, rfl, rfl, rfl, rfl, rfl, rfl, rfl, rfl, rfl, rfl, rfl, hK, hS, hL_x_F_Sources, hL_x_O_Sources, hL_x_L, hL_17, hL_18, hM⟩) (fun L_ h_ hL_ ⟨hL_x_F_Sources, hL_x_O_Sources, hL_x_L, hL_17, hL_18, c266, c201⟩ hs_ => ⟨⟨hL_x_F_Sources, hL_x_O_Sources, hL_x_L, hL_17, hL_18, c201⟩, (at_keep 0 rfl hs_ (fun c272 => c272) (Go.Wk.at_nil _ _))⟩)
      · refine HS.eff rfl (want_none) rfl (st_alloc (c := #[.bool false, .slice none 0 0]) hS tz_24 rfl) ?_
        rintro _ h_160 ⟨b_160, rfl, hS, hk⟩
        replace hK := hK.trans hk
        replace hL_x_F_Sources := hL_x_F_Sources.kp hk
        replace hL_x_O_Sources := hL_x_O_Sources.kp hk
        replace hL_x_L := hL_x_L.kp hk
        replace hL_17 := hL_17.kp hk
        replace hL_18 := hL_18.kp hk
        exact Go.Wk.HA.via (N_9 (F_74, b_46, l_6, b_47, l_7, b_160, b_45, v_5, v_6) _ _ ⟨rfl, rfl, rfl, rfl, rfl, rfl, rfl, rfl, rfl, rfl, rfl, rfl, rfl, rfl, rfl, hK, hS, hL_x_F_Sources, hL_x_O_Sources, hL_x_L, hL_17, hL_18, hM⟩) (fun L_ h_ hL_ ⟨hL_x_F_Sources, hL_x_O_Sources, hL_x_L, hL_17, hL_18, c201⟩ hs_ => ⟨⟨hL_x_F_Sources, hL_x_O_Sources, hL_x_L, hL_17, hL_18, c201⟩, (at_keep 0 rfl hs_ (fun c272 => c272) (Go.Wk.at_nil _ _))⟩)
      · refine HS.eff rfl (want_none) rfl (st_alloc (c := (e_api_Addr (false, (default : Ba 16))).toArray) hS tz_27 rfl) ?_
        rintro _ h_161 ⟨b_161, rfl, hS, hk⟩
        replace hK := hK.trans hk
        replace hL_x_F_Sources := hL_x_F_Sources.kp hk
        replace hL_x_O_Sources := hL_x_O_Sources.kp hk
        replace hL_x_L := hL_x_L.kp hk
        replace hL_17 := hL_17.kp hk
        replace hL_18 := hL_18.kp hk
        exact Go.Wk.HA.via (N_10 (F_74, b_46, l_6, b_47, l_7, b_161, b_45, v_5, v_6) _ _ ⟨rfl, rfl, rfl, rfl, rfl, rfl, rfl, rfl, rfl, rfl, rfl, rfl, rfl, rfl, rfl, hK, hS, hL_x_F_Sources, hL_x_O_Sources, hL_x_L, hL_17, hL_18, hM⟩) (fun L_ h_ hL_ ⟨hL_x_F_Sources, hL_x_O_Sources, hL_x_L, hL_17, hL_18, c201⟩ hs_ => ⟨⟨hL_x_F_Sources, hL_x_O_Sources, hL_x_L, hL_17, hL_18, c201⟩, (at_keep 0 rfl hs_ (fun c272 => c272) (Go.Wk.at_nil _ _))⟩)
    refine HA.node (C1 := fun (i : Fz × Bool × (List T_api_Addr) × Bool × (List T_api_Addr) × Nat × Value × Value) => match i with | (F', b_51, l_8, b_52, l_9, b_50, v_7, v_8) => fun h => (SliceIs h 17 e_api_Addr vx_F_Sources x_F_Sources) ∧ (SliceIs h 17 e_api_Addr vx_O_Sources x_O_Sources) ∧ (SliceIs h 17 e_api_Addr vx_L x_L) ∧ (SliceIs h 17 e_api_Addr v_7 l_8) ∧ (SliceIs h 17 e_api_Addr v_8 l_9) ∧ (Blk h b_1 (.cells (c_acequialaw19_One (.bool x_F_Exclude) vx_F_Sources (.bool x_O_Exclude) vx_O_Sources x_G x_A vx_L).toArray 29 (0, 0)))) (cs1 := fun (i : Fz × Bool × (List T_api_Addr) × Bool × (List T_api_Addr) × Nat × Value × Value) => match i with | (F', b_51, l_8, b_52, l_9, b_50, v_7, v_8) => [(15, fun h => (Blk h b_50 (.cells #[.bool false, .slice none 0 0] 24 (0, 0))))]) (fuel1 := 7) (listed1 := #[true, true, true, true, true, true, true, true, true, true, false, false, true, false, false, false, false, false]) (fun (i : Fz × Bool × (List T_api_Addr) × Bool × (List T_api_Addr) × Nat × Value × Value) f h => match i with | (F', b_51, l_8, b_52, l_9, b_50, v_7, v_8) => f 0 = .agg (c_acequialaw19_One (.bool x_F_Exclude) vx_F_Sources (.bool x_O_Exclude) vx_O_Sources x_G x_A vx_L).toArray ∧ f 1 = .pointer (some ⟨b_1, 0, none⟩) ∧ f 2 = .bool false ∧ f 4 = .pointer (some ⟨b_50, 0, none⟩) ∧ f 10 = .pointer (some ⟨b_1, 0, none⟩) ∧ f 11 = .agg #[.bool x_F_Exclude, vx_F_Sources] ∧ f 12 = .agg #[.bool b_51, v_7] ∧ f 13 = .pointer (some ⟨b_1, 2, none⟩) ∧ f 14 = .agg #[.bool x_O_Exclude, vx_O_Sources] ∧ f 15 = .agg #[.bool b_52, v_8] ∧ f 16 = .pointer (some ⟨b_1, 21, none⟩) ∧ f 17 = .agg (e_api_Addr x_A).toArray ∧ f 18 = .pointer (some ⟨b_1, 38, none⟩) ∧ f 19 = vx_L ∧ Kp F h0 F' h ∧ St F' (Ow.box b_50 24 #[.bool false, .slice none 0 0] :: Ow.box b_1 29 (c_acequialaw19_One (.bool x_F_Exclude) vx_F_Sources (.bool x_O_Exclude) vx_O_Sources x_G x_A vx_L).toArray :: fr) h ∧ (SliceF F' h 17 e_api_Addr vx_F_Sources x_F_Sources) ∧ (SliceF F' h 17 e_api_Addr vx_O_Sources x_O_Sources) ∧ (SliceF F' h 17 e_api_Addr vx_L x_L) ∧ (SliceF F' h 17 e_api_Addr v_7 l_8) ∧ (SliceF F' h 17 e_api_Addr v_8 l_9) ∧ law08_Addrs_W x_L 6 (fun r_20 => law19_MergeOne_j1 x_A Q b_51 l_8 b_52 l_9 r_20)) ?_ (fun N_14 => ?_)
    · rintro ⟨F_79, b_51, l_8, b_52, l_9, b_50, v_7, v_8⟩ f_42 h_167 ⟨e0, e1, e2, e4, e10, e11, e12, e13, e14, e15, e16, e17, e18, e19, hK, hS, hL_x_F_Sources, hL_x_O_Sources, hL_x_L, hL_19, hL_20, hM⟩
      refine HA.fr [(0, .agg (c_acequialaw19_One (.bool x_F_Exclude) vx_F_Sources (.bool x_O_Exclude) vx_O_Sources x_G x_A vx_L).toArray), (1, .pointer (some ⟨b_1, 0, none⟩)), (2, .bool false), (4, .pointer (some ⟨b_50, 0, none⟩)), (10, .pointer (some ⟨b_1, 0, none⟩)), (11, .agg #[.bool x_F_Exclude, vx_F_Sources]), (12, .agg #[.bool b_51, v_7]), (13, .pointer (some ⟨b_1, 2, none⟩)), (14, .agg #[.bool x_O_Exclude, vx_O_Sources]), (15, .agg #[.bool b_52, v_8]), (16, .pointer (some ⟨b_1, 21, none⟩)), (17, .agg (e_api_Addr x_A).toArray), (18, .pointer (some ⟨b_1, 38, none⟩)), (19, vx_L)] ⟨e0, e1, e2, e4, e10, e11, e12, e13, e14, e15, e16, e17, e18, e19, trivial⟩ ?_
      refine HA.three (k := 10) (k' := 11) (k'' := 13) ⟨⟨hL_x_F_Sources.is, hL_x_O_Sources.is, hL_x_L.is, hL_19.is, hL_20.is, (hS.box 1 rfl)⟩, (at_now (hS.box 0 rfl) (Go.Wk.at_nil _ _))⟩ (by kernel_rfl) ?_ ?_ ?_
      · refine HS.call rfl (want_none) rfl (ec en_25 rfl rfl) (law08_Addrs_walk (fr := (Ow.box b_50 24 #[.bool false, .slice none 0 0] :: Ow.box b_1 29 (c_acequialaw19_One (.bool x_F_Exclude) vx_F_Sources (.bool x_O_Exclude) vx_O_Sources x_G x_A vx_L).toArray :: fr)) x_L 6 vx_L hS hL_x_L hM) ?_
        rintro vr_20 h_168 ⟨F_80, r_21, _, rfl, hk, hS, _, hM⟩
        replace hK := hK.trans hk
        replace hL_x_F_Sources := hL_x_F_Sources.kp hk
        replace hL_x_O_Sources := hL_x_O_Sources.kp hk
        replace hL_x_L := hL_x_L.kp hk
        replace hL_19 := hL_19.kp hk
        replace hL_20 := hL_20.kp hk
        replace hS : St F_80 (Ow.box b_50 24 #[.bool false, .slice none 0 0] :: Ow.own 27 17 e_api_Addr vr_20 r_21 :: Ow.box b_1 29 (c_acequialaw19_One (.bool x_F_Exclude) vx_F_Sources (.bool x_O_Exclude) vx_O_Sources x_G x_A vx_L).toArray :: fr) h_168 := hS.perm2 [1, 0, 2] 3 rfl rfl
        exact Go.Wk.HA.via (N_7 (F_80, r_21, b_51, l_8, b_52, l_9, b_50, vr_20, v_7, v_8) _ _ ⟨rfl, rfl, rfl, rfl, rfl, rfl, rfl, rfl, rfl, rfl, rfl, rfl, rfl, rfl, rfl, hK, hS, hL_x_F_Sources, hL_x_O_Sources, hL_x_L, hL_19, hL_20, hM⟩) (fun L_ h_ hL_ ⟨hL_x_F_Sources, hL_x_O_Sources, hL_x_L, hL_19, hL_20, c266, c201⟩ hs_ => ⟨⟨hL_x_F_Sources, hL_x_O_Sources, hL_x_L, hL_19, hL_20, c201⟩, (at_keep 0 rfl hs_ (fun c278 => c278) (Go.Wk.at_nil _ _))⟩)
      · refine HS.eff rfl (want_none) rfl (st_alloc (c := #[.bool false, .slice none 0 0]) hS tz_24 rfl) ?_
        rintro _ h_169 ⟨b_164, rfl, hS, hk⟩
        replace hK := hK.trans hk
        replace hL_x_F_Sources := hL_x_F_Sources.kp hk
        replace hL_x_O_Sources := hL_x_O_Sources.kp hk
        replace hL_x_L := hL_x_L.kp hk
        replace hL_19 := hL_19.kp hk
        replace hL_20 := hL_20.kp hk
        replace hS : St F_79 (Ow.box b_50 24 #[.bool false, .slice none 0 0] :: Ow.box b_164 24 #[.bool false, .slice none 0 0] :: Ow.box b_1 29 (c_acequialaw19_One (.bool x_F_Exclude) vx_F_Sources (.bool x_O_Exclude) vx_O_Sources x_G x_A vx_L).toArray :: fr) h_169 := hS.perm2 [1, 0, 2] 3 rfl rfl
        exact Go.Wk.HA.via (N_9 (F_79, b_51, l_8, b_52, l_9, b_50, b_164, v_7, v_8) _ _ ⟨rfl, rfl, rfl, rfl, rfl, rfl, rfl, rfl, rfl, rfl, rfl, rfl, rfl, rfl, rfl, hK, hS, hL_x_F_Sources, hL_x_O_Sources, hL_x_L, hL_19, hL_20, hM⟩) (fun L_ h_ hL_ ⟨hL_x_F_Sources, hL_x_O_Sources, hL_x_L, hL_19, hL_20, c201⟩ hs_ => ⟨⟨hL_x_F_Sources, hL_x_O_Sources, hL_x_L, hL_19, hL_20, c201⟩, (at_keep 1 rfl hs_ (fun c278 => c278) (Go.Wk.at_nil _ _))⟩)
      · refine HS.eff rfl (want_none) rfl (st_alloc (c := (e_api_Addr (false, (default : Ba 16))).toArray) hS tz_27 rfl) ?_
        rintro _ h_170 ⟨b_165, rfl, hS, hk⟩
        replace hK := hK.trans hk
        replace hL_x_F_Sources := hL_x_F_Sources.kp hk
        replace hL_x_O_Sources := hL_x_O_Sources.kp hk
        replace hL_x_L := hL_x_L.kp hk
        replace hL_19 := hL_19.kp hk
        replace hL_20 := hL_20.kp hk
        exact Go.Wk.HA.via (N_11 (F_79, b_51, l_8, b_52, l_9, b_165, b_50, v_7, v_8) _ _ ⟨rfl, rfl, rfl, rfl, rfl, rfl, rfl, rfl, rfl, rfl, rfl, rfl, rfl, rfl, rfl, hK, hS, hL_x_F_Sources, hL_x_O_Sources, hL_x_L, hL_19, hL_20, hM⟩) (fun L_ h_ hL_ ⟨hL_x_F_Sources, hL_x_O_Sources, hL_x_L, hL_19, hL_20, c201⟩ hs_ => ⟨⟨hL_x_F_Sources, hL_x_O_Sources, hL_x_L, hL_19, hL_20, c201⟩, (at_keep 0 rfl hs_ (fun c278 => c278) (Go.Wk.at_nil _ _))⟩)
    refine HA.node (C1 := fun (i : Fz × Bool × (List T_api_Addr) × Bool × (List T_api_Addr) × Nat × Value × Value) => match i with | (F', b_56, l_10, b_57, l_11, b_55, v_9, v_10) => fun h => (SliceIs h 17 e_api_Addr vx_F_Sources x_F_Sources) ∧ (SliceIs h 17 e_api_Addr vx_O_Sources x_O_Sources) ∧ (SliceIs h 17 e_api_Addr vx_L x_L) ∧ (SliceIs h 17 e_api_Addr v_9 l_10) ∧ (SliceIs h 17 e_api_Addr v_10 l_11) ∧ (Blk h b_1 (.cells (c_acequialaw19_One (.bool x_F_Exclude) vx_F_Sources (.bool x_O_Exclude) vx_O_Sources x_G x_A vx_L).toArray 29 (0, 0)))) (cs1 := fun (i : Fz × Bool × (List T_api_Addr) × Bool × (List T_api_Addr) × Nat × Value × Value) => match i with | (F', b_56, l_10, b_57, l_11, b_55, v_9, v_10) => [(16, fun h => (Blk h b_55 (.cells (e_api_Addr (false, (default : Ba 16))).toArray 27 (0, 0))))]) (fuel1 := 7) (listed1 := #[true, true, true, true, true, true, true, true, true, true, false, false, false, true, false, false, false, false]) (fun (i : Fz × Bool × (List T_api_Addr) × Bool × (List T_api_Addr) × Nat × Value × Value) f h => match i with | (F', b_56, l_10, b_57, l_11, b_55, v_9, v_10) => f 0 = .agg (c_acequialaw19_One (.bool x_F_Exclude) vx_F_Sources (.bool x_O_Exclude) vx_O_Sources x_G x_A vx_L).toArray ∧ f 1 = .pointer (some ⟨b_1, 0, none⟩) ∧ f 2 = .bool false ∧ f 5 = .pointer (some ⟨b_55, 0, none⟩) ∧ f 10 = .pointer (some ⟨b_1, 0, none⟩) ∧ f 11 = .agg #[.bool x_F_Exclude, vx_F_Sources] ∧ f 12 = .agg #[.bool b_56, v_9] ∧ f 13 = .pointer (some ⟨b_1, 2, none⟩) ∧ f 14 = .agg #[.bool x_O_Exclude, vx_O_Sources] ∧ f 15 = .agg #[.bool b_57, v_10] ∧ f 16 = .pointer (some ⟨b_1, 21, none⟩) ∧ f 17 = .agg (e_api_Addr x_A).toArray ∧ f 18 = .pointer (some ⟨b_1, 38, none⟩) ∧ f 19 = vx_L ∧ Kp F h0 F' h ∧ St F' (Ow.box b_55 27 (e_api_Addr (false, (default : Ba 16))).toArray :: Ow.box b_1 29 (c_acequialaw19_One (.bool x_F_Exclude) vx_F_Sources (.bool x_O_Exclude) vx_O_Sources x_G x_A vx_L).toArray :: fr) h ∧ (SliceF F' h 17 e_api_Addr vx_F_Sources x_F_Sources) ∧ (SliceF F' h 17 e_api_Addr vx_O_Sources x_O_Sources) ∧ (SliceF F' h 17 e_api_Addr vx_L x_L) ∧ (SliceF F' h 17 e_api_Addr v_9 l_10) ∧ (SliceF F' h 17 e_api_Addr v_10 l_11) ∧ law08_Addrs_W x_L 6 (fun r_22 => law19_MergeOne_j1 x_A Q b_56 l_10 b_57 l_11 r_22)) ?_ (fun N_15 => ?_)
    · rintro ⟨F_84, b_56, l_10, b_57, l_11, b_55, v_9, v_10⟩ f_45 h_176 ⟨e0, e1, e2, e5, e10, e11, e12, e13, e14, e15, e16, e17, e18, e19, hK, hS, hL_x_F_Sources, hL_x_O_Sources, hL_x_L, hL_21, hL_22, hM⟩
      refine HA.fr [(0, .agg (c_acequialaw19_One (.bool x_F_Exclude) vx_F_Sources (.bool x_O_Exclude) vx_O_Sources x_G x_A vx_L).toArray), (1, .pointer (some ⟨b_1, 0, none⟩)), (2, .bool false), (5, .pointer (some ⟨b_55, 0, none⟩)), (10, .pointer (some ⟨b_1, 0, none⟩)), (11, .agg #[.bool x_F_Exclude, vx_F_Sources]), (12, .agg #[.bool b_56, v_9]), (13, .pointer (some ⟨b_1, 2, none⟩)), (14, .agg #[.bool x_O_Exclude, vx_O_Sources]), (15, .agg #[.bool b_57, v_10]), (16, .pointer (some ⟨b_1, 21, none⟩)), (17, .agg (e_api_Addr x_A).toArray), (18, .pointer (some ⟨b_1, 38, none⟩)), (19, vx_L)] ⟨e0, e1, e2, e5, e10, e11, e12, e13, e14, e15, e16, e17, e18, e19, trivial⟩ ?_
      refine HA.three (k := 10) (k' := 11) (k'' := 12) ⟨⟨hL_x_F_Sources.is, hL_x_O_Sources.is, hL_x_L.is, hL_21.is, hL_22.is, (hS.box 1 rfl)⟩, (at_now (hS.box 0 rfl) (Go.Wk.at_nil _ _))⟩ (by kernel_rfl) ?_ ?_ ?_
      · refine HS.call rfl (want_none) rfl (ec en_25 rfl rfl) (law08_Addrs_walk (fr := (Ow.box b_55 27 (e_api_Addr (false, (default : Ba 16))).toArray :: Ow.box b_1 29 (c_acequialaw19_One (.bool x_F_Exclude) vx_F_Sources (.bool x_O_Exclude) vx_O_Sources x_G x_A vx_L).toArray :: fr)) x_L 6 vx_L hS hL_x_L hM) ?_
        rintro vr_22 h_177 ⟨F_85, r_23, _, rfl, hk, hS, _, hM⟩
        replace hK := hK.trans hk
        replace hL_x_F_Sources := hL_x_F_Sources.kp hk
        replace hL_x_O_Sources := hL_x_O_Sources.kp hk
        replace hL_x_L := hL_x_L.kp hk
        replace hL_21 := hL_21.kp hk
        replace hL_22 := hL_22.kp hk
        replace hS : St F_85 (Ow.box b_55 27 (e_api_Addr (false, (default : Ba 16))).toArray :: Ow.own 27 17 e_api_Addr vr_22 r_23 :: Ow.box b_1 29 (c_acequialaw19_One (.bool x_F_Exclude) vx_F_Sources (.bool x_O_Exclude) vx_O_Sources x_G x_A vx_L).toArray :: fr) h_177 := hS.perm2 [1, 0, 2] 3 rfl rfl
        exact Go.Wk.HA.via (N_8 (F_85, r_23, b_56, l_10, b_57, l_11, b_55, vr_22, v_9, v_10) _ _ ⟨rfl, rfl, rfl, rfl, rfl, rfl, rfl, rfl, rfl, rfl, rfl, rfl, rfl, rfl, rfl, hK, hS, hL_x_F_Sources, hL_x_O_Sources, hL_x_L, hL_21, hL_22, hM⟩) (fun L_ h_ hL_ ⟨hL_x_F_Sources, hL_x_O_Sources, hL_x_L, hL_21, hL_22, c266, c201⟩ hs_ => ⟨⟨hL_x_F_Sources, hL_x_O_Sources, hL_x_L, hL_21, hL_22, c201⟩, (at_keep 0 rfl hs_ (fun c284 => c284) (Go.Wk.at_nil _ _))⟩)
      · refine HS.eff rfl (want_none) rfl (st_alloc (c := #[.bool false, .slice none 0 0]) hS tz_24 rfl) ?_
        rintro _ h_178 ⟨b_168, rfl, hS, hk⟩
        replace hK := hK.trans hk
        replace hL_x_F_Sources := hL_x_F_Sources.kp hk
        replace hL_x_O_Sources := hL_x_O_Sources.kp hk
        replace hL_x_L := hL_x_L.kp hk
        replace hL_21 := hL_21.kp hk
        replace hL_22 := hL_22.kp hk
        replace hS : St F_84 (Ow.box b_55 27 (e_api_Addr (false, (default : Ba 16))).toArray :: Ow.box b_168 24 #[.bool false, .slice none 0 0] :: Ow.box b_1 29 (c_acequialaw19_One (.bool x_F_Exclude) vx_F_Sources (.bool x_O_Exclude) vx_O_Sources x_G x_A vx_L).toArray :: fr) h_178 := hS.perm2 [1, 0, 2] 3 rfl rfl
        exact Go.Wk.HA.via (N_10 (F_84, b_56, l_10, b_57, l_11, b_55, b_168, v_9, v_10) _ _ ⟨rfl, rfl, rfl, rfl, rfl, rfl, rfl, rfl, rfl, rfl, rfl, rfl, rfl, rfl, rfl, hK, hS, hL_x_F_Sources, hL_x_O_Sources, hL_x_L, hL_21, hL_22, hM⟩) (fun L_ h_ hL_ ⟨hL_x_F_Sources, hL_x_O_Sources, hL_x_L, hL_21, hL_22, c201⟩ hs_ => ⟨⟨hL_x_F_Sources, hL_x_O_Sources, hL_x_L, hL_21, hL_22, c201⟩, (at_keep 1 rfl hs_ (fun c284 => c284) (Go.Wk.at_nil _ _))⟩)
      · refine HS.eff rfl (want_none) rfl (st_alloc (c := #[.bool false, .slice none 0 0]) hS tz_24 rfl) ?_
        rintro _ h_179 ⟨b_169, rfl, hS, hk⟩
        replace hK := hK.trans hk
        replace hL_x_F_Sources := hL_x_F_Sources.kp hk
        replace hL_x_O_Sources := hL_x_O_Sources.kp hk
        replace hL_x_L := hL_x_L.kp hk
        replace hL_21 := hL_21.kp hk
        replace hL_22 := hL_22.kp hk
        replace hS : St F_84 (Ow.box b_55 27 (e_api_Addr (false, (default : Ba 16))).toArray :: Ow.box b_169 24 #[.bool false, .slice none 0 0] :: Ow.box b_1 29 (c_acequialaw19_One (.bool x_F_Exclude) vx_F_Sources (.bool x_O_Exclude) vx_O_Sources x_G x_A vx_L).toArray :: fr) h_179 := hS.perm2 [1, 0, 2] 3 rfl rfl
        exact Go.Wk.HA.via (N_11 (F_84, b_56, l_10, b_57, l_11, b_55, b_169, v_9, v_10) _ _ ⟨rfl, rfl, rfl, rfl, rfl, rfl, rfl, rfl, rfl, rfl, rfl, rfl, rfl, rfl, rfl, hK, hS, hL_x_F_Sources, hL_x_O_Sources, hL_x_L, hL_21, hL_22, hM⟩) (fun L_ h_ hL_ ⟨hL_x_F_Sources, hL_x_O_Sources, hL_x_L, hL_21, hL_22, c201⟩ hs_ => ⟨⟨hL_x_F_Sources, hL_x_O_Sources, hL_x_L, hL_21, hL_22, c201⟩, (at_keep 1 rfl hs_ (fun c284 => c284) (Go.Wk.at_nil _ _))⟩)
    refine HA.node (C1 := fun (i : Fz × Bool × (List T_api_Addr) × Nat × Nat × Value) => match i with | (F', b_62, l_12, b_60, b_61, v_11) => fun h => (SliceIs h 17 e_api_Addr vx_F_Sources x_F_Sources) ∧ (SliceIs h 17 e_api_Addr vx_O_Sources x_O_Sources) ∧ (SliceIs h 17 e_api_Addr vx_L x_L) ∧ (SliceIs h 17 e_api_Addr v_11 l_12) ∧ (Blk h b_1 (.cells (c_acequialaw19_One (.bool x_F_Exclude) vx_F_Sources (.bool x_O_Exclude) vx_O_Sources x_G x_A vx_L).toArray 29 (0, 0)))) (cs1 := fun (i : Fz × Bool × (List T_api_Addr) × Nat × Nat × Value) => match i with | (F', b_62, l_12, b_60, b_61, v_11) => [(14, fun h => (Blk h b_61 (.cells #[.bool false, .slice none 0 0] 24 (0, 0)))), (15, fun h => (Blk h b_60 (.cells #[.bool false, .slice none 0 0] 24 (0, 0))))]) (fuel1 := 7) (listed1 := #[true, true, true, true, true, false, true, true, true, true, false, true, true, false, false, false, false, false]) (fun (i : Fz × Bool × (List T_api_Addr) × Nat × Nat × Value) f h => match i with | (F', b_62, l_12, b_60, b_61, v_11) => f 0 = .agg (c_acequialaw19_One (.bool x_F_Exclude) vx_F_Sources (.bool x_O_Exclude) vx_O_Sources x_G x_A vx_L).toArray ∧ f 1 = .pointer (some ⟨b_1, 0, none⟩) ∧ f 2 = .bool false ∧ f 3 = .pointer (some ⟨b_61, 0, none⟩) ∧ f 4 = .pointer (some ⟨b_60, 0, none⟩) ∧ f 10 = .pointer (some ⟨b_1, 0, none⟩) ∧ f 11 = .agg #[.bool x_F_Exclude, vx_F_Sources] ∧ f 12 = .agg #[.bool b_62, v_11] ∧ f 13 = .pointer (some ⟨b_1, 2, none⟩) ∧ f 14 = .agg #[.bool x_O_Exclude, vx_O_Sources] ∧ f 16 = .pointer (some ⟨b_1, 21, none⟩) ∧ f 17 = .agg (e_api_Addr x_A).toArray ∧ f 18 = .pointer (some ⟨b_1, 38, none⟩) ∧ f 19 = vx_L ∧ Kp F h0 F' h ∧ St F' (Ow.box b_60 24 #[.bool false, .slice none 0 0] :: Ow.box b_61 24 #[.bool false, .slice none 0 0] :: Ow.box b_1 29 (c_acequialaw19_One (.bool x_F_Exclude) vx_F_Sources (.bool x_O_Exclude) vx_O_Sources x_G x_A vx_L).toArray :: fr) h ∧ (SliceF F' h 17 e_api_Addr vx_F_Sources x_F_Sources) ∧ (SliceF F' h 17 e_api_Addr vx_O_Sources x_O_Sources) ∧ (SliceF F' h 17 e_api_Addr vx_L x_L) ∧ (SliceF F' h 17 e_api_Addr v_11 l_12) ∧ law19_Few_W x_O_Exclude x_O_Sources (fun r_0_19 r_1_19 => law08_Addrs_W x_L 6 (fun r_12 => law19_MergeOne_j1 x_A Q b_62 l_12 r_0_19 r_1_19 r_12))) ?_ (fun N_16 => ?_)
    · rintro ⟨F_89, b_62, l_12, b_60, b_61, v_11⟩ f_48 h_184 ⟨e0, e1, e2, e3, e4, e10, e11, e12, e13, e14, e16, e17, e18, e19, hK, hS, hL_x_F_Sources, hL_x_O_Sources, hL_x_L, hL_23, hM⟩
      refine HA.fr [(0, .agg (c_acequialaw19_One (.bool x_F_Exclude) vx_F_Sources (.bool x_O_Exclude) vx_O_Sources x_G x_A vx_L).toArray), (1, .pointer (some ⟨b_1, 0, none⟩)), (2, .bool false), (3, .pointer (some ⟨b_61, 0, none⟩)), (4, .pointer (some ⟨b_60, 0, none⟩)), (10, .pointer (some ⟨b_1, 0, none⟩)), (11, .agg #[.bool x_F_Exclude, vx_F_Sources]), (12, .agg #[.bool b_62, v_11]), (13, .pointer (some ⟨b_1, 2, none⟩)), (14, .agg #[.bool x_O_Exclude, vx_O_Sources]), (16, .pointer (some ⟨b_1, 21, none⟩)), (17, .agg (e_api_Addr x_A).toArray), (18, .pointer (some ⟨b_1, 38, none⟩)), (19, vx_L)] ⟨e0, e1, e2, e3, e4, e10, e11, e12, e13, e14, e16, e17, e18, e19, trivial⟩ ?_
      refine HA.two (k := 5) (k' := 13) ⟨⟨hL_x_F_Sources.is, hL_x_O_Sources.is, hL_x_L.is, hL_23.is, (hS.box 2 rfl)⟩, (at_now (hS.box 1 rfl) (at_now (hS.box 0 rfl) (Go.Wk.at_nil _ _)))⟩ (by kernel_rfl) ?_ ?_
      · refine HS.call rfl (want_none) rfl (ec en_9 rfl rfl) (law19_Few_walk (fr := (Ow.box b_60 24 #[.bool false, .slice none 0 0] :: Ow.box b_61 24 #[.bool false, .slice none 0 0] :: Ow.box b_1 29 (c_acequialaw19_One (.bool x_F_Exclude) vx_F_Sources (.bool x_O_Exclude) vx_O_Sources x_G x_A vx_L).toArray :: fr)) x_O_Exclude x_O_Sources vx_O_Sources hS hL_x_O_Sources hM) ?_
        rintro _ h_185 ⟨F_90, r_0_20, r_1_20, vr_1_20, rfl, hk, hS, _, hL_57, hM⟩
        replace hK := hK.trans hk
        replace hL_x_F_Sources := hL_x_F_Sources.kp hk
        replace hL_x_O_Sources := hL_x_O_Sources.kp hk
        replace hL_x_L := hL_x_L.kp hk
        replace hL_23 := hL_23.kp hk
        exact Go.Wk.HA.via (N_9 (F_90, b_62, l_12, r_0_20, r_1_20, b_60, b_61, v_11, vr_1_20) _ _ ⟨rfl, rfl, rfl, rfl, rfl, rfl, rfl, rfl, rfl, rfl, rfl, rfl, rfl, rfl, rfl, hK, hS, hL_x_F_Sources, hL_x_O_Sources, hL_x_L, hL_23, hL_57, hM⟩) (fun L_ h_ hL_ ⟨hL_x_F_Sources, hL_x_O_Sources, hL_x_L, hL_23, hL_57, c201⟩ hs_ => ⟨⟨hL_x_F_Sources, hL_x_O_Sources, hL_x_L, hL_23, c201⟩, (at_keep 0 rfl hs_ (fun c272 => c272) (at_keep 1 rfl hs_ (fun c278 => c278) (Go.Wk.at_nil _ _)))⟩)
      · refine HS.eff rfl (want_none) rfl (st_alloc (c := (e_api_Addr (false, (default : Ba 16))).toArray) hS tz_27 rfl) ?_
        rintro _ h_186 ⟨b_171, rfl, hS, hk⟩
        replace hK := hK.trans hk
        replace hL_x_F_Sources := hL_x_F_Sources.kp hk
        replace hL_x_O_Sources := hL_x_O_Sources.kp hk
        replace hL_x_L := hL_x_L.kp hk
        replace hL_23 := hL_23.kp hk
        exact Go.Wk.HA.via (N_12 (F_89, b_62, l_12, b_171, b_60, b_61, v_11) _ _ ⟨rfl, rfl, rfl, rfl, rfl, rfl, rfl, rfl, rfl, rfl, rfl, rfl, rfl, rfl, rfl, hK, hS, hL_x_F_Sources, hL_x_O_Sources, hL_x_L, hL_23, hM⟩) (fun L_ h_ hL_ ⟨hL_x_F_Sources, hL_x_O_Sources, hL_x_L, hL_23, c201⟩ hs_ => ⟨⟨hL_x_F_Sources, hL_x_O_Sources, hL_x_L, hL_23, c201⟩, (at_keep 0 rfl hs_ (fun c272 => c272) (at_keep 1 rfl hs_ (fun c278 => c278) (Go.Wk.at_nil _ _)))⟩)
    refine HA.node (C1 := fun (i : Fz × Bool × (List T_api_Addr) × Nat × Nat × Value) => match i with | (F', b_66, l_13, b_64, b_65, v_12) => fun h => (SliceIs h 17 e_api_Addr vx_F_Sources x_F_Sources) ∧ (SliceIs h 17 e_api_Addr vx_O_Sources x_O_Sources) ∧ (SliceIs h 17 e_api_Addr vx_L x_L) ∧ (SliceIs h 17 e_api_Addr v_12 l_13) ∧ (Blk h b_1 (.cells (c_acequialaw19_One (.bool x_F_Exclude) vx_F_Sources (.bool x_O_Exclude) vx_O_Sources x_G x_A vx_L).toArray 29 (0, 0)))) (cs1 := fun (i : Fz × Bool × (List T_api_Addr) × Nat × Nat × Value) => match i with | (F', b_66, l_13, b_64, b_65, v_12) => [(14, fun h => (Blk h b_65 (.cells #[.bool false, .slice none 0 0] 24 (0, 0)))), (16, fun h => (Blk h b_64 (.cells (e_api_Addr (false, (default : Ba 16))).toArray 27 (0, 0))))]) (fuel1 := 7) (listed1 := #[true, true, true, true, true, false, true, true, true, true, false, true, false, true, false, false, false, false]) (fun (i : Fz × Bool × (List T_api_Addr) × Nat × Nat × Value) f h => match i with | (F', b_66, l_13, b_64, b_65, v_12) => f 0 = .agg (c_acequialaw19_One (.bool x_F_Exclude) vx_F_Sources (.bool x_O_Exclude) vx_O_Sources x_G x_A vx_L).toArray ∧ f 1 = .pointer (some ⟨b_1, 0, none⟩) ∧ f 2 = .bool false ∧ f 3 = .pointer (some ⟨b_65, 0, none⟩) ∧ f 5 = .pointer (some ⟨b_64, 0, none⟩) ∧ f 10 = .pointer (some ⟨b_1, 0, none⟩) ∧ f 11 = .agg #[.bool x_F_Exclude, vx_F_Sources] ∧ f 12 = .agg #[.bool b_66, v_12] ∧ f 13 = .pointer (some ⟨b_1, 2, none⟩) ∧ f 14 = .agg #[.bool x_O_Exclude, vx_O_Sources] ∧ f 16 = .pointer (some ⟨b_1, 21, none⟩) ∧ f 17 = .agg (e_api_Addr x_A).toArray ∧ f 18 = .pointer (some ⟨b_1, 38, none⟩) ∧ f 19 = vx_L ∧ Kp F h0 F' h ∧ St F' (Ow.box b_64 27 (e_api_Addr (false, (default : Ba 16))).toArray :: Ow.box b_65 24 #[.bool false, .slice none 0 0] :: Ow.box b_1 29 (c_acequialaw19_One (.bool x_F_Exclude) vx_F_Sources (.bool x_O_Exclude) vx_O_Sources x_G x_A vx_L).toArray :: fr) h ∧ (SliceF F' h 17 e_api_Addr vx_F_Sources x_F_Sources) ∧ (SliceF F' h 17 e_api_Addr vx_O_Sources x_O_Sources) ∧ (SliceF F' h 17 e_api_Addr vx_L x_L) ∧ (SliceF F' h 17 e_api_Addr v_12 l_13) ∧ law19_Few_W x_O_Exclude x_O_Sources (fun r_0_21 r_1_21 => law08_Addrs_W x_L 6 (fun r_14 => law19_MergeOne_j1 x_A Q b_66 l_13 r_0_21 r_1_21 r_14))) ?_ (fun N_17 => ?_)
    · rintro ⟨F_94, b_66, l_13, b_64, b_65, v_12⟩ f_51 h_191 ⟨e0, e1, e2, e3, e5, e10, e11, e12, e13, e14, e16, e17, e18, e19, hK, hS, hL_x_F_Sources, hL_x_O_Sources, hL_x_L, hL_25, hM⟩
      refine HA.fr [(0, .agg (c_acequialaw19_One (.bool x_F_Exclude) vx_F_Sources (.bool x_O_Exclude) vx_O_Sources x_G x_A vx_L).toArray), (1, .pointer (some ⟨b_1, 0, none⟩)), (2, .bool false), (3, .pointer (some ⟨b_65, 0, none⟩)), (5, .pointer (some ⟨b_64, 0, none⟩)), (10, .pointer (some ⟨b_1, 0, none⟩)), (11, .agg #[.bool x_F_Exclude, vx_F_Sources]), (12, .agg #[.bool b_66, v_12]), (13, .pointer (some ⟨b_1, 2, none⟩)), (14, .agg #[.bool x_O_Exclude, vx_O_Sources]), (16, .pointer (some ⟨b_1, 21, none⟩)), (17, .agg (e_api_Addr x_A).toArray), (18, .pointer (some ⟨b_1, 38, none⟩)), (19, vx_L)] ⟨e0, e1, e2, e3, e5, e10, e11, e12, e13, e14, e16, e17, e18, e19, trivial⟩ ?_
      refine HA.two (k := 5) (k' := 12) ⟨⟨hL_x_F_Sources.is, hL_x_O_Sources.is, hL_x_L.is, hL_25.is, (hS.box 2 rfl)⟩, (at_now (hS.box 1 rfl) (at_now (hS.box 0 rfl) (Go.Wk.at_nil _ _)))⟩ (by kernel_rfl) ?_ ?_
      · refine HS.call rfl (want_none) rfl (ec en_9 rfl rfl) (law19_Few_walk (fr := (Ow.box b_64 27 (e_api_Addr (false, (default : Ba 16))).toArray :: Ow.box b_65 24 #[.bool false, .slice none 0 0] :: Ow.box b_1 29 (c_acequialaw19_One (.bool x_F_Exclude) vx_F_Sources (.bool x_O_Exclude) vx_O_Sources x_G x_A vx_L).toArray :: fr)) x_O_Exclude x_O_Sources vx_O_Sources hS hL_x_O_Sources hM) ?_
        rintro _ h_192 ⟨F_95, r_0_22, r_1_22, vr_1_22, rfl, hk, hS, _, hL_59, hM⟩
        replace hK := hK.trans hk
        replace hL_x_F_Sources := hL_x_F_Sources.kp hk
        replace hL_x_O_Sources := hL_x_O_Sources.kp hk
        replace hL_x_L := hL_x_L.kp hk
        replace hL_25 := hL_25.kp hk
        exact Go.Wk.HA.via (N_10 (F_95, b_66, l_13, r_0_22, r_1_22, b_64, b_65, v_12, vr_1_22) _ _ ⟨rfl, rfl, rfl, rfl, rfl, rfl, rfl, rfl, rfl, rfl, rfl, rfl, rfl, rfl, rfl, hK, hS, hL_x_F_Sources, hL_x_O_Sources, hL_x_L, hL_25, hL_59, hM⟩) (fun L_ h_ hL_ ⟨hL_x_F_Sources, hL_x_O_Sources, hL_x_L, hL_25, hL_59, c201⟩ hs_ => ⟨⟨hL_x_F_Sources, hL_x_O_Sources, hL_x_L, hL_25, c201⟩, (at_keep 0 rfl hs_ (fun c272 => c272) (at_keep 1 rfl hs_ (fun c284 => c284) (Go.Wk.at_nil _ _)))⟩)
      · refine HS.eff rfl (want_none) rfl (st_alloc (c := #[.bool false, .slice none 0 0]) hS tz_24 rfl) ?_
        rintro _ h_193 ⟨b_173, rfl, hS, hk⟩
        replace hK := hK.trans hk
        replace hL_x_F_Sources := hL_x_F_Sources.kp hk
        replace hL_x_O_Sources := hL_x_O_Sources.kp hk
        replace hL_x_L := hL_x_L.kp hk
        replace hL_25 := hL_25.kp hk
        replace hS : St F_94 (Ow.box b_64 27 (e_api_Addr (false, (default : Ba 16))).toArray :: Ow.box b_173 24 #[.bool false, .slice none 0 0] :: Ow.box b_65 24 #[.bool false, .slice none 0 0] :: Ow.box b_1 29 (c_acequialaw19_One (.bool x_F_Exclude) vx_F_Sources (.bool x_O_Exclude) vx_O_Sources x_G x_A vx_L).toArray :: fr) h_193 := hS.perm2 [1, 0, 2, 3] 4 rfl rfl
        exact Go.Wk.HA.via (N_12 (F_94, b_66, l_13, b_64, b_173, b_65, v_12) _ _ ⟨rfl, rfl, rfl, rfl, rfl, rfl, rfl, rfl, rfl, rfl, rfl, rfl, rfl, rfl, rfl, hK, hS, hL_x_F_Sources, hL_x_O_Sources, hL_x_L, hL_25, hM⟩) (fun L_ h_ hL_ ⟨hL_x_F_Sources, hL_x_O_Sources, hL_x_L, hL_25, c201⟩ hs_ => ⟨⟨hL_x_F_Sources, hL_x_O_Sources, hL_x_L, hL_25, c201⟩, (at_keep 0 rfl hs_ (fun c272 => c272) (at_keep 2 rfl hs_ (fun c284 => c284) (Go.Wk.at_nil _ _)))⟩)
    refine HA.node (C1 := fun (i : Fz × Bool × (List T_api_Addr) × Nat × Nat × Value) => match i with | (F', b_70, l_14, b_68, b_69, v_13) => fun h => (SliceIs h 17 e_api_Addr vx_F_Sources x_F_Sources) ∧ (SliceIs h 17 e_api_Addr vx_O_Sources x_O_Sources) ∧ (SliceIs h 17 e_api_Addr vx_L x_L) ∧ (SliceIs h 17 e_api_Addr v_13 l_14) ∧ (Blk h b_1 (.cells (c_acequialaw19_One (.bool x_F_Exclude) vx_F_Sources (.bool x_O_Exclude) vx_O_Sources x_G x_A vx_L).toArray 29 (0, 0)))) (cs1 := fun (i : Fz × Bool × (List T_api_Addr) × Nat × Nat × Value) => match i with | (F', b_70, l_14, b_68, b_69, v_13) => [(15, fun h => (Blk h b_69 (.cells #[.bool false, .slice none 0 0] 24 (0, 0)))), (16, fun h => (Blk h b_68 (.cells (e_api_Addr (false, (default : Ba 16))).toArray 27 (0, 0))))]) (fuel1 := 7) (listed1 := #[true, true, true, true, true, false, true, true, true, true, false, false, true, true, false, false, false, false]) (fun (i : Fz × Bool × (List T_api_Addr) × Nat × Nat × Value) f h => match i with | (F', b_70, l_14, b_68, b_69, v_13) => f 0 = .agg (c_acequialaw19_One (.bool x_F_Exclude) vx_F_Sources (.bool x_O_Exclude) vx_O_Sources x_G x_A vx_L).toArray ∧ f 1 = .pointer (some ⟨b_1, 0, none⟩) ∧ f 2 = .bool false ∧ f 4 = .pointer (some ⟨b_69, 0, none⟩) ∧ f 5 = .pointer (some ⟨b_68, 0, none⟩) ∧ f 10 = .pointer (some ⟨b_1, 0, none⟩) ∧ f 11 = .agg #[.bool x_F_Exclude, vx_F_Sources] ∧ f 12 = .agg #[.bool b_70, v_13] ∧ f 13 = .pointer (some ⟨b_1, 2, none⟩) ∧ f 14 = .agg #[.bool x_O_Exclude, vx_O_Sources] ∧ f 16 = .pointer (some ⟨b_1, 21, none⟩) ∧ f 17 = .agg (e_api_Addr x_A).toArray ∧ f 18 = .pointer (some ⟨b_1, 38, none⟩) ∧ f 19 = vx_L ∧ Kp F h0 F' h ∧ St F' (Ow.box b_68 27 (e_api_Addr (false, (default : Ba 16))).toArray :: Ow.box b_69 24 #[.bool false, .slice none 0 0] :: Ow.box b_1 29 (c_acequialaw19_One (.bool x_F_Exclude) vx_F_Sources (.bool x_O_Exclude) vx_O_Sources x_G x_A vx_L).toArray :: fr) h ∧ (SliceF F' h 17 e_api_Addr vx_F_Sources x_F_Sources) ∧ (SliceF F' h 17 e_api_Addr vx_O_Sources x_O_Sources) ∧ (SliceF F' h 17 e_api_Addr vx_L x_L) ∧ (SliceF F' h 17 e_api_Addr v_13 l_14) ∧ law19_Few_W x_O_Exclude x_O_Sources (fun r_0_23 r_1_23 => law08_Addrs_W x_L 6 (fun r_16 => law19_MergeOne_j1 x_A Q b_70 l_14 r_0_23 r_1_23 r_16))) ?_ (fun N_18 => ?_)
    · rintro ⟨F_99, b_70, l_14, b_68, b_69, v_13⟩ f_54 h_198 ⟨e0, e1, e2, e4, e5, e10, e11, e12, e13, e14, e16, e17, e18, e19, hK, hS, hL_x_F_Sources, hL_x_O_Sources, hL_x_L, hL_27, hM⟩
      refine HA.fr [(0, .agg (c_acequialaw19_One (.bool x_F_Exclude) vx_F_Sources (.bool x_O_Exclude) vx_O_Sources x_G x_A vx_L).toArray), (1, .pointer (some ⟨b_1, 0, none⟩)), (2, .bool false), (4, .pointer (some ⟨b_69, 0, none⟩)), (5, .pointer (some ⟨b_68, 0, none⟩)), (10, .pointer (some ⟨b_1, 0, none⟩)), (11, .agg #[.bool x_F_Exclude, vx_F_Sources]), (12, .agg #[.bool b_70, v_13]), (13, .pointer (some ⟨b_1, 2, none⟩)), (14, .agg #[.bool x_O_Exclude, vx_O_Sources]), (16, .pointer (some ⟨b_1, 21, none⟩)), (17, .agg (e_api_Addr x_A).toArray), (18, .pointer (some ⟨b_1, 38, none⟩)), (19, vx_L)] ⟨e0, e1, e2, e4, e5, e10, e11, e12, e13, e14, e16, e17, e18, e19, trivial⟩ ?_
      refine HA.two (k := 5) (k' := 11) ⟨⟨hL_x_F_Sources.is, hL_x_O_Sources.is, hL_x_L.is, hL_27.is, (hS.box 2 rfl)⟩, (at_now (hS.box 1 rfl) (at_now (hS.box 0 rfl) (Go.Wk.at_nil _ _)))⟩ (by kernel_rfl) ?_ ?_
      · refine HS.call rfl (want_none) rfl (ec en_9 rfl rfl) (law19_Few_walk (fr := (Ow.box b_68 27 (e_api_Addr (false, (default : Ba 16))).toArray :: Ow.box b_69 24 #[.bool false, .slice none 0 0] :: Ow.box b_1 29 (c_acequialaw19_One (.bool x_F_Exclude) vx_F_Sources (.bool x_O_Exclude) vx_O_Sources x_G x_A vx_L).toArray :: fr)) x_O_Exclude x_O_Sources vx_O_Sources hS hL_x_O_Sources hM) ?_
        rintro _ h_199 ⟨F_100, r_0_24, r_1_24, vr_1_24, rfl, hk, hS, _, hL_61, hM⟩
        replace hK := hK.trans hk
        replace hL_x_F_Sources := hL_x_F_Sources.kp hk
        replace hL_x_O_Sources := hL_x_O_Sources.kp hk
        replace hL_x_L := hL_x_L.kp hk
        replace hL_27 := hL_27.kp hk
        exact Go.Wk.HA.via (N_11 (F_100, b_70, l_14, r_0_24, r_1_24, b_68, b_69, v_13, vr_1_24) _ _ ⟨rfl, rfl, rfl, rfl, rfl, rfl, rfl, rfl, rfl, rfl, rfl, rfl, rfl, rfl, rfl, hK, hS, hL_x_F_Sources, hL_x_O_Sources, hL_x_L, hL_27, hL_61, hM⟩) (fun L_ h_ hL_ ⟨hL_x_F_Sources, hL_x_O_Sources, hL_x_L, hL_27, hL_61, c201⟩ hs_ => ⟨⟨hL_x_F_Sources, hL_x_O_Sources, hL_x_L, hL_27, c201⟩, (at_keep 0 rfl hs_ (fun c278 => c278) (at_keep 1 rfl hs_ (fun c284 => c284) (Go.Wk.at_nil _ _)))⟩)
      · refine HS.eff rfl (want_none) rfl (st_alloc (c := #[.bool false, .slice none 0 0]) hS tz_24 rfl) ?_
        rintro _ h_200 ⟨b_175, rfl, hS, hk⟩
        replace hK := hK.trans hk
        replace hL_x_F_Sources := hL_x_F_Sources.kp hk
        replace hL_x_O_Sources := hL_x_O_Sources.kp hk
        replace hL_x_L := hL_x_L.kp hk
        replace hL_27 := hL_27.kp hk
        replace hS : St F_99 (Ow.box b_68 27 (e_api_Addr (false, (default : Ba 16))).toArray :: Ow.box b_69 24 #[.bool false, .slice none 0 0] :: Ow.box b_175 24 #[.bool false, .slice none 0 0] :: Ow.box b_1 29 (c_acequialaw19_One (.bool x_F_Exclude) vx_F_Sources (.bool x_O_Exclude) vx_O_Sources x_G x_A vx_L).toArray :: fr) h_200 := hS.perm2 [1, 2, 0, 3] 4 rfl rfl
        exact Go.Wk.HA.via (N_12 (F_99, b_70, l_14, b_68, b_69, b_175, v_13) _ _ ⟨rfl, rfl, rfl, rfl, rfl, rfl, rfl, rfl, rfl, rfl, rfl, rfl, rfl, rfl, rfl, hK, hS, hL_x_F_Sources, hL_x_O_Sources, hL_x_L, hL_27, hM⟩) (fun L_ h_ hL_ ⟨hL_x_F_Sources, hL_x_O_Sources, hL_x_L, hL_27, c201⟩ hs_ => ⟨⟨hL_x_F_Sources, hL_x_O_Sources, hL_x_L, hL_27, c201⟩, (at_keep 1 rfl hs_ (fun c278 => c278) (at_keep 2 rfl hs_ (fun c284 => c284) (Go.Wk.at_nil _ _)))⟩)
    refine HA.node (C1 := fun (i : Fz × Nat × Nat × Nat) => match i with | (F', b_72, b_73, b_74) => fun h => (SliceIs h 17 e_api_Addr vx_F_Sources x_F_Sources) ∧ (SliceIs h 17 e_api_Addr vx_O_Sources x_O_Sources) ∧ (SliceIs h 17 e_api_Addr vx_L x_L) ∧ (Blk h b_1 (.cells (c_acequialaw19_One (.bool x_F_Exclude) vx_F_Sources (.bool x_O_Exclude) vx_O_Sources x_G x_A vx_L).toArray 29 (0, 0)))) (cs1 := fun (i : Fz × Nat × Nat × Nat) => match i with | (F', b_72, b_73, b_74) => [(14, fun h => (Blk h b_74 (.cells #[.bool false, .slice none 0 0] 24 (0, 0)))), (15, fun h => (Blk h b_73 (.cells #[.bool false, .slice none 0 0] 24 (0, 0)))), (16, fun h => (Blk h b_72 (.cells (e_api_Addr (false, (default : Ba 16))).toArray 27 (0, 0))))]) (fuel1 := 7) (listed1 := #[true, true, false, true, true, false, true, true, true, true, false, true, true, true, false, false, false, false]) (fun (i : Fz × Nat × Nat × Nat) f h => match i with | (F', b_72, b_73, b_74) => f 0 = .agg (c_acequialaw19_One (.bool x_F_Exclude) vx_F_Sources (.bool x_O_Exclude) vx_O_Sources x_G x_A vx_L).toArray ∧ f 1 = .pointer (some ⟨b_1, 0, none⟩) ∧ f 2 = .bool false ∧ f 3 = .pointer (some ⟨b_74, 0, none⟩) ∧ f 4 = .pointer (some ⟨b_73, 0, none⟩) ∧ f 5 = .pointer (some ⟨b_72, 0, none⟩) ∧ f 10 = .pointer (some ⟨b_1, 0, none⟩) ∧ f 11 = .agg #[.bool x_F_Exclude, vx_F_Sources] ∧ f 13 = .pointer (some ⟨b_1, 2, none⟩) ∧ f 14 = .agg #[.bool x_O_Exclude, vx_O_Sources] ∧ f 16 = .pointer (some ⟨b_1, 21, none⟩) ∧ f 17 = .agg (e_api_Addr x_A).toArray ∧ f 18 = .pointer (some ⟨b_1, 38, none⟩) ∧ f 19 = vx_L ∧ Kp F h0 F' h ∧ St F' (Ow.box b_72 27 (e_api_Addr (false, (default : Ba 16))).toArray :: Ow.box b_73 24 #[.bool false, .slice none 0 0] :: Ow.box b_74 24 #[.bool false, .slice none 0 0] :: Ow.box b_1 29 (c_acequialaw19_One (.bool x_F_Exclude) vx_F_Sources (.bool x_O_Exclude) vx_O_Sources x_G x_A vx_L).toArray :: fr) h ∧ (SliceF F' h 17 e_api_Addr vx_F_Sources x_F_Sources) ∧ (SliceF F' h 17 e_api_Addr vx_O_Sources x_O_Sources) ∧ (SliceF F' h 17 e_api_Addr vx_L x_L) ∧ law19_Few_W x_F_Exclude x_F_Sources (fun r_0_25 r_1_25 => law19_Few_W x_O_Exclude x_O_Sources (fun r_0_17 r_1_17 => law08_Addrs_W x_L 6 (fun r_10 => law19_MergeOne_j1 x_A Q r_0_25 r_1_25 r_0_17 r_1_17 r_10)))) ?_ (fun N_19 => ?_)
    · rintro ⟨F_104, b_72, b_73, b_74⟩ f_57 h_204 ⟨e0, e1, e2, e3, e4, e5, e10, e11, e13, e14, e16, e17, e18, e19, hK, hS, hL_x_F_Sources, hL_x_O_Sources, hL_x_L, hM⟩
      refine HA.fr [(0, .agg (c_acequialaw19_One (.bool x_F_Exclude) vx_F_Sources (.bool x_O_Exclude) vx_O_Sources x_G x_A vx_L).toArray), (1, .pointer (some ⟨b_1, 0, none⟩)), (2, .bool false), (3, .pointer (some ⟨b_74, 0, none⟩)), (4, .pointer (some ⟨b_73, 0, none⟩)), (5, .pointer (some ⟨b_72, 0, none⟩)), (10, .pointer (some ⟨b_1, 0, none⟩)), (11, .agg #[.bool x_F_Exclude, vx_F_Sources]), (13, .pointer (some ⟨b_1, 2, none⟩)), (14, .agg #[.bool x_O_Exclude, vx_O_Sources]), (16, .pointer (some ⟨b_1, 21, none⟩)), (17, .agg (e_api_Addr x_A).toArray), (18, .pointer (some ⟨b_1, 38, none⟩)), (19, vx_L)] ⟨e0, e1, e2, e3, e4, e5, e10, e11, e13, e14, e16, e17, e18, e19, trivial⟩ ?_
      refine HA.one (k := 2) ⟨⟨hL_x_F_Sources.is, hL_x_O_Sources.is, hL_x_L.is, (hS.box 3 rfl)⟩, (at_now (hS.box 2 rfl) (at_now (hS.box 1 rfl) (at_now (hS.box 0 rfl) (Go.Wk.at_nil _ _))))⟩ (by kernel_rfl) ?_
      refine HS.call rfl (want_none) rfl (ec en_9 rfl rfl) (law19_Few_walk (fr := (Ow.box b_72 27 (e_api_Addr (false, (default : Ba 16))).toArray :: Ow.box b_73 24 #[.bool false, .slice none 0 0] :: Ow.box b_74 24 #[.bool false, .slice none 0 0] :: Ow.box b_1 29 (c_acequialaw19_One (.bool x_F_Exclude) vx_F_Sources (.bool x_O_Exclude) vx_O_Sources x_G x_A vx_L).toArray :: fr)) x_F_Exclude x_F_Sources vx_F_Sources hS hL_x_F_Sources hM) ?_
      rintro _ h_205 ⟨F_105, r_0_26, r_1_26, vr_1_26, rfl, hk, hS, _, hL_63, hM⟩
      replace hK := hK.trans hk
      replace hL_x_F_Sources := hL_x_F_Sources.kp hk
      replace hL_x_O_Sources := hL_x_O_Sources.kp hk
      replace hL_x_L := hL_x_L.kp hk
      exact Go.Wk.HA.via (N_12 (F_105, r_0_26, r_1_26, b_72, b_73, b_74, vr_1_26) _ _ ⟨rfl, rfl, rfl, rfl, rfl, rfl, rfl, rfl, rfl, rfl, rfl, rfl, rfl, rfl, rfl, hK, hS, hL_x_F_Sources, hL_x_O_Sources, hL_x_L, hL_63, hM⟩) (fun L_ h_ hL_ ⟨hL_x_F_Sources, hL_x_O_Sources, hL_x_L, hL_63, c201⟩ hs_ => ⟨⟨hL_x_F_Sources, hL_x_O_Sources, hL_x_L, c201⟩, (at_keep 0 rfl hs_ (fun c272 => c272) (at_keep 1 rfl hs_ (fun c278 => c278) (at_keep 2 rfl hs_ (fun c284 => c284) (Go.Wk.at_nil _ _))))⟩)
    refine HA.node (C1 := fun (i : Fz × Bool × (List T_api_Addr) × Nat × Value) => match i with | (F', b_22, l_3, b_21, v_2) => fun h => (SliceIs h 17 e_api_Addr vx_F_Sources x_F_Sources) ∧ (SliceIs h 17 e_api_Addr vx_O_Sources x_O_Sources) ∧ (SliceIs h 17 e_api_Addr vx_L x_L) ∧ (SliceIs h 17 e_api_Addr v_2 l_3) ∧ (Blk h b_1 (.cells (c_acequialaw19_One (.bool x_F_Exclude) vx_F_Sources (.bool x_O_Exclude) vx_O_Sources x_G x_A vx_L).toArray 29 (0, 0)))) (cs1 := fun (i : Fz × Bool × (List T_api_Addr) × Nat × Value) => match i with | (F', b_22, l_3, b_21, v_2) => [(14, fun h => (Blk h b_21 (.cells #[.bool false, .slice none 0 0] 24 (0, 0))))]) (fuel1 := 8) (listed1 := #[true, true, true, true, true, false, true, true, true, true, false, true, false, false, false, false, false, false]) (fun (i : Fz × Bool × (List T_api_Addr) × Nat × Value) f h => match i with | (F', b_22, l_3, b_21, v_2) => f 0 = .agg (c_acequialaw19_One (.bool x_F_Exclude) vx_F_Sources (.bool x_O_Exclude) vx_O_Sources x_G x_A vx_L).toArray ∧ f 1 = .pointer (some ⟨b_1, 0, none⟩) ∧ f 2 = .bool false ∧ f 3 = .pointer (some ⟨b_21, 0, none⟩) ∧ f 10 = .pointer (some ⟨b_1, 0, none⟩) ∧ f 11 = .agg #[.bool x_F_Exclude, vx_F_Sources] ∧ f 12 = .agg #[.bool b_22, v_2] ∧ f 13 = .pointer (some ⟨b_1, 2, none⟩) ∧ f 14 = .agg #[.bool x_O_Exclude, vx_O_Sources] ∧ f 16 = .pointer (some ⟨b_1, 21, none⟩) ∧ f 17 = .agg (e_api_Addr x_A).toArray ∧ f 18 = .pointer (some ⟨b_1, 38, none⟩) ∧ f 19 = vx_L ∧ Kp F h0 F' h ∧ St F' (Ow.box b_21 24 #[.bool false, .slice none 0 0] :: Ow.box b_1 29 (c_acequialaw19_One (.bool x_F_Exclude) vx_F_Sources (.bool x_O_Exclude) vx_O_Sources x_G x_A vx_L).toArray :: fr) h ∧ (SliceF F' h 17 e_api_Addr vx_F_Sources x_F_Sources) ∧ (SliceF F' h 17 e_api_Addr vx_O_Sources x_O_Sources) ∧ (SliceF F' h 17 e_api_Addr vx_L x_L) ∧ (SliceF F' h 17 e_api_Addr v_2 l_3) ∧ law19_Few_W x_O_Exclude x_O_Sources (fun r_0_27 r_1_27 => law08_Addrs_W x_L 6 (fun r_18 => law19_MergeOne_j1 x_A Q b_22 l_3 r_0_27 r_1_27 r_18))) ?_ (fun N_20 => ?_)
    · rintro ⟨F_109, b_22, l_3, b_21, v_2⟩ f_60 h_211 ⟨e0, e1, e2, e3, e10, e11, e12, e13, e14, e16, e17, e18, e19, hK, hS, hL_x_F_Sources, hL_x_O_Sources, hL_x_L, hL_8, hM⟩
      refine HA.fr [(0, .agg (c_acequialaw19_One (.bool x_F_Exclude) vx_F_Sources (.bool x_O_Exclude) vx_O_Sources x_G x_A vx_L).toArray), (1, .pointer (some ⟨b_1, 0, none⟩)), (2, .bool false), (3, .pointer (some ⟨b_21, 0, none⟩)), (10, .pointer (some ⟨b_1, 0, none⟩)), (11, .agg #[.bool x_F_Exclude, vx_F_Sources]), (12, .agg #[.bool b_22, v_2]), (13, .pointer (some ⟨b_1, 2, none⟩)), (14, .agg #[.bool x_O_Exclude, vx_O_Sources]), (16, .pointer (some ⟨b_1, 21, none⟩)), (17, .agg (e_api_Addr x_A).toArray), (18, .pointer (some ⟨b_1, 38, none⟩)), (19, vx_L)] ⟨e0, e1, e2, e3, e10, e11, e12, e13, e14, e16, e17, e18, e19, trivial⟩ ?_
      refine HA.three (k := 5) (k' := 12) (k'' := 13) ⟨⟨hL_x_F_Sources.is, hL_x_O_Sources.is, hL_x_L.is, hL_8.is, (hS.box 1 rfl)⟩, (at_now (hS.box 0 rfl) (Go.Wk.at_nil _ _))⟩ (by kernel_rfl) ?_ ?_ ?_
      · refine HS.call rfl (want_none) rfl (ec en_9 rfl rfl) (law19_Few_walk (fr := (Ow.box b_21 24 #[.bool false, .slice none 0 0] :: Ow.box b_1 29 (c_acequialaw19_One (.bool x_F_Exclude) vx_F_Sources (.bool x_O_Exclude) vx_O_Sources x_G x_A vx_L).toArray :: fr)) x_O_Exclude x_O_Sources vx_O_Sources hS hL_x_O_Sources hM) ?_
        rintro _ h_212 ⟨F_110, r_0_28, r_1_28, vr_1_28, rfl, hk, hS, _, hL_65, hM⟩
        replace hK := hK.trans hk
        replace hL_x_F_Sources := hL_x_F_Sources.kp hk
        replace hL_x_O_Sources := hL_x_O_Sources.kp hk
        replace hL_x_L := hL_x_L.kp hk
        replace hL_8 := hL_8.kp hk
        exact Go.Wk.HA.via (N_13 (F_110, b_22, l_3, r_0_28, r_1_28, b_21, v_2, vr_1_28) _ _ ⟨rfl, rfl, rfl, rfl, rfl, rfl, rfl, rfl, rfl, rfl, rfl, rfl, rfl, rfl, hK, hS, hL_x_F_Sources, hL_x_O_Sources, hL_x_L, hL_8, hL_65, hM⟩) (fun L_ h_ hL_ ⟨hL_x_F_Sources, hL_x_O_Sources, hL_x_L, hL_8, hL_65, c201⟩ hs_ => ⟨⟨hL_x_F_Sources, hL_x_O_Sources, hL_x_L, hL_8, c201⟩, (at_keep 0 rfl hs_ (fun c272 => c272) (Go.Wk.at_nil _ _))⟩)
      · refine HS.eff rfl (want_none) rfl (st_alloc (c := #[.bool false, .slice none 0 0]) hS tz_24 rfl) ?_
        rintro _ h_213 ⟨b_178, rfl, hS, hk⟩
        replace hK := hK.trans hk
        replace hL_x_F_Sources := hL_x_F_Sources.kp hk
        replace hL_x_O_Sources := hL_x_O_Sources.kp hk
        replace hL_x_L := hL_x_L.kp hk
        replace hL_8 := hL_8.kp hk
        exact Go.Wk.HA.via (N_16 (F_109, b_22, l_3, b_178, b_21, v_2) _ _ ⟨rfl, rfl, rfl, rfl, rfl, rfl, rfl, rfl, rfl, rfl, rfl, rfl, rfl, rfl, hK, hS, hL_x_F_Sources, hL_x_O_Sources, hL_x_L, hL_8, hM⟩) (fun L_ h_ hL_ ⟨hL_x_F_Sources, hL_x_O_Sources, hL_x_L, hL_8, c201⟩ hs_ => ⟨⟨hL_x_F_Sources, hL_x_O_Sources, hL_x_L, hL_8, c201⟩, (at_keep 0 rfl hs_ (fun c272 => c272) (Go.Wk.at_nil _ _))⟩)
      · refine HS.eff rfl (want_none) rfl (st_alloc (c := (e_api_Addr (false, (default : Ba 16))).toArray) hS tz_27 rfl) ?_
        rintro _ h_214 ⟨b_179, rfl, hS, hk⟩
        replace hK := hK.trans hk
        replace hL_x_F_Sources := hL_x_F_Sources.kp hk
        replace hL_x_O_Sources := hL_x_O_Sources.kp hk
        replace hL_x_L := hL_x_L.kp hk
        replace hL_8 := hL_8.kp hk
        exact Go.Wk.HA.via (N_17 (F_109, b_22, l_3, b_179, b_21, v_2) _ _ ⟨rfl, rfl, rfl, rfl, rfl, rfl, rfl, rfl, rfl, rfl, rfl, rfl, rfl, rfl, hK, hS, hL_x_F_Sources, hL_x_O_Sources, hL_x_L, hL_8, hM⟩) (fun L_ h_ hL_ ⟨hL_x_F_Sources, hL_x_O_Sources, hL_x_L, hL_8, c201⟩ hs_ => ⟨⟨hL_x_F_Sources, hL_x_O_Sources, hL_x_L, hL_8, c201⟩, (at_keep 0 rfl hs_ (fun c272 => c272) (Go.Wk.at_nil _ _))⟩)
    refine HA.node (C1 := fun (i : Fz × Bool × (List T_api_Addr) × Nat × Value) => match i with | (F', b_26, l_4, b_25, v_3) => fun h => (SliceIs h 17 e_api_Addr vx_F_Sources x_F_Sources) ∧ (SliceIs h 17 e_api_Addr vx_O_Sources x_O_Sources) ∧ (SliceIs h 17 e_api_Addr vx_L x_L) ∧ (SliceIs h 17 e_api_Addr v_3 l_4) ∧ (Blk h b_1 (.cells (c_acequialaw19_One (.bool x_F_Exclude) vx_F_Sources (.bool x_O_Exclude) vx_O_Sources x_G x_A vx_L).toArray 29 (0, 0)))) (cs1 := fun (i : Fz × Bool × (List T_api_Addr) × Nat × Value) => match i with | (F', b_26, l_4, b_25, v_3) => [(15, fun h => (Blk h b_25 (.cells #[.bool false, .slice none 0 0] 24 (0, 0))))]) (fuel1 := 8) (listed1 := #[true, true, true, true, true, false, true, true, true, true, false, false, true, false, false, false, false, false]) (fun (i : Fz × Bool × (List T_api_Addr) × Nat × Value) f h => match i with | (F', b_26, l_4, b_25, v_3) => f 0 = .agg (c_acequialaw19_One (.bool x_F_Exclude) vx_F_Sources (.bool x_O_Exclude) vx_O_Sources x_G x_A vx_L).toArray ∧ f 1 = .pointer (some ⟨b_1, 0, none⟩) ∧ f 2 = .bool false ∧ f 4 = .pointer (some ⟨b_25, 0, none⟩) ∧ f 10 = .pointer (some ⟨b_1, 0, none⟩) ∧ f 11 = .agg #[.bool x_F_Exclude, vx_F_Sources] ∧ f 12 = .agg #[.bool b_26, v_3] ∧ f 13 = .pointer (some ⟨b_1, 2, none⟩) ∧ f 14 = .agg #[.bool x_O_Exclude, vx_O_Sources] ∧ f 16 = .pointer (some ⟨b_1, 21, none⟩) ∧ f 17 = .agg (e_api_Addr x_A).toArray ∧ f 18 = .pointer (some ⟨b_1, 38, none⟩) ∧ f 19 = vx_L ∧ Kp F h0 F' h ∧ St F' (Ow.box b_25 24 #[.bool false, .slice none 0 0] :: Ow.box b_1 29 (c_acequialaw19_One (.bool x_F_Exclude) vx_F_Sources (.bool x_O_Exclude) vx_O_Sources x_G x_A vx_L).toArray :: fr) h ∧ (SliceF F' h 17 e_api_Addr vx_F_Sources x_F_Sources) ∧ (SliceF F' h 17 e_api_Addr vx_O_Sources x_O_Sources) ∧ (SliceF F' h 17 e_api_Addr vx_L x_L) ∧ (SliceF F' h 17 e_api_Addr v_3 l_4) ∧ law19_Few_W x_O_Exclude x_O_Sources (fun r_0_29 r_1_29 => law08_Addrs_W x_L 6 (fun r_20 => law19_MergeOne_j1 x_A Q b_26 l_4 r_0_29 r_1_29 r_20))) ?_ (fun N_21 => ?_)
    · rintro ⟨F_114, b_26, l_4, b_25, v_3⟩ f_63 h_220 ⟨e0, e1, e2, e4, e10, e11, e12, e13, e14, e16, e17, e18, e19, hK, hS, hL_x_F_Sources, hL_x_O_Sources, hL_x_L, hL_10, hM⟩
      refine HA.fr [(0, .agg (c_acequialaw19_One (.bool x_F_Exclude) vx_F_Sources (.bool x_O_Exclude) vx_O_Sources x_G x_A vx_L).toArray), (1, .pointer (some ⟨b_1, 0, none⟩)), (2, .bool false), (4, .pointer (some ⟨b_25, 0, none⟩)), (10, .pointer (some ⟨b_1, 0, none⟩)), (11, .agg #[.bool x_F_Exclude, vx_F_Sources]), (12, .agg #[.bool b_26, v_3]), (13, .pointer (some ⟨b_1, 2, none⟩)), (14, .agg #[.bool x_O_Exclude, vx_O_Sources]), (16, .pointer (some ⟨b_1, 21, none⟩)), (17, .agg (e_api_Addr x_A).toArray), (18, .pointer (some ⟨b_1, 38, none⟩)), (19, vx_L)] ⟨e0, e1, e2, e4, e10, e11, e12, e13, e14, e16, e17, e18, e19, trivial⟩ ?_
      refine HA.three (k := 5) (k' := 11) (k'' := 13) ⟨⟨hL_x_F_Sources.is, hL_x_O_Sources.is, hL_x_L.is, hL_10.is, (hS.box 1 rfl)⟩, (at_now (hS.box 0 rfl) (Go.Wk.at_nil _ _))⟩ (by kernel_rfl) ?_ ?_ ?_
      · refine HS.call rfl (want_none) rfl (ec en_9 rfl rfl) (law19_Few_walk (fr := (Ow.box b_25 24 #[.bool false, .slice none 0 0] :: Ow.box b_1 29 (c_acequialaw19_One (.bool x_F_Exclude) vx_F_Sources (.bool x_O_Exclude) vx_O_Sources x_G x_A vx_L).toArray :: fr)) x_O_Exclude x_O_Sources vx_O_Sources hS hL_x_O_Sources hM) ?_
        rintro _ h_221 ⟨F_115, r_0_30, r_1_30, vr_1_30, rfl, hk, hS, _, hL_67, hM⟩
        replace hK := hK.trans hk
        replace hL_x_F_Sources := hL_x_F_Sources.kp hk
        replace hL_x_O_Sources := hL_x_O_Sources.kp hk
        replace hL_x_L := hL_x_L.kp hk
        replace hL_10 := hL_10.kp hk
        exact Go.Wk.HA.via (N_14 (F_115, b_26, l_4, r_0_30, r_1_30, b_25, v_3, vr_1_30) _ _ ⟨rfl, rfl, rfl, rfl, rfl, rfl, rfl, rfl, rfl, rfl, rfl, rfl, rfl, rfl, hK, hS, hL_x_F_Sources, hL_x_O_Sources, hL_x_L, hL_10, hL_67, hM⟩) (fun L_ h_ hL_ ⟨hL_x_F_Sources, hL_x_O_Sources, hL_x_L, hL_10, hL_67, c201⟩ hs_ => ⟨⟨hL_x_F_Sources, hL_x_O_Sources, hL_x_L, hL_10, c201⟩, (at_keep 0 rfl hs_ (fun c278 => c278) (Go.Wk.at_nil _ _))⟩)
      · refine HS.eff rfl (want_none) rfl (st_alloc (c := #[.bool false, .slice none 0 0]) hS tz_24 rfl) ?_
        rintro _ h_222 ⟨b_182, rfl, hS, hk⟩
        replace hK := hK.trans hk
        replace hL_x_F_Sources := hL_x_F_Sources.kp hk
        replace hL_x_O_Sources := hL_x_O_Sources.kp hk
        replace hL_x_L := hL_x_L.kp hk
        replace hL_10 := hL_10.kp hk
        replace hS : St F_114 (Ow.box b_25 24 #[.bool false, .slice none 0 0] :: Ow.box b_182 24 #[.bool false, .slice none 0 0] :: Ow.box b_1 29 (c_acequialaw19_One (.bool x_F_Exclude) vx_F_Sources (.bool x_O_Exclude) vx_O_Sources x_G x_A vx_L).toArray :: fr) h_222 := hS.perm2 [1, 0, 2] 3 rfl rfl
        exact Go.Wk.HA.via (N_16 (F_114, b_26, l_4, b_25, b_182, v_3) _ _ ⟨rfl, rfl, rfl, rfl, rfl, rfl, rfl, rfl, rfl, rfl, rfl, rfl, rfl, rfl, hK, hS, hL_x_F_Sources, hL_x_O_Sources, hL_x_L, hL_10, hM⟩) (fun L_ h_ hL_ ⟨hL_x_F_Sources, hL_x_O_Sources, hL_x_L, hL_10, c201⟩ hs_ => ⟨⟨hL_x_F_Sources, hL_x_O_Sources, hL_x_L, hL_10, c201⟩, (at_keep 1 rfl hs_ (fun c278 => c278) (Go.Wk.at_nil _ _))⟩)
      · refine HS.eff rfl (want_none) rfl (st_alloc (c := (e_api_Addr (false, (default : Ba 16))).toArray) hS tz_27 rfl) ?_
        rintro _ h_223 ⟨b_183, rfl, hS, hk⟩
        replace hK := hK.trans hk
        replace hL_x_F_Sources := hL_x_F_Sources.kp hk
        replace hL_x_O_Sources := hL_x_O_Sources.kp hk
        replace hL_x_L := hL_x_L.kp hk
        replace hL_10 := hL_10.kp hk
        exact Go.Wk.HA.via (N_18 (F_114, b_26, l_4, b_183, b_25, v_3) _ _ ⟨rfl, rfl, rfl, rfl, rfl, rfl, rfl, rfl, rfl, rfl, rfl, rfl, rfl, rfl, hK, hS, hL_x_F_Sources, hL_x_O_Sources, hL_x_L, hL_10, hM⟩) (fun L_ h_ hL_ ⟨hL_x_F_Sources, hL_x_O_Sources, hL_x_L, hL_10, c201⟩ hs_ => ⟨⟨hL_x_F_Sources, hL_x_O_Sources, hL_x_L, hL_10, c201⟩, (at_keep 0 rfl hs_ (fun c278 => c278) (Go.Wk.at_nil _ _))⟩)
    refine HA.node (C1 := fun (i : Fz × Bool × (List T_api_Addr) × Nat × Value) => match i with | (F', b_30, l_5, b_29, v_4) => fun h => (SliceIs h 17 e_api_Addr vx_F_Sources x_F_Sources) ∧ (SliceIs h 17 e_api_Addr vx_O_Sources x_O_Sources) ∧ (SliceIs h 17 e_api_Addr vx_L x_L) ∧ (SliceIs h 17 e_api_Addr v_4 l_5) ∧ (Blk h b_1 (.cells (c_acequialaw19_One (.bool x_F_Exclude) vx_F_Sources (.bool x_O_Exclude) vx_O_Sources x_G x_A vx_L).toArray 29 (0, 0)))) (cs1 := fun (i : Fz × Bool × (List T_api_Addr) × Nat × Value) => match i with | (F', b_30, l_5, b_29, v_4) => [(16, fun h => (Blk h b_29 (.cells (e_api_Addr (false, (default : Ba 16))).toArray 27 (0, 0))))]) (fuel1 := 8) (listed1 := #[true, true, true, true, true, false, true, true, true, true, false, false, false, true, false, false, false, false]) (fun (i : Fz × Bool × (List T_api_Addr) × Nat × Value) f h => match i with | (F', b_30, l_5, b_29, v_4) => f 0 = .agg (c_acequialaw19_One (.bool x_F_Exclude) vx_F_Sources (.bool x_O_Exclude) vx_O_Sources x_G x_A vx_L).toArray ∧ f 1 = .pointer (some ⟨b_1, 0, none⟩) ∧ f 2 = .bool false ∧ f 5 = .pointer (some ⟨b_29, 0, none⟩) ∧ f 10 = .pointer (some ⟨b_1, 0, none⟩) ∧ f 11 = .agg #[.bool x_F_Exclude, vx_F_Sources] ∧ f 12 = .agg #[.bool b_30, v_4] ∧ f 13 = .pointer (some ⟨b_1, 2, none⟩) ∧ f 14 = .agg #[.bool x_O_Exclude, vx_O_Sources] ∧ f 16 = .pointer (some ⟨b_1, 21, none⟩) ∧ f 17 = .agg (e_api_Addr x_A).toArray ∧ f 18 = .pointer (some ⟨b_1, 38, none⟩) ∧ f 19 = vx_L ∧ Kp F h0 F' h ∧ St F' (Ow.box b_29 27 (e_api_Addr (false, (default : Ba 16))).toArray :: Ow.box b_1 29 (c_acequialaw19_One (.bool x_F_Exclude) vx_F_Sources (.bool x_O_Exclude) vx_O_Sources x_G x_A vx_L).toArray :: fr) h ∧ (SliceF F' h 17 e_api_Addr vx_F_Sources x_F_Sources) ∧ (SliceF F' h 17 e_api_Addr vx_O_Sources x_O_Sources) ∧ (SliceF F' h 17 e_api_Addr vx_L x_L) ∧ (SliceF F' h 17 e_api_Addr v_4 l_5) ∧ law19_Few_W x_O_Exclude x_O_Sources (fun r_0_31 r_1_31 => law08_Addrs_W x_L 6 (fun r_22 => law19_MergeOne_j1 x_A Q b_30 l_5 r_0_31 r_1_31 r_22))) ?_ (fun N_22 => ?_)
    · rintro ⟨F_119, b_30, l_5, b_29, v_4⟩ f_66 h_229 ⟨e0, e1, e2, e5, e10, e11, e12, e13, e14, e16, e17, e18, e19, hK, hS, hL_x_F_Sources, hL_x_O_Sources, hL_x_L, hL_12, hM⟩
      refine HA.fr [(0, .agg (c_acequialaw19_One (.bool x_F_Exclude) vx_F_Sources (.bool x_O_Exclude) vx_O_Sources x_G x_A vx_L).toArray), (1, .pointer (some ⟨b_1, 0, none⟩)), (2, .bool false), (5, .pointer (some ⟨b_29, 0, none⟩)), (10, .pointer (some ⟨b_1, 0, none⟩)), (11, .agg #[.bool x_F_Exclude, vx_F_Sources]), (12, .agg #[.bool b_30, v_4]), (13, .pointer (some ⟨b_1, 2, none⟩)), (14, .agg #[.bool x_O_Exclude, vx_O_Sources]), (16, .pointer (some ⟨b_1, 21, none⟩)), (17, .agg (e_api_Addr x_A).toArray), (18, .pointer (some ⟨b_1, 38, none⟩)), (19, vx_L)] ⟨e0, e1, e2, e5, e10, e11, e12, e13, e14, e16, e17, e18, e19, trivial⟩ ?_
      refine HA.three (k := 5) (k' := 11) (k'' := 12) ⟨⟨hL_x_F_Sources.is, hL_x_O_Sources.is, hL_x_L.is, hL_12.is, (hS.box 1 rfl)⟩, (at_now (hS.box 0 rfl) (Go.Wk.at_nil _ _))⟩ (by kernel_rfl) ?_ ?_ ?_
      · refine HS.call rfl (want_none) rfl (ec en_9 rfl rfl) (law19_Few_walk (fr := (Ow.box b_29 27 (e_api_Addr (false, (default : Ba 16))).toArray :: Ow.box b_1 29 (c_acequialaw19_One (.bool x_F_Exclude) vx_F_Sources (.bool x_O_Exclude) vx_O_Sources x_G x_A vx_L).toArray :: fr)) x_O_Exclude x_O_Sources vx_O_Sources hS hL_x_O_Sources hM) ?_
        rintro _ h_230 ⟨F_120, r_0_32, r_1_32, vr_1_32, rfl, hk, hS, _, hL_69, hM⟩
        replace hK := hK.trans hk
        replace hL_x_F_Sources := hL_x_F_Sources.kp hk
        replace hL_x_O_Sources := hL_x_O_Sources.kp hk
        replace hL_x_L := hL_x_L.kp hk
        replace hL_12 := hL_12.kp hk
        exact Go.Wk.HA.via (N_15 (F_120, b_30, l_5, r_0_32, r_1_32, b_29, v_4, vr_1_32) _ _ ⟨rfl, rfl, rfl, rfl, rfl, rfl, rfl, rfl, rfl, rfl, rfl, rfl, rfl, rfl, hK, hS, hL_x_F_Sources, hL_x_O_Sources, hL_x_L, hL_12, hL_69, hM⟩) (fun L_ h_ hL_ ⟨hL_x_F_Sources, hL_x_O_Sources, hL_x_L, hL_12, hL_69, c201⟩ hs_ => ⟨⟨hL_x_F_Sources, hL_x_O_Sources, hL_x_L, hL_12, c201⟩, (at_keep 0 rfl hs_ (fun c284 => c284) (Go.Wk.at_nil _ _))⟩)
      · refine HS.eff rfl (want_none) rfl (st_alloc (c := #[.bool false, .slice none 0 0]) hS tz_24 rfl) ?_
        rintro _ h_231 ⟨b_186, rfl, hS, hk⟩
        replace hK := hK.trans hk
        replace hL_x_F_Sources := hL_x_F_Sources.kp hk
        replace hL_x_O_Sources := hL_x_O_Sources.kp hk
        replace hL_x_L := hL_x_L.kp hk
        replace hL_12 := hL_12.kp hk
        replace hS : St F_119 (Ow.box b_29 27 (e_api_Addr (false, (default : Ba 16))).toArray :: Ow.box b_186 24 #[.bool false, .slice none 0 0] :: Ow.box b_1 29 (c_acequialaw19_One (.bool x_F_Exclude) vx_F_Sources (.bool x_O_Exclude) vx_O_Sources x_G x_A vx_L).toArray :: fr) h_231 := hS.perm2 [1, 0, 2] 3 rfl rfl
        exact Go.Wk.HA.via (N_17 (F_119, b_30, l_5, b_29, b_186, v_4) _ _ ⟨rfl, rfl, rfl, rfl, rfl, rfl, rfl, rfl, rfl, rfl, rfl, rfl, rfl, rfl, hK, hS, hL_x_F_Sources, hL_x_O_Sources, hL_x_L, hL_12, hM⟩) (fun L_ h_ hL_ ⟨hL_x_F_Sources, hL_x_O_Sources, hL_x_L, hL_12, c201⟩ hs_ => ⟨⟨hL_x_F_Sources, hL_x_O_Sources, hL_x_L, hL_12, c201⟩, (at_keep 1 rfl hs_ (fun c284 => c284) (Go.Wk.at_nil _ _))⟩)
      · refine HS.eff rfl (want_none) rfl (st_alloc (c := #[.bool false, .slice none 0 0]) hS tz_24 rfl) ?_
        rintro _ h_232 ⟨b_187, rfl, hS, hk⟩
        replace hK := hK.trans hk
        replace hL_x_F_Sources := hL_x_F_Sources.kp hk
        replace hL_x_O_Sources := hL_x_O_Sources.kp hk
        replace hL_x_L := hL_x_L.kp hk
        replace hL_12 := hL_12.kp hk
        replace hS : St F_119 (Ow.box b_29 27 (e_api_Addr (false, (default : Ba 16))).toArray :: Ow.box b_187 24 #[.bool false, .slice none 0 0] :: Ow.box b_1 29 (c_acequialaw19_One (.bool x_F_Exclude) vx_F_Sources (.bool x_O_Exclude) vx_O_Sources x_G x_A vx_L).toArray :: fr) h_232 := hS.perm2 [1, 0, 2] 3 rfl rfl
        exact Go.Wk.HA.via (N_18 (F_119, b_30, l_5, b_29, b_187, v_4) _ _ ⟨rfl, rfl, rfl, rfl, rfl, rfl, rfl, rfl, rfl, rfl, rfl, rfl, rfl, rfl, hK, hS, hL_x_F_Sources, hL_x_O_Sources, hL_x_L, hL_12, hM⟩) (fun L_ h_ hL_ ⟨hL_x_F_Sources, hL_x_O_Sources, hL_x_L, hL_12, c201⟩ hs_ => ⟨⟨hL_x_F_Sources, hL_x_O_Sources, hL_x_L, hL_12, c201⟩, (at_keep 1 rfl hs_ (fun c284 => c284) (Go.Wk.at_nil _ _))⟩)
    refine HA.node (C1 := fun (i : Fz × Nat × Nat) => match i with | (F', b_33, b_34) => fun h => (SliceIs h 17 e_api_Addr vx_F_Sources x_F_Sources) ∧ (SliceIs h 17 e_api_Addr vx_O_Sources x_O_Sources) ∧ (SliceIs h 17 e_api_Addr vx_L x_L) ∧ (Blk h b_1 (.cells (c_acequialaw19_One (.bool x_F_Exclude) vx_F_Sources (.bool x_O_Exclude) vx_O_Sources x_G x_A vx_L).toArray 29 (0, 0)))) (cs1 := fun (i : Fz × Nat × Nat) => match i with | (F', b_33, b_34) => [(14, fun h => (Blk h b_34 (.cells #[.bool false, .slice none 0 0] 24 (0, 0)))), (15, fun h => (Blk h b_33 (.cells #[.bool false, .slice none 0 0] 24 (0, 0))))]) (fuel1 := 8) (listed1 := #[true, true, false, true, true, false, true, true, true, true, false, true, true, false, false, false, false, false]) (fun (i : Fz × Nat × Nat) f h => match i with | (F', b_33, b_34) => f 0 = .agg (c_acequialaw19_One (.bool x_F_Exclude) vx_F_Sources (.bool x_O_Exclude) vx_O_Sources x_G x_A vx_L).toArray ∧ f 1 = .pointer (some ⟨b_1, 0, none⟩) ∧ f 2 = .bool false ∧ f 3 = .pointer (some ⟨b_34, 0, none⟩) ∧ f 4 = .pointer (some ⟨b_33, 0, none⟩) ∧ f 10 = .pointer (some ⟨b_1, 0, none⟩) ∧ f 11 = .agg #[.bool x_F_Exclude, vx_F_Sources] ∧ f 13 = .pointer (some ⟨b_1, 2, none⟩) ∧ f 14 = .agg #[.bool x_O_Exclude, vx_O_Sources] ∧ f 16 = .pointer (some ⟨b_1, 21, none⟩) ∧ f 17 = .agg (e_api_Addr x_A).toArray ∧ f 18 = .pointer (some ⟨b_1, 38, none⟩) ∧ f 19 = vx_L ∧ Kp F h0 F' h ∧ St F' (Ow.box b_33 24 #[.bool false, .slice none 0 0] :: Ow.box b_34 24 #[.bool false, .slice none 0 0] :: Ow.box b_1 29 (c_acequialaw19_One (.bool x_F_Exclude) vx_F_Sources (.bool x_O_Exclude) vx_O_Sources x_G x_A vx_L).toArray :: fr) h ∧ (SliceF F' h 17 e_api_Addr vx_F_Sources x_F_Sources) ∧ (SliceF F' h 17 e_api_Addr vx_O_Sources x_O_Sources) ∧ (SliceF F' h 17 e_api_Addr vx_L x_L) ∧ law19_Few_W x_F_Exclude x_F_Sources (fun r_0_33 r_1_33 => law19_Few_W x_O_Exclude x_O_Sources (fun r_0_19 r_1_19 => law08_Addrs_W x_L 6 (fun r_12 => law19_MergeOne_j1 x_A Q r_0_33 r_1_33 r_0_19 r_1_19 r_12)))) ?_ (fun N_23 => ?_)
    · rintro ⟨F_124, b_33, b_34⟩ f_69 h_237 ⟨e0, e1, e2, e3, e4, e10, e11, e13, e14, e16, e17, e18, e19, hK, hS, hL_x_F_Sources, hL_x_O_Sources, hL_x_L, hM⟩
      refine HA.fr [(0, .agg (c_acequialaw19_One (.bool x_F_Exclude) vx_F_Sources (.bool x_O_Exclude) vx_O_Sources x_G x_A vx_L).toArray), (1, .pointer (some ⟨b_1, 0, none⟩)), (2, .bool false), (3, .pointer (some ⟨b_34, 0, none⟩)), (4, .pointer (some ⟨b_33, 0, none⟩)), (10, .pointer (some ⟨b_1, 0, none⟩)), (11, .agg #[.bool x_F_Exclude, vx_F_Sources]), (13, .pointer (some ⟨b_1, 2, none⟩)), (14, .agg #[.bool x_O_Exclude, vx_O_Sources]), (16, .pointer (some ⟨b_1, 21, none⟩)), (17, .agg (e_api_Addr x_A).toArray), (18, .pointer (some ⟨b_1, 38, none⟩)), (19, vx_L)] ⟨e0, e1, e2, e3, e4, e10, e11, e13, e14, e16, e17, e18, e19, trivial⟩ ?_
      refine HA.two (k := 2) (k' := 13) ⟨⟨hL_x_F_Sources.is, hL_x_O_Sources.is, hL_x_L.is, (hS.box 2 rfl)⟩, (at_now (hS.box 1 rfl) (at_now (hS.box 0 rfl) (Go.Wk.at_nil _ _)))⟩ (by kernel_rfl) ?_ ?_
      · refine HS.call rfl (want_none) rfl (ec en_9 rfl rfl) (law19_Few_walk (fr := (Ow.box b_33 24 #[.bool false, .slice none 0 0] :: Ow.box b_34 24 #[.bool false, .slice none 0 0] :: Ow.box b_1 29 (c_acequialaw19_One (.bool x_F_Exclude) vx_F_Sources (.bool x_O_Exclude) vx_O_Sources x_G x_A vx_L).toArray :: fr)) x_F_Exclude x_F_Sources vx_F_Sources hS hL_x_F_Sources hM) ?_
        rintro _ h_238 ⟨F_125, r_0_34, r_1_34, vr_1_34, rfl, hk, hS, _, hL_71, hM⟩
        replace hK := hK.trans hk
        replace hL_x_F_Sources := hL_x_F_Sources.kp hk
        replace hL_x_O_Sources := hL_x_O_Sources.kp hk
        replace hL_x_L := hL_x_L.kp hk
        exact Go.Wk.HA.via (N_16 (F_125, r_0_34, r_1_34, b_33, b_34, vr_1_34) _ _ ⟨rfl, rfl, rfl, rfl, rfl, rfl, rfl, rfl, rfl, rfl, rfl, rfl, rfl, rfl, hK, hS, hL_x_F_Sources, hL_x_O_Sources, hL_x_L, hL_71, hM⟩) (fun L_ h_ hL_ ⟨hL_x_F_Sources, hL_x_O_Sources, hL_x_L, hL_71, c201⟩ hs_ => ⟨⟨hL_x_F_Sources, hL_x_O_Sources, hL_x_L, c201⟩, (at_keep 0 rfl hs_ (fun c272 => c272) (at_keep 1 rfl hs_ (fun c278 => c278) (Go.Wk.at_nil _ _)))⟩)
      · refine HS.eff rfl (want_none) rfl (st_alloc (c := (e_api_Addr (false, (default : Ba 16))).toArray) hS tz_27 rfl) ?_
        rintro _ h_239 ⟨b_189, rfl, hS, hk⟩
        replace hK := hK.trans hk
        replace hL_x_F_Sources := hL_x_F_Sources.kp hk
        replace hL_x_O_Sources := hL_x_O_Sources.kp hk
        replace hL_x_L := hL_x_L.kp hk
        exact Go.Wk.HA.via (N_19 (F_124, b_189, b_33, b_34) _ _ ⟨rfl, rfl, rfl, rfl, rfl, rfl, rfl, rfl, rfl, rfl, rfl, rfl, rfl, rfl, hK, hS, hL_x_F_Sources, hL_x_O_Sources, hL_x_L, hM⟩) (fun L_ h_ hL_ ⟨hL_x_F_Sources, hL_x_O_Sources, hL_x_L, c201⟩ hs_ => ⟨⟨hL_x_F_Sources, hL_x_O_Sources, hL_x_L, c201⟩, (at_keep 0 rfl hs_ (fun c272 => c272) (at_keep 1 rfl hs_ (fun c278 => c278) (Go.Wk.at_nil _ _)))⟩)
    refine HA.node (C1 := fun (i : Fz × Nat × Nat) => match i with | (F', b_36, b_37) => fun h => (SliceIs h 17 e_api_Addr vx_F_Sources x_F_Sources) ∧ (SliceIs h 17 e_api_Addr vx_O_Sources x_O_Sources) ∧ (SliceIs h 17 e_api_Addr vx_L x_L) ∧ (Blk h b_1 (.cells (c_acequialaw19_One (.bool x_F_Exclude) vx_F_Sources (.bool x_O_Exclude) vx_O_Sources x_G x_A vx_L).toArray 29 (0, 0)))) (cs1 := fun (i : Fz × Nat × Nat) => match i with | (F', b_36, b_37) => [(14, fun h => (Blk h b_37 (.cells #[.bool false, .slice none 0 0] 24 (0, 0)))), (16, fun h => (Blk h b_36 (.cells (e_api_Addr (false, (default : Ba 16))).toArray 27 (0, 0))))]) (fuel1 := 8) (listed1 := #[true, true, false, true, true, false, true, true, true, true, false, true, false, true, false, false, false, false]) (fun (i : Fz × Nat × Nat) f h => match i with | (F', b_36, b_37) => f 0 = .agg (c_acequialaw19_One (.bool x_F_Exclude) vx_F_Sources (.bool x_O_Exclude) vx_O_Sources x_G x_A vx_L).toArray ∧ f 1 = .pointer (some ⟨b_1, 0, none⟩) ∧ f 2 = .bool false ∧ f 3 = .pointer (some ⟨b_37, 0, none⟩) ∧ f 5 = .pointer (some ⟨b_36, 0, none⟩) ∧ f 10 = .pointer (some ⟨b_1, 0, none⟩) ∧ f 11 = .agg #[.bool x_F_Exclude, vx_F_Sources] ∧ f 13 = .pointer (some ⟨b_1, 2, none⟩) ∧ f 14 = .agg #[.bool x_O_Exclude, vx_O_Sources] ∧ f 16 = .pointer (some ⟨b_1, 21, none⟩) ∧ f 17 = .agg (e_api_Addr x_A).toArray ∧ f 18 = .pointer (some ⟨b_1, 38, none⟩) ∧ f 19 = vx_L ∧ Kp F h0 F' h ∧ St F' (Ow.box b_36 27 (e_api_Addr (false, (default : Ba 16))).toArray :: Ow.box b_37 24 #[.bool false, .slice none 0 0] :: Ow.box b_1 29 (c_acequialaw19_One (.bool x_F_Exclude) vx_F_Sources (.bool x_O_Exclude) vx_O_Sources x_G x_A vx_L).toArray :: fr) h ∧ (SliceF F' h 17 e_api_Addr vx_F_Sources x_F_Sources) ∧ (SliceF F' h 17 e_api_Addr vx_O_Sources x_O_Sources) ∧ (SliceF F' h 17 e_api_Addr vx_L x_L) ∧ law19_Few_W x_F_Exclude x_F_Sources (fun r_0_35 r_1_35 => law19_Few_W x_O_Exclude x_O_Sources (fun r_0_21 r_1_21 => law08_Addrs_W x_L 6 (fun r_14 => law19_MergeOne_j1 x_A Q r_0_35 r_1_35 r_0_21 r_1_21 r_14)))) ?_ (fun N_24 => ?_)
    · rintro ⟨F_129, b_36, b_37⟩ f_72 h_244 ⟨e0, e1, e2, e3, e5, e10, e11, e13, e14, e16, e17, e18, e19, hK, hS, hL_x_F_Sources, hL_x_O_Sources, hL_x_L, hM⟩
      refine HA.fr [(0, .agg (c_acequialaw19_One (.bool x_F_Exclude) vx_F_Sources (.bool x_O_Exclude) vx_O_Sources x_G x_A vx_L).toArray), (1, .pointer (some ⟨b_1, 0, none⟩)), (2, .bool false), (3, .pointer (some ⟨b_37, 0, none⟩)), (5, .pointer (some ⟨b_36, 0, none⟩)), (10, .pointer (some ⟨b_1, 0, none⟩)), (11, .agg #[.bool x_F_Exclude, vx_F_Sources]), (13, .pointer (some ⟨b_1, 2, none⟩)), (14, .agg #[.bool x_O_Exclude, vx_O_Sources]), (16, .pointer (some ⟨b_1, 21, none⟩)), (17, .agg (e_api_Addr x_A).toArray), (18, .pointer (some ⟨b_1, 38, none⟩)), (19, vx_L)] ⟨e0, e1, e2, e3, e5, e10, e11, e13, e14, e16, e17, e18, e19, trivial⟩ ?_
      refine HA.two (k := 2) (k' := 12) ⟨⟨hL_x_F_Sources.is, hL_x_O_Sources.is, hL_x_L.is, (hS.box 2 rfl)⟩, (at_now (hS.box 1 rfl) (at_now (hS.box 0 rfl) (Go.Wk.at_nil _ _)))⟩ (by kernel_rfl) ?_ ?_
      · refine HS.call rfl (want_none) rfl (ec en_9 rfl rfl) (law19_Few_walk (fr := (Ow.box b_36 27 (e_api_Addr (false, (default : Ba 16))).toArray :: Ow.box b_37 24 #[.bool false, .slice none 0 0] :: Ow.box b_1 29 (c_acequialaw19_One (.bool x_F_Exclude) vx_F_Sources (.bool x_O_Exclude) vx_O_Sources x_G x_A vx_L).toArray :: fr)) x_F_Exclude x_F_Sources vx_F_Sources hS hL_x_F_Sources hM) ?_
        rintro _ h_245 ⟨F_130, r_0_36, r_1_36, vr_1_36, rfl, hk, hS, _, hL_73, hM⟩
        replace hK := hK.trans hk
        replace hL_x_F_Sources := hL_x_F_Sources.kp hk
        replace hL_x_O_Sources := hL_x_O_Sources.kp hk
        replace hL_x_L := hL_x_L.kp hk
        exact Go.Wk.HA.via (N_17 (F_130, r_0_36, r_1_36, b_36, b_37, vr_1_36) _ _ ⟨rfl, rfl, rfl, rfl, rfl, rfl, rfl, rfl, rfl, rfl, rfl, rfl, rfl, rfl, hK, hS, hL_x_F_Sources, hL_x_O_Sources, hL_x_L, hL_73, hM⟩) (fun L_ h_ hL_ ⟨hL_x_F_Sources, hL_x_O_Sources, hL_x_L, hL_73, c201⟩ hs_ => ⟨⟨hL_x_F_Sources, hL_x_O_Sources, hL_x_L, c201⟩, (at_keep 0 rfl hs_ (fun c272 => c272) (at_keep 1 rfl hs_ (fun c284 => c284) (Go.Wk.at_nil _ _)))⟩)
      · refine HS.eff rfl (want_none) rfl (st_alloc (c := #[.bool false, .slice none 0 0]) hS tz_24 rfl) ?_
        rintro _ h_246 ⟨b_191, rfl, hS, hk⟩
        replace hK := hK.trans hk
        replace hL_x_F_Sources := hL_x_F_Sources.kp hk
        replace hL_x_O_Sources := hL_x_O_Sources.kp hk
        replace hL_x_L := hL_x_L.kp hk
        replace hS : St F_129 (Ow.box b_36 27 (e_api_Addr (false, (default : Ba 16))).toArray :: Ow.box b_191 24 #[.bool false, .slice none 0 0] :: Ow.box b_37 24 #[.bool false, .slice none 0 0] :: Ow.box b_1 29 (c_acequialaw19_One (.bool x_F_Exclude) vx_F_Sources (.bool x_O_Exclude) vx_O_Sources x_G x_A vx_L).toArray :: fr) h_246 := hS.perm2 [1, 0, 2, 3] 4 rfl rfl
        exact Go.Wk.HA.via (N_19 (F_129, b_36, b_191, b_37) _ _ ⟨rfl, rfl, rfl, rfl, rfl, rfl, rfl, rfl, rfl, rfl, rfl, rfl, rfl, rfl, hK, hS, hL_x_F_Sources, hL_x_O_Sources, hL_x_L, hM⟩) (fun L_ h_ hL_ ⟨hL_x_F_Sources, hL_x_O_Sources, hL_x_L, c201⟩ hs_ => ⟨⟨hL_x_F_Sources, hL_x_O_Sources, hL_x_L, c201⟩, (at_keep 0 rfl hs_ (fun c272 => c272) (at_keep 2 rfl hs_ (fun c284 => c284) (Go.Wk.at_nil _ _)))⟩)
    refine HA.node (C1 := fun (i : Fz × Nat × Nat) => match i with | (F', b_39, b_40) => fun h => (SliceIs h 17 e_api_Addr vx_F_Sources x_F_Sources) ∧ (SliceIs h 17 e_api_Addr vx_O_Sources x_O_Sources) ∧ (SliceIs h 17 e_api_Addr vx_L x_L) ∧ (Blk h b_1 (.cells (c_acequialaw19_One (.bool x_F_Exclude) vx_F_Sources (.bool x_O_Exclude) vx_O_Sources x_G x_A vx_L).toArray 29 (0, 0)))) (cs1 := fun (i : Fz × Nat × Nat) => match i with | (F', b_39, b_40) => [(15, fun h => (Blk h b_40 (.cells #[.bool false, .slice none 0 0] 24 (0, 0)))), (16, fun h => (Blk h b_39 (.cells (e_api_Addr (false, (default : Ba 16))).toArray 27 (0, 0))))]) (fuel1 := 8) (listed1 := #[true, true, false, true, true, false, true, true, true, true, false, false, true, true, false, false, false, false]) (fun (i : Fz × Nat × Nat) f h => match i with | (F', b_39, b_40) => f 0 = .agg (c_acequialaw19_One (.bool x_F_Exclude) vx_F_Sources (.bool x_O_Exclude) vx_O_Sources x_G x_A vx_L).toArray ∧ f 1 = .pointer (some ⟨b_1, 0, none⟩) ∧ f 2 = .bool false ∧ f 4 = .pointer (some ⟨b_40, 0, none⟩) ∧ f 5 = .pointer (some ⟨b_39, 0, none⟩) ∧ f 10 = .pointer (some ⟨b_1, 0, none⟩) ∧ f 11 = .agg #[.bool x_F_Exclude, vx_F_Sources] ∧ f 13 = .pointer (some ⟨b_1, 2, none⟩) ∧ f 14 = .agg #[.bool x_O_Exclude, vx_O_Sources] ∧ f 16 = .pointer (some ⟨b_1, 21, none⟩) ∧ f 17 = .agg (e_api_Addr x_A).toArray ∧ f 18 = .pointer (some ⟨b_1, 38, none⟩) ∧ f 19 = vx_L ∧ Kp F h0 F' h ∧ St F' (Ow.box b_39 27 (e_api_Addr (false, (default : Ba 16))).toArray :: Ow.box b_40 24 #[.bool false, .slice none 0 0] :: Ow.box b_1 29 (c_acequialaw19_One (.bool x_F_Exclude) vx_F_Sources (.bool x_O_Exclude) vx_O_Sources x_G x_A vx_L).toArray :: fr) h ∧ (SliceF F' h 17 e_api_Addr vx_F_Sources x_F_Sources) ∧ (SliceF F' h 17 e_api_Addr vx_O_Sources x_O_Sources) ∧ (SliceF F' h 17 e_api_Addr vx_L x_L) ∧ law19_Few_W x_F_Exclude x_F_Sources (fun r_0_37 r_1_37 => law19_Few_W x_O_Exclude x_O_Sources (fun r_0_23 r_1_23 => law08_Addrs_W x_L 6 (fun r_16 => law19_MergeOne_j1 x_A Q r_0_37 r_1_37 r_0_23 r_1_23 r_16)))) ?_ (fun N_25 => ?_)
    · rintro ⟨F_134, b_39, b_40⟩ f_75 h_251 ⟨e0, e1, e2, e4, e5, e10, e11, e13, e14, e16, e17, e18, e19, hK, hS, hL_x_F_Sources, hL_x_O_Sources, hL_x_L, hM⟩
      refine HA.fr [(0, .agg (c_acequialaw19_One (.bool x_F_Exclude) vx_F_Sources (.bool x_O_Exclude) vx_O_Sources x_G x_A vx_L).toArray), (1, .pointer (some ⟨b_1, 0, none⟩)), (2, .bool false), (4, .pointer (some ⟨b_40, 0, none⟩)), (5, .pointer (some ⟨b_39, 0, none⟩)), (10, .pointer (some ⟨b_1, 0, none⟩)), (11, .agg #[.bool x_F_Exclude, vx_F_Sources]), (13, .pointer (some ⟨b_1, 2, none⟩)), (14, .agg #[.bool x_O_Exclude, vx_O_Sources]), (16, .pointer (some ⟨b_1, 21, none⟩)), (17, .agg (e_api_Addr x_A).toArray), (18, .pointer (some ⟨b_1, 38, none⟩)), (19, vx_L)] ⟨e0, e1, e2, e4, e5, e10, e11, e13, e14, e16, e17, e18, e19, trivial⟩ ?_
      refine HA.two (k := 2) (k' := 11) ⟨⟨hL_x_F_Sources.is, hL_x_O_Sources.is, hL_x_L.is, (hS.box 2 rfl)⟩, (at_now (hS.box 1 rfl) (at_now (hS.box 0 rfl) (Go.Wk.at_nil _ _)))⟩ (by kernel_rfl) ?_ ?_
      · refine HS.call rfl (want_none) rfl (ec en_9 rfl rfl) (law19_Few_walk (fr := (Ow.box b_39 27 (e_api_Addr (false, (default : Ba 16))).toArray :: Ow.box b_40 24 #[.bool false, .slice none 0 0] :: Ow.box b_1 29 (c_acequialaw19_One (.bool x_F_Exclude) vx_F_Sources (.bool x_O_Exclude) vx_O_Sources x_G x_A vx_L).toArray :: fr)) x_F_Exclude x_F_Sources vx_F_Sources hS hL_x_F_Sources hM) ?_
        rintro _ h_252 ⟨F_135, r_0_38, r_1_38, vr_1_38, rfl, hk, hS, _, hL_75, hM⟩
        replace hK := hK.trans hk
        replace hL_x_F_Sources := hL_x_F_Sources.kp hk
        replace hL_x_O_Sources := hL_x_O_Sources.kp hk
        replace hL_x_L := hL_x_L.kp hk
        exact Go.Wk.HA.via (N_18 (F_135, r_0_38, r_1_38, b_39, b_40, vr_1_38) _ _ ⟨rfl, rfl, rfl, rfl, rfl, rfl, rfl, rfl, rfl, rfl, rfl, rfl, rfl, rfl, hK, hS, hL_x_F_Sources, hL_x_O_Sources, hL_x_L, hL_75, hM⟩) (fun L_ h_ hL_ ⟨hL_x_F_Sources, hL_x_O_Sources, hL_x_L, hL_75, c201⟩ hs_ => ⟨⟨hL_x_F_Sources, hL_x_O_Sources, hL_x_L, c201⟩, (at_keep 0 rfl hs_ (fun c278 => c278) (at_keep 1 rfl hs_ (fun c284 => c284) (Go.Wk.at_nil _ _)))⟩)
      · refine HS.eff rfl (want_none) rfl (st_alloc (c := #[.bool false, .slice none 0 0]) hS tz_24 rfl) ?_
        rintro _ h_253 ⟨b_193, rfl, hS, hk⟩
        replace hK := hK.trans hk
        replace hL_x_F_Sources := hL_x_F_Sources.kp hk
        replace hL_x_O_Sources := hL_x_O_Sources.kp hk
        replace hL_x_L := hL_x_L.kp hk
        replace hS : St F_134 (Ow.box b_39 27 (e_api_Addr (false, (default : Ba 16))).toArray :: Ow.box b_40 24 #[.bool false, .slice none 0 0] :: Ow.box b_193 24 #[.bool false, .slice none 0 0] :: Ow.box b_1 29 (c_acequialaw19_One (.bool x_F_Exclude) vx_F_Sources (.bool x_O_Exclude) vx_O_Sources x_G x_A vx_L).toArray :: fr) h_253 := hS.perm2 [1, 2, 0, 3] 4 rfl rfl
        exact Go.Wk.HA.via (N_19 (F_134, b_39, b_40, b_193) _ _ ⟨rfl, rfl, rfl, rfl, rfl, rfl, rfl, rfl, rfl, rfl, rfl, rfl, rfl, rfl, hK, hS, hL_x_F_Sources, hL_x_O_Sources, hL_x_L, hM⟩) (fun L_ h_ hL_ ⟨hL_x_F_Sources, hL_x_O_Sources, hL_x_L, c201⟩ hs_ => ⟨⟨hL_x_F_Sources, hL_x_O_Sources, hL_x_L, c201⟩, (at_keep 1 rfl hs_ (fun c278 => c278) (at_keep 2 rfl hs_ (fun c284 => c284) (Go.Wk.at_nil _ _)))⟩)
    refine HA.four (k := 2) (k' := 11) (k'' := 12) (k''' := 13) ⟨(hS.box 0 rfl), (Go.Wk.at_nil _ _)⟩ (by kernel_rfl) ?_ ?_ ?_ ?_
    · refine HS.call rfl (want_none) rfl (ec en_9 rfl rfl) (law19_Few_walk (fr := (Ow.box b_1 29 (c_acequialaw19_One (.bool x_F_Exclude) vx_F_Sources (.bool x_O_Exclude) vx_O_Sources x_G x_A vx_L).toArray :: fr)) x_F_Exclude x_F_Sources vx_F_Sources hS hL_x_F_Sources hM) ?_
      rintro _ h_254 ⟨F_136, r_0_39, r_1_39, vr_1_39, rfl, hk, hS, _, hL_76, hM⟩
      replace hK := hK.trans hk
      replace hL_x_F_Sources := hL_x_F_Sources.kp hk
      replace hL_x_O_Sources := hL_x_O_Sources.kp hk
      replace hL_x_L := hL_x_L.kp hk
      refine HA.four (k := 5) (k' := 11) (k'' := 12) (k''' := 13) ⟨(hS.box 0 rfl), (Go.Wk.at_nil _ _)⟩ (by kernel_rfl) ?_ ?_ ?_ ?_
      · refine HS.call rfl (want_none) rfl (ec en_9 rfl rfl) (law19_Few_walk (fr := (Ow.box b_1 29 (c_acequialaw19_One (.bool x_F_Exclude) vx_F_Sources (.bool x_O_Exclude) vx_O_Sources x_G x_A vx_L).toArray :: fr)) x_O_Exclude x_O_Sources vx_O_Sources hS hL_x_O_Sources hM) ?_
        rintro _ h_255 ⟨F_137, r_0_40, r_1_40, vr_1_40, rfl, hk, hS, _, hL_77, hM⟩
        replace hK := hK.trans hk
        replace hL_x_F_Sources := hL_x_F_Sources.kp hk
        replace hL_x_O_Sources := hL_x_O_Sources.kp hk
        replace hL_x_L := hL_x_L.kp hk
        replace hL_76 := hL_76.kp hk
        refine HA.four (k := 10) (k' := 11) (k'' := 12) (k''' := 13) ⟨(hS.box 0 rfl), (Go.Wk.at_nil _ _)⟩ (by kernel_rfl) ?_ ?_ ?_ ?_
        · refine HS.call rfl (want_none) rfl (ec en_25 rfl rfl) (law08_Addrs_walk (fr := (Ow.box b_1 29 (c_acequialaw19_One (.bool x_F_Exclude) vx_F_Sources (.bool x_O_Exclude) vx_O_Sources x_G x_A vx_L).toArray :: fr)) x_L 6 vx_L hS hL_x_L hM) ?_
          rintro vr_23 h_256 ⟨F_138, r_24, _, rfl, hk, hS, _, hM⟩
          replace hK := hK.trans hk
          replace hL_x_F_Sources := hL_x_F_Sources.kp hk
          replace hL_x_O_Sources := hL_x_O_Sources.kp hk
          replace hL_x_L := hL_x_L.kp hk
          replace hL_76 := hL_76.kp hk
          replace hL_77 := hL_77.kp hk
          refine HA.three (k := 11) (k' := 12) (k'' := 13) ⟨(hS.box 1 rfl), (Go.Wk.at_nil _ _)⟩ (by kernel_rfl) ?_ ?_ ?_
          · refine HS.eff rfl (want_none) rfl (st_alloc (c := #[.bool false, .slice none 0 0]) hS tz_24 rfl) ?_
            rintro _ h_257 ⟨b_194, rfl, hS, hk⟩
            replace hK := hK.trans hk
            replace hL_x_F_Sources := hL_x_F_Sources.kp hk
            replace hL_x_O_Sources := hL_x_O_Sources.kp hk
            replace hL_x_L := hL_x_L.kp hk
            replace hL_76 := hL_76.kp hk
            replace hL_77 := hL_77.kp hk
            exact Go.Wk.HA.via (N_6 (F_138, r_24, r_0_39, r_1_39, r_0_40, r_1_40, b_194, vr_23, vr_1_39, vr_1_40) _ _ ⟨rfl, rfl, rfl, rfl, rfl, rfl, rfl, rfl, rfl, rfl, rfl, rfl, rfl, rfl, rfl, hK, hS, hL_x_F_Sources, hL_x_O_Sources, hL_x_L, hL_76, hL_77, hM⟩) (fun L_ h_ hL_ ⟨hL_x_F_Sources, hL_x_O_Sources, hL_x_L, hL_76, hL_77, c266, c201⟩ hs_ => ⟨c201, (Go.Wk.at_nil _ _)⟩)
          · refine HS.eff rfl (want_none) rfl (st_alloc (c := #[.bool false, .slice none 0 0]) hS tz_24 rfl) ?_
            rintro _ h_258 ⟨b_195, rfl, hS, hk⟩
            replace hK := hK.trans hk
            replace hL_x_F_Sources := hL_x_F_Sources.kp hk
            replace hL_x_O_Sources := hL_x_O_Sources.kp hk
            replace hL_x_L := hL_x_L.kp hk
            replace hL_76 := hL_76.kp hk
            replace hL_77 := hL_77.kp hk
            exact Go.Wk.HA.via (N_7 (F_138, r_24, r_0_39, r_1_39, r_0_40, r_1_40, b_195, vr_23, vr_1_39, vr_1_40) _ _ ⟨rfl, rfl, rfl, rfl, rfl, rfl, rfl, rfl, rfl, rfl, rfl, rfl, rfl, rfl, rfl, hK, hS, hL_x_F_Sources, hL_x_O_Sources, hL_x_L, hL_76, hL_77, hM⟩) (fun L_ h_ hL_ ⟨hL_x_F_Sources, hL_x_O_Sources, hL_x_L, hL_76, hL_77, c266, c201⟩ hs_ => ⟨c201, (Go.Wk.at_nil _ _)⟩)
          · refine HS.eff rfl (want_none) rfl (st_alloc (c := (e_api_Addr (false, (default : Ba 16))).toArray) hS tz_27 rfl) ?_
            rintro _ h_259 ⟨b_196, rfl, hS, hk⟩
            replace hK := hK.trans hk
            replace hL_x_F_Sources := hL_x_F_Sources.kp hk
            replace hL_x_O_Sources := hL_x_O_Sources.kp hk
            replace hL_x_L := hL_x_L.kp hk
            replace hL_76 := hL_76.kp hk
            replace hL_77 := hL_77.kp hk
            exact Go.Wk.HA.via (N_8 (F_138, r_24, r_0_39, r_1_39, r_0_40, r_1_40, b_196, vr_23, vr_1_39, vr_1_40) _ _ ⟨rfl, rfl, rfl, rfl, rfl, rfl, rfl, rfl, rfl, rfl, rfl, rfl, rfl, rfl, rfl, hK, hS, hL_x_F_Sources, hL_x_O_Sources, hL_x_L, hL_76, hL_77, hM⟩) (fun L_ h_ hL_ ⟨hL_x_F_Sources, hL_x_O_Sources, hL_x_L, hL_76, hL_77, c266, c201⟩ hs_ => ⟨c201, (Go.Wk.at_nil _ _)⟩)
        · refine HS.eff rfl (want_none) rfl (st_alloc (c := #[.bool false, .slice none 0 0]) hS tz_24 rfl) ?_
          rintro _ h_260 ⟨b_197, rfl, hS, hk⟩
          replace hK := hK.trans hk
          replace hL_x_F_Sources := hL_x_F_Sources.kp hk
          replace hL_x_O_Sources := hL_x_O_Sources.kp hk
          replace hL_x_L := hL_x_L.kp hk
          replace hL_76 := hL_76.kp hk
          replace hL_77 := hL_77.kp hk
          exact Go.Wk.HA.via (N_13 (F_137, r_0_39, r_1_39, r_0_40, r_1_40, b_197, vr_1_39, vr_1_40) _ _ ⟨rfl, rfl, rfl, rfl, rfl, rfl, rfl, rfl, rfl, rfl, rfl, rfl, rfl, rfl, hK, hS, hL_x_F_Sources, hL_x_O_Sources, hL_x_L, hL_76, hL_77, hM⟩) (fun L_ h_ hL_ ⟨hL_x_F_Sources, hL_x_O_Sources, hL_x_L, hL_76, hL_77, c201⟩ hs_ => ⟨c201, (Go.Wk.at_nil _ _)⟩)
        · refine HS.eff rfl (want_none) rfl (st_alloc (c := #[.bool false, .slice none 0 0]) hS tz_24 rfl) ?_
          rintro _ h_261 ⟨b_198, rfl, hS, hk⟩
          replace hK := hK.trans hk
          replace hL_x_F_Sources := hL_x_F_Sources.kp hk
          replace hL_x_O_Sources := hL_x_O_Sources.kp hk
          replace hL_x_L := hL_x_L.kp hk
          replace hL_76 := hL_76.kp hk
          replace hL_77 := hL_77.kp hk
          exact Go.Wk.HA.via (N_14 (F_137, r_0_39, r_1_39, r_0_40, r_1_40, b_198, vr_1_39, vr_1_40) _ _ ⟨rfl, rfl, rfl, rfl, rfl, rfl, rfl, rfl, rfl, rfl, rfl, rfl, rfl, rfl, hK, hS, hL_x_F_Sources, hL_x_O_Sources, hL_x_L, hL_76, hL_77, hM⟩) (fun L_ h_ hL_ ⟨hL_x_F_Sources, hL_x_O_Sources, hL_x_L, hL_76, hL_77, c201⟩ hs_ => ⟨c201, (Go.Wk.at_nil _ _)⟩)
        · refine HS.eff rfl (want_none) rfl (st_alloc (c := (e_api_Addr (false, (default : Ba 16))).toArray) hS tz_27 rfl) ?_
          rintro _ h_262 ⟨b_199, rfl, hS, hk⟩
          replace hK := hK.trans hk
          replace hL_x_F_Sources := hL_x_F_Sources.kp hk
          replace hL_x_O_Sources := hL_x_O_Sources.kp hk
          replace hL_x_L := hL_x_L.kp hk
          replace hL_76 := hL_76.kp hk
          replace hL_77 := hL_77.kp hk
          exact Go.Wk.HA.via (N_15 (F_137, r_0_39, r_1_39, r_0_40, r_1_40, b_199, vr_1_39, vr_1_40) _ _ ⟨rfl, rfl, rfl, rfl, rfl, rfl, rfl, rfl, rfl, rfl, rfl, rfl, rfl, rfl, hK, hS, hL_x_F_Sources, hL_x_O_Sources, hL_x_L, hL_76, hL_77, hM⟩) (fun L_ h_ hL_ ⟨hL_x_F_Sources, hL_x_O_Sources, hL_x_L, hL_76, hL_77, c201⟩ hs_ => ⟨c201, (Go.Wk.at_nil _ _)⟩)
      · refine HS.eff rfl (want_none) rfl (st_alloc (c := #[.bool false, .slice none 0 0]) hS tz_24 rfl) ?_
        rintro _ h_263 ⟨b_200, rfl, hS, hk⟩
        replace hK := hK.trans hk
        replace hL_x_F_Sources := hL_x_F_Sources.kp hk
        replace hL_x_O_Sources := hL_x_O_Sources.kp hk
        replace hL_x_L := hL_x_L.kp hk
        replace hL_76 := hL_76.kp hk
        exact Go.Wk.HA.via (N_20 (F_136, r_0_39, r_1_39, b_200, vr_1_39) _ _ ⟨rfl, rfl, rfl, rfl, rfl, rfl, rfl, rfl, rfl, rfl, rfl, rfl, rfl, hK, hS, hL_x_F_Sources, hL_x_O_Sources, hL_x_L, hL_76, hM⟩) (fun L_ h_ hL_ ⟨hL_x_F_Sources, hL_x_O_Sources, hL_x_L, hL_76, c201⟩ hs_ => ⟨c201, (Go.Wk.at_nil _ _)⟩)
      · refine HS.eff rfl (want_none) rfl (st_alloc (c := #[.bool false, .slice none 0 0]) hS tz_24 rfl) ?_
        rintro _ h_264 ⟨b_201, rfl, hS, hk⟩
        replace hK := hK.trans hk
        replace hL_x_F_Sources := hL_x_F_Sources.kp hk
        replace hL_x_O_Sources := hL_x_O_Sources.kp hk
        replace hL_x_L := hL_x_L.kp hk
        replace hL_76 := hL_76.kp hk
        exact Go.Wk.HA.via (N_21 (F_136, r_0_39, r_1_39, b_201, vr_1_39) _ _ ⟨rfl, rfl, rfl, rfl, rfl, rfl, rfl, rfl, rfl, rfl, rfl, rfl, rfl, hK, hS, hL_x_F_Sources, hL_x_O_Sources, hL_x_L, hL_76, hM⟩) (fun L_ h_ hL_ ⟨hL_x_F_Sources, hL_x_O_Sources, hL_x_L, hL_76, c201⟩ hs_ => ⟨c201, (Go.Wk.at_nil _ _)⟩)
      · refine HS.eff rfl (want_none) rfl (st_alloc (c := (e_api_Addr (false, (default : Ba 16))).toArray) hS tz_27 rfl) ?_
        rintro _ h_265 ⟨b_202, rfl, hS, hk⟩
        replace hK := hK.trans hk
        replace hL_x_F_Sources := hL_x_F_Sources.kp hk
        replace hL_x_O_Sources := hL_x_O_Sources.kp hk
        replace hL_x_L := hL_x_L.kp hk
        replace hL_76 := hL_76.kp hk
        exact Go.Wk.HA.via (N_22 (F_136, r_0_39, r_1_39, b_202, vr_1_39) _ _ ⟨rfl, rfl, rfl, rfl, rfl, rfl, rfl, rfl, rfl, rfl, rfl, rfl, rfl, hK, hS, hL_x_F_Sources, hL_x_O_Sources, hL_x_L, hL_76, hM⟩) (fun L_ h_ hL_ ⟨hL_x_F_Sources, hL_x_O_Sources, hL_x_L, hL_76, c201⟩ hs_ => ⟨c201, (Go.Wk.at_nil _ _)⟩)
    · refine HS.eff rfl (want_none) rfl (st_alloc (c := #[.bool false, .slice none 0 0]) hS tz_24 rfl) ?_
      rintro _ h_266 ⟨b_203, rfl, hS, hk⟩
      replace hK := hK.trans hk
      replace hL_x_F_Sources := hL_x_F_Sources.kp hk
      replace hL_x_O_Sources := hL_x_O_Sources.kp hk
      replace hL_x_L := hL_x_L.kp hk
      refine HA.three (k := 2) (k' := 12) (k'' := 13) ⟨(hS.box 1 rfl), (Go.Wk.at_nil _ _)⟩ (by kernel_rfl) ?_ ?_ ?_
      · refine HS.call rfl (want_none) rfl (ec en_9 rfl rfl) (law19_Few_walk (fr := (Ow.box b_203 24 #[.bool false, .slice none 0 0] :: Ow.box b_1 29 (c_acequialaw19_One (.bool x_F_Exclude) vx_F_Sources (.bool x_O_Exclude) vx_O_Sources x_G x_A vx_L).toArray :: fr)) x_F_Exclude x_F_Sources vx_F_Sources hS hL_x_F_Sources hM) ?_
        rintro _ h_267 ⟨F_139, r_0_41, r_1_41, vr_1_41, rfl, hk, hS, _, hL_78, hM⟩
        replace hK := hK.trans hk
        replace hL_x_F_Sources := hL_x_F_Sources.kp hk
        replace hL_x_O_Sources := hL_x_O_Sources.kp hk
        replace hL_x_L := hL_x_L.kp hk
        exact Go.Wk.HA.via (N_20 (F_139, r_0_41, r_1_41, b_203, vr_1_41) _ _ ⟨rfl, rfl, rfl, rfl, rfl, rfl, rfl, rfl, rfl, rfl, rfl, rfl, rfl, hK, hS, hL_x_F_Sources, hL_x_O_Sources, hL_x_L, hL_78, hM⟩) (fun L_ h_ hL_ ⟨hL_x_F_Sources, hL_x_O_Sources, hL_x_L, hL_78, c201⟩ hs_ => ⟨c201, (Go.Wk.at_nil _ _)⟩)
      · refine HS.eff rfl (want_none) rfl (st_alloc (c := #[.bool false, .slice none 0 0]) hS tz_24 rfl) ?_
        rintro _ h_268 ⟨b_204, rfl, hS, hk⟩
        replace hK := hK.trans hk
        replace hL_x_F_Sources := hL_x_F_Sources.kp hk
        replace hL_x_O_Sources := hL_x_O_Sources.kp hk
        replace hL_x_L := hL_x_L.kp hk
        exact Go.Wk.HA.via (N_23 (F, b_204, b_203) _ _ ⟨rfl, rfl, rfl, rfl, rfl, rfl, rfl, rfl, rfl, rfl, rfl, rfl, rfl, hK, hS, hL_x_F_Sources, hL_x_O_Sources, hL_x_L, hM⟩) (fun L_ h_ hL_ ⟨hL_x_F_Sources, hL_x_O_Sources, hL_x_L, c201⟩ hs_ => ⟨c201, (Go.Wk.at_nil _ _)⟩)
      · refine HS.eff rfl (want_none) rfl (st_alloc (c := (e_api_Addr (false, (default : Ba 16))).toArray) hS tz_27 rfl) ?_
        rintro _ h_269 ⟨b_205, rfl, hS, hk⟩
        replace hK := hK.trans hk
        replace hL_x_F_Sources := hL_x_F_Sources.kp hk
        replace hL_x_O_Sources := hL_x_O_Sources.kp hk
        replace hL_x_L := hL_x_L.kp hk
        exact Go.Wk.HA.via (N_24 (F, b_205, b_203) _ _ ⟨rfl, rfl, rfl, rfl, rfl, rfl, rfl, rfl, rfl, rfl, rfl, rfl, rfl, hK, hS, hL_x_F_Sources, hL_x_O_Sources, hL_x_L, hM⟩) (fun L_ h_ hL_ ⟨hL_x_F_Sources, hL_x_O_Sources, hL_x_L, c201⟩ hs_ => ⟨c201, (Go.Wk.at_nil _ _)⟩)
    · refine HS.eff rfl (want_none) rfl (st_alloc (c := #[.bool false, .slice none 0 0]) hS tz_24 rfl) ?_
      rintro _ h_270 ⟨b_206, rfl, hS, hk⟩
      replace hK := hK.trans hk
      replace hL_x_F_Sources := hL_x_F_Sources.kp hk
      replace hL_x_O_Sources := hL_x_O_Sources.kp hk
      replace hL_x_L := hL_x_L.kp hk
      refine HA.three (k := 2) (k' := 11) (k'' := 13) ⟨(hS.box 1 rfl), (Go.Wk.at_nil _ _)⟩ (by kernel_rfl) ?_ ?_ ?_
      · refine HS.call rfl (want_none) rfl (ec en_9 rfl rfl) (law19_Few_walk (fr := (Ow.box b_206 24 #[.bool false, .slice none 0 0] :: Ow.box b_1 29 (c_acequialaw19_One (.bool x_F_Exclude) vx_F_Sources (.bool x_O_Exclude) vx_O_Sources x_G x_A vx_L).toArray :: fr)) x_F_Exclude x_F_Sources vx_F_Sources hS hL_x_F_Sources hM) ?_
        rintro _ h_271 ⟨F_140, r_0_42, r_1_42, vr_1_42, rfl, hk, hS, _, hL_79, hM⟩
        replace hK := hK.trans hk
        replace hL_x_F_Sources := hL_x_F_Sources.kp hk
        replace hL_x_O_Sources := hL_x_O_Sources.kp hk
        replace hL_x_L := hL_x_L.kp hk
        exact Go.Wk.HA.via (N_21 (F_140, r_0_42, r_1_42, b_206, vr_1_42) _ _ ⟨rfl, rfl, rfl, rfl, rfl, rfl, rfl, rfl, rfl, rfl, rfl, rfl, rfl, hK, hS, hL_x_F_Sources, hL_x_O_Sources, hL_x_L, hL_79, hM⟩) (fun L_ h_ hL_ ⟨hL_x_F_Sources, hL_x_O_Sources, hL_x_L, hL_79, c201⟩ hs_ => ⟨c201, (Go.Wk.at_nil _ _)⟩)
      · refine HS.eff rfl (want_none) rfl (st_alloc (c := #[.bool false, .slice none 0 0]) hS tz_24 rfl) ?_
        rintro _ h_272 ⟨b_207, rfl, hS, hk⟩
        replace hK := hK.trans hk
        replace hL_x_F_Sources := hL_x_F_Sources.kp hk
        replace hL_x_O_Sources := hL_x_O_Sources.kp hk
        replace hL_x_L := hL_x_L.kp hk
        replace hS : St F (Ow.box b_206 24 #[.bool false, .slice none 0 0] :: Ow.box b_207 24 #[.bool false, .slice none 0 0] :: Ow.box b_1 29 (c_acequialaw19_One (.bool x_F_Exclude) vx_F_Sources (.bool x_O_Exclude) vx_O_Sources x_G x_A vx_L).toArray :: fr) h_272 := hS.perm2 [1, 0, 2] 3 rfl rfl
        exact Go.Wk.HA.via (N_23 (F, b_206, b_207) _ _ ⟨rfl, rfl, rfl, rfl, rfl, rfl, rfl, rfl, rfl, rfl, rfl, rfl, rfl, hK, hS, hL_x_F_Sources, hL_x_O_Sources, hL_x_L, hM⟩) (fun L_ h_ hL_ ⟨hL_x_F_Sources, hL_x_O_Sources, hL_x_L, c201⟩ hs_ => ⟨c201, (Go.Wk.at_nil _ _)⟩)
      · refine HS.eff rfl (want_none) rfl (st_alloc (c := (e_api_Addr (false, (default : Ba 16))).toArray) hS tz_27 rfl) ?_
        rintro _ h_273 ⟨b_208, rfl, hS, hk⟩
        replace hK := hK.trans hk
        replace hL_x_F_Sources := hL_x_F_Sources.kp hk
        replace hL_x_O_Sources := hL_x_O_Sources.kp hk
        replace hL_x_L := hL_x_L.kp hk
        exact Go.Wk.HA.via (N_25 (F, b_208, b_206) _ _ ⟨rfl, rfl, rfl, rfl, rfl, rfl, rfl, rfl, rfl, rfl, rfl, rfl, rfl, hK, hS, hL_x_F_Sources, hL_x_O_Sources, hL_x_L, hM⟩) (fun L_ h_ hL_ ⟨hL_x_F_Sources, hL_x_O_Sources, hL_x_L, c201⟩ hs_ => ⟨c201, (Go.Wk.at_nil _ _)⟩)
    · refine HS.eff rfl (want_none) rfl (st_alloc (c := (e_api_Addr (false, (default : Ba 16))).toArray) hS tz_27 rfl) ?_
      rintro _ h_274 ⟨b_209, rfl, hS, hk⟩
      replace hK := hK.trans hk
      replace hL_x_F_Sources := hL_x_F_Sources.kp hk
      replace hL_x_O_Sources := hL_x_O_Sources.kp hk
      replace hL_x_L := hL_x_L.kp hk
      refine HA.three (k := 2) (k' := 11) (k'' := 12) ⟨(hS.box 1 rfl), (Go.Wk.at_nil _ _)⟩ (by kernel_rfl) ?_ ?_ ?_
      · refine HS.call rfl (want_none) rfl (ec en_9 rfl rfl) (law19_Few_walk (fr := (Ow.box b_209 27 (e_api_Addr (false, (default : Ba 16))).toArray :: Ow.box b_1 29 (c_acequialaw19_One (.bool x_F_Exclude) vx_F_Sources (.bool x_O_Exclude) vx_O_Sources x_G x_A vx_L).toArray :: fr)) x_F_Exclude x_F_Sources vx_F_Sources hS hL_x_F_Sources hM) ?_
        rintro _ h_275 ⟨F_141, r_0_43, r_1_43, vr_1_43, rfl, hk, hS, _, hL_80, hM⟩
        replace hK := hK.trans hk
        replace hL_x_F_Sources := hL_x_F_Sources.kp hk
        replace hL_x_O_Sources := hL_x_O_Sources.kp hk
        replace hL_x_L := hL_x_L.kp hk
        exact Go.Wk.HA.via (N_22 (F_141, r_0_43, r_1_43, b_209, vr_1_43) _ _ ⟨rfl, rfl, rfl, rfl, rfl, rfl, rfl, rfl, rfl, rfl, rfl, rfl, rfl, hK, hS, hL_x_F_Sources, hL_x_O_Sources, hL_x_L, hL_80, hM⟩) (fun L_ h_ hL_ ⟨hL_x_F_Sources, hL_x_O_Sources, hL_x_L, hL_80, c201⟩ hs_ => ⟨c201, (Go.Wk.at_nil _ _)⟩)
      · refine HS.eff rfl (want_none) rfl (st_alloc (c := #[.bool false, .slice none 0 0]) hS tz_24 rfl) ?_
        rintro _ h_276 ⟨b_210, rfl, hS, hk⟩
        replace hK := hK.trans hk
        replace hL_x_F_Sources := hL_x_F_Sources.kp hk
        replace hL_x_O_Sources := hL_x_O_Sources.kp hk
        replace hL_x_L := hL_x_L.kp hk
        replace hS : St F (Ow.box b_209 27 (e_api_Addr (false, (default : Ba 16))).toArray :: Ow.box b_210 24 #[.bool false, .slice none 0 0] :: Ow.box b_1 29 (c_acequialaw19_One (.bool x_F_Exclude) vx_F_Sources (.bool x_O_Exclude) vx_O_Sources x_G x_A vx_L).toArray :: fr) h_276 := hS.perm2 [1, 0, 2] 3 rfl rfl
        exact Go.Wk.HA.via (N_24 (F, b_209, b_210) _ _ ⟨rfl, rfl, rfl, rfl, rfl, rfl, rfl, rfl, rfl, rfl, rfl, rfl, rfl, hK, hS, hL_x_F_Sources, hL_x_O_Sources, hL_x_L, hM⟩) (fun L_ h_ hL_ ⟨hL_x_F_Sources, hL_x_O_Sources, hL_x_L, c201⟩ hs_ => ⟨c201, (Go.Wk.at_nil _ _)⟩)
      · refine HS.eff rfl (want_none) rfl (st_alloc (c := #[.bool false, .slice none 0 0]) hS tz_24 rfl) ?_
        rintro _ h_277 ⟨b_211, rfl, hS, hk⟩
        replace hK := hK.trans hk
        replace hL_x_F_Sources := hL_x_F_Sources.kp hk
        replace hL_x_O_Sources := hL_x_O_Sources.kp hk
        replace hL_x_L := hL_x_L.kp hk
        replace hS : St F (Ow.box b_209 27 (e_api_Addr (false, (default : Ba 16))).toArray :: Ow.box b_211 24 #[.bool false, .slice none 0 0] :: Ow.box b_1 29 (c_acequialaw19_One (.bool x_F_Exclude) vx_F_Sources (.bool x_O_Exclude) vx_O_Sources x_G x_A vx_L).toArray :: fr) h_277 := hS.perm2 [1, 0, 2] 3 rfl rfl
        exact Go.Wk.HA.via (N_25 (F, b_209, b_211) _ _ ⟨rfl, rfl, rfl, rfl, rfl, rfl, rfl, rfl, rfl, rfl, rfl, rfl, rfl, hK, hS, hL_x_F_Sources, hL_x_O_Sources, hL_x_L, hM⟩) (fun L_ h_ hL_ ⟨hL_x_F_Sources, hL_x_O_Sources, hL_x_L, c201⟩ hs_ => ⟨c201, (Go.Wk.at_nil _ _)⟩)
  · rintro f_76 h_278 ⟨F_142, b_3, l_1, o_0_1, o_1_1, l_2, b_2, v_1, b_4, vo_1_1, b_5, vl_1, e2, e3, e4, e5, e6, hK, hS, hL_x_F_Sources, hL_x_O_Sources, hL_x_L, hL_1, hL_2, hM⟩
    unfold law19_MergeOne_j1 at hM
    refine HW.fr [(2, .bool false), (3, .pointer (some ⟨b_2, 0, none⟩)), (4, .pointer (some ⟨b_4, 0, none⟩)), (5, .pointer (some ⟨b_5, 0, none⟩)), (6, vl_1)] ⟨e2, e3, e4, e5, e6, trivial⟩ ?_
    refine HW.seq_mid (fun f h => ∃ (F' : Fz) (r_0_44 : Int) (r_1_44 : Bool) (r_2_1 : Ba 16) (r_18_1 : List T_api_Addr) (ok_1 : Bool) (b_212 : Nat) (vr_18_1 : Value), f 2 = .bool false ∧ f 3 = .pointer (some ⟨b_2, 0, none⟩) ∧ f 4 = .pointer (some ⟨b_4, 0, none⟩) ∧ f 5 = .pointer (some ⟨b_5, 0, none⟩) ∧ f 6 = vl_1 ∧ f 7 = .pointer (some ⟨b_212, 0, none⟩) ∧ f 8 = .bool ok_1 ∧ Kp F h0 F' h ∧ St F' (Ow.box b_2 24 #[.bool b_3, v_1] :: Ow.box b_4 24 #[.bool o_0_1, vo_1_1] :: Ow.box b_5 27 (e_api_Addr x_A).toArray :: Ow.own 27 17 e_api_Addr vl_1 l_2 :: Ow.box b_212 40 (c_api_Record (.int .i64 r_0_44) (r_1_44, r_2_1) vr_18_1).toArray :: Ow.own 27 17 e_api_Addr vr_18_1 r_18_1 :: fr) h ∧ (SliceF F' h 17 e_api_Addr vx_F_Sources x_F_Sources) ∧ (SliceF F' h 17 e_api_Addr vx_O_Sources x_O_Sources) ∧ (SliceF F' h 17 e_api_Addr vx_L x_L) ∧ (SliceF F' h 17 e_api_Addr v_1 l_1) ∧ (SliceF F' h 17 e_api_Addr vo_1_1 o_1_1) ∧ law19_MergeOne_j2 x_A Q b_3 l_1 o_0_1 o_1_1 l_2 r_0_44 r_1_44 r_2_1 r_18_1 ok_1) ?_ ?_
    · refine HW.regionA 10 mixed (fun h => (Blk h b_2 (.cells #[.bool b_3, v_1] 24 (0, 0))) ∧ (Blk h b_5 (.cells (e_api_Addr x_A).toArray 27 (0, 0)))) [] (by kernel_rfl) ?_
      refine HA.val (k := 0) (v := .agg (e_api_Addr x_A).toArray) rfl rfl (by kernel_rfl) (by kernel_rfl) (want_none) rfl (fun _ ⟨c202, c204⟩ => q_loadAgg (cs := (e_api_Addr x_A)) ta_27 rfl rfl (Blk.cells (k := 17) c204 rfl)) ?_
      refine HA.val (k := 1) (v := .agg #[.bool b_3, v_1]) rfl rfl (by kernel_rfl) (by kernel_rfl) (want_none) rfl (fun _ ⟨c202, c204⟩ => q_loadAgg (cs := [.bool b_3, v_1]) ta_24 rfl rfl (Blk.cells (k := 2) c202 rfl)) ?_
      refine HA.two (k := 2) (k' := 7) ⟨⟨(hS.box 0 rfl), (hS.box 2 rfl)⟩, (Go.Wk.at_nil _ _)⟩ (by kernel_rfl) ?_ ?_
      · refine HS.call rfl (want_none) rfl (ec en_9 rfl rfl) (law19_Few_walk (fr := (Ow.box b_2 24 #[.bool b_3, v_1] :: Ow.box b_4 24 #[.bool o_0_1, vo_1_1] :: Ow.box b_5 27 (e_api_Addr x_A).toArray :: Ow.own 27 17 e_api_Addr vl_1 l_2 :: fr)) b_3 l_1 v_1 hS hL_1 hM) ?_
        rintro _ h_279 ⟨F_143, r_0_45, r_1_45, vr_1_44, rfl, hk, hS, _, hL_81, hM⟩
        replace hK := hK.trans hk
        replace hL_x_F_Sources := hL_x_F_Sources.kp hk
        replace hL_x_O_Sources := hL_x_O_Sources.kp hk
        replace hL_x_L := hL_x_L.kp hk
        replace hL_1 := hL_1.kp hk
        replace hL_2 := hL_2.kp hk
        refine HA.two (k := 3) (k' := 7) ⟨⟨(hS.box 0 rfl), (hS.box 2 rfl)⟩, (Go.Wk.at_nil _ _)⟩ (by kernel_rfl) ?_ ?_
        · refine HS.call rfl (want_none) rfl (ec en_29 rfl rfl) (merge_Current_walk (fr := (Ow.box b_2 24 #[.bool b_3, v_1] :: Ow.box b_4 24 #[.bool o_0_1, vo_1_1] :: Ow.box b_5 27 (e_api_Addr x_A).toArray :: Ow.own 27 17 e_api_Addr vl_1 l_2 :: fr)) x_A r_0_45 r_1_45 vr_1_44 hS hL_81 hM) ?_
          rintro _ h_280 ⟨F_144, r0_0_1, r0_1_1, r0_2_1, r0_18_1, r1_1, vr0_18_1, rfl, hk, hS, _, hM⟩
          replace hK := hK.trans hk
          replace hL_x_F_Sources := hL_x_F_Sources.kp hk
          replace hL_x_O_Sources := hL_x_O_Sources.kp hk
          replace hL_x_L := hL_x_L.kp hk
          replace hL_1 := hL_1.kp hk
          replace hL_2 := hL_2.kp hk
          replace hL_81 := hL_81.kp hk
          refine HA.val (k := 4) (v := .tuple #[.agg (c_api_Record (.int .i64 r0_0_1) (r0_1_1, r0_2_1) vr0_18_1).toArray, .bool r1_1]) rfl rfl (by kernel_rfl) (by kernel_rfl) (want_none) rfl (fun _ ⟨c202, c204⟩ => q_move rfl) ?_
          refine HA.val (k := 5) (v := .agg (c_api_Record (.int .i64 r0_0_1) (r0_1_1, r0_2_1) vr0_18_1).toArray) rfl rfl (by kernel_rfl) (by kernel_rfl) (want_none) rfl (fun _ ⟨c202, c204⟩ => q_extract rfl rfl) ?_
          refine HA.val (k := 6) (v := .bool r1_1) rfl rfl (by kernel_rfl) (by kernel_rfl) (want_none) rfl (fun _ ⟨c202, c204⟩ => q_extract rfl rfl) ?_
          refine HA.one (k := 7) ⟨⟨(hS.box 1 rfl), (hS.box 3 rfl)⟩, (Go.Wk.at_nil _ _)⟩ (by kernel_rfl) ?_
          refine HS.eff rfl (want_none) rfl (st_alloc (c := (c_api_Record (.int .i64 0) (false, (default : Ba 16)) (.slice none 0 0)).toArray) hS tz_40 rfl) ?_
          rintro _ h_281 ⟨b_213, rfl, hS, hk⟩
          replace hK := hK.trans hk
          replace hL_x_F_Sources := hL_x_F_Sources.kp hk
          replace hL_x_O_Sources := hL_x_O_Sources.kp hk
          replace hL_x_L := hL_x_L.kp hk
          replace hL_1 := hL_1.kp hk
          replace hL_2 := hL_2.kp hk
          replace hL_81 := hL_81.kp hk
          refine HA.one (k := 8) ⟨⟨(hS.box 2 rfl), (hS.box 4 rfl)⟩, (Go.Wk.at_nil _ _)⟩ (by kernel_rfl) ?_
          refine HS.sto rfl (want_none) rfl (st_storeAgg (c' := (c_api_Record (.int .i64 r0_0_1) (r0_1_1, r0_2_1) vr0_18_1).toArray) hS (i := 0) rfl ta_40 rfl rfl rfl (List.forall_mem_cons.2 ⟨rfl, (List.forall_mem_cons.2 ⟨rfl, (List.forall_mem_cons.2 ⟨rfl, (List.forall_mem_cons.2 ⟨rfl, (List.forall_mem_cons.2 ⟨rfl, (List.forall_mem_cons.2 ⟨rfl, (List.forall_mem_cons.2 ⟨rfl, (List.forall_mem_cons.2 ⟨rfl, (List.forall_mem_cons.2 ⟨rfl, (List.forall_mem_cons.2 ⟨rfl, (List.forall_mem_cons.2 ⟨rfl, (List.forall_mem_cons.2 ⟨rfl, (List.forall_mem_cons.2 ⟨rfl, (List.forall_mem_cons.2 ⟨rfl, (List.forall_mem_cons.2 ⟨rfl, (List.forall_mem_cons.2 ⟨rfl, (List.forall_mem_cons.2 ⟨rfl, (List.forall_mem_cons.2 ⟨rfl, (List.forall_mem_cons.2 ⟨(shp (hS.own 1 rfl).slice).one, (fun _ h => by cases h)⟩)⟩)⟩)⟩)⟩)⟩)⟩)⟩)⟩)⟩)⟩)⟩)⟩)⟩)⟩)⟩)⟩)⟩)⟩) (Nat.le_of_ble_eq_true rfl) rfl) ?_
          rintro h_282 ⟨hS, hk⟩
          replace hS : St F_144 (Ow.box b_213 40 (c_api_Record (.int .i64 r0_0_1) (r0_1_1, r0_2_1) vr0_18_1).toArray :: Ow.own 27 17 e_api_Addr vr0_18_1 r0_18_1 :: Ow.box b_2 24 #[.bool b_3, v_1] :: Ow.box b_4 24 #[.bool o_0_1, vo_1_1] :: Ow.box b_5 27 (e_api_Addr x_A).toArray :: Ow.own 27 17 e_api_Addr vl_1 l_2 :: fr) h_282 := hS
          replace hK := hK.trans hk
          replace hL_x_F_Sources := hL_x_F_Sources.kp hk
          replace hL_x_O_Sources := hL_x_O_Sources.kp hk
          replace hL_x_L := hL_x_L.kp hk
          replace hL_1 := hL_1.kp hk
          replace hL_2 := hL_2.kp hk
          replace hL_81 := hL_81.kp hk
          refine HA.val (k := 9) (v := .bool r1_1) rfl rfl (by kernel_rfl) (by kernel_rfl) (want_none) rfl (fun _ ⟨c202, c204⟩ => q_assign rfl) ?_
          refine HA.nil ⟨⟨(hS.box 2 rfl), (hS.box 4 rfl)⟩, (Go.Wk.at_nil _ _)⟩ (by kernel_rfl) (thenQ_normal (?_))
          replace hS : St F_144 (Ow.box b_2 24 #[.bool b_3, v_1] :: Ow.box b_4 24 #[.bool o_0_1, vo_1_1] :: Ow.box b_5 27 (e_api_Addr x_A).toArray :: Ow.own 27 17 e_api_Addr vl_1 l_2 :: Ow.box b_213 40 (c_api_Record (.int .i64 r0_0_1) (r0_1_1, r0_2_1) vr0_18_1).toArray :: Ow.own 27 17 e_api_Addr vr0_18_1 r0_18_1 :: fr) h_282 := hS.perm2 [2, 3, 4, 5, 0, 1] 6 rfl rfl
          exact ⟨F_144, r0_0_1, r0_1_1, r0_2_1, r0_18_1, r1_1, b_213, vr0_18_1, rfl, rfl, rfl, rfl, rfl, rfl, rfl, hK, hS, hL_x_F_Sources, hL_x_O_Sources, hL_x_L, hL_1, hL_2, hM⟩
        · refine HS.eff rfl (want_none) rfl (st_alloc (c := (c_api_Record (.int .i64 0) (false, (default : Ba 16)) (.slice none 0 0)).toArray) hS tz_40 rfl) ?_
          rintro _ h_280 ⟨b_213, rfl, hS, hk⟩
          replace hK := hK.trans hk
          replace hL_x_F_Sources := hL_x_F_Sources.kp hk
          replace hL_x_O_Sources := hL_x_O_Sources.kp hk
          replace hL_x_L := hL_x_L.kp hk
          replace hL_1 := hL_1.kp hk
          replace hL_2 := hL_2.kp hk
          replace hL_81 := hL_81.kp hk
          refine HA.one (k := 3) ⟨⟨(hS.box 1 rfl), (hS.box 3 rfl)⟩, (Go.Wk.at_nil _ _)⟩ (by kernel_rfl) ?_
          refine HS.call rfl (want_none) rfl (ec en_29 rfl rfl) (merge_Current_walk (fr := (Ow.box b_213 40 (c_api_Record (.int .i64 0) (false, (default : Ba 16)) (.slice none 0 0)).toArray :: Ow.box b_2 24 #[.bool b_3, v_1] :: Ow.box b_4 24 #[.bool o_0_1, vo_1_1] :: Ow.box b_5 27 (e_api_Addr x_A).toArray :: Ow.own 27 17 e_api_Addr vl_1 l_2 :: fr)) x_A r_0_45 r_1_45 vr_1_44 hS hL_81 hM) ?_
          rintro _ h_281 ⟨F_144, r0_0_1, r0_1_1, r0_2_1, r0_18_1, r1_1, vr0_18_1, rfl, hk, hS, _, hM⟩
          replace hK := hK.trans hk
          replace hL_x_F_Sources := hL_x_F_Sources.kp hk
          replace hL_x_O_Sources := hL_x_O_Sources.kp hk
          replace hL_x_L := hL_x_L.kp hk
          replace hL_1 := hL_1.kp hk
          replace hL_2 := hL_2.kp hk
          replace hL_81 := hL_81.kp hk
          refine HA.val (k := 4) (v := .tuple #[.agg (c_api_Record (.int .i64 r0_0_1) (r0_1_1, r0_2_1) vr0_18_1).toArray, .bool r1_1]) rfl rfl (by kernel_rfl) (by kernel_rfl) (want_none) rfl (fun _ ⟨c202, c204⟩ => q_move rfl) ?_
          refine HA.val (k := 5) (v := .agg (c_api_Record (.int .i64 r0_0_1) (r0_1_1, r0_2_1) vr0_18_1).toArray) rfl rfl (by kernel_rfl) (by kernel_rfl) (want_none) rfl (fun _ ⟨c202, c204⟩ => q_extract rfl rfl) ?_
          refine HA.val (k := 6) (v := .bool r1_1) rfl rfl (by kernel_rfl) (by kernel_rfl) (want_none) rfl (fun _ ⟨c202, c204⟩ => q_extract rfl rfl) ?_
          refine HA.one (k := 8) ⟨⟨(hS.box 2 rfl), (hS.box 4 rfl)⟩, (Go.Wk.at_nil _ _)⟩ (by kernel_rfl) ?_
          refine HS.sto rfl (want_none) rfl (st_storeAgg (c' := (c_api_Record (.int .i64 r0_0_1) (r0_1_1, r0_2_1) vr0_18_1).toArray) hS (i := 1) rfl ta_40 rfl rfl rfl (List.forall_mem_cons.2 ⟨rfl, (List.forall_mem_cons.2 ⟨rfl, (List.forall_mem_cons.2 ⟨rfl, (List.forall_mem_cons.2 ⟨rfl, (List.forall_mem_cons.2 ⟨rfl, (List.forall_mem_cons.2 ⟨rfl, (List.forall_mem_cons.2 ⟨rfl, (List.forall_mem_cons.2 ⟨rfl, (List.forall_mem_cons.2 ⟨rfl, (List.forall_mem_cons.2 ⟨rfl, (List.forall_mem_cons.2 ⟨rfl, (List.forall_mem_cons.2 ⟨rfl, (List.forall_mem_cons.2 ⟨rfl, (List.forall_mem_cons.2 ⟨rfl, (List.forall_mem_cons.2 ⟨rfl, (List.forall_mem_cons.2 ⟨rfl, (List.forall_mem_cons.2 ⟨rfl, (List.forall_mem_cons.2 ⟨rfl, (List.forall_mem_cons.2 ⟨(shp (hS.own 0 rfl).slice).one, (fun _ h => by cases h)⟩)⟩)⟩)⟩)⟩)⟩)⟩)⟩)⟩)⟩)⟩)⟩)⟩)⟩)⟩)⟩)⟩)⟩)⟩) (Nat.le_of_ble_eq_true rfl) rfl) ?_
          rintro h_282 ⟨hS, hk⟩
          replace hS : St F_144 (Ow.own 27 17 e_api_Addr vr0_18_1 r0_18_1 :: Ow.box b_213 40 (c_api_Record (.int .i64 r0_0_1) (r0_1_1, r0_2_1) vr0_18_1).toArray :: Ow.box b_2 24 #[.bool b_3, v_1] :: Ow.box b_4 24 #[.bool o_0_1, vo_1_1] :: Ow.box b_5 27 (e_api_Addr x_A).toArray :: Ow.own 27 17 e_api_Addr vl_1 l_2 :: fr) h_282 := hS
          replace hK := hK.trans hk
          replace hL_x_F_Sources := hL_x_F_Sources.kp hk
          replace hL_x_O_Sources := hL_x_O_Sources.kp hk
          replace hL_x_L := hL_x_L.kp hk
          replace hL_1 := hL_1.kp hk
          replace hL_2 := hL_2.kp hk
          replace hL_81 := hL_81.kp hk
          refine HA.val (k := 9) (v := .bool r1_1) rfl rfl (by kernel_rfl) (by kernel_rfl) (want_none) rfl (fun _ ⟨c202, c204⟩ => q_assign rfl) ?_
          refine HA.nil ⟨⟨(hS.box 2 rfl), (hS.box 4 rfl)⟩, (Go.Wk.at_nil _ _)⟩ (by kernel_rfl) (thenQ_normal (?_))
          replace hS : St F_144 (Ow.box b_2 24 #[.bool b_3, v_1] :: Ow.box b_4 24 #[.bool o_0_1, vo_1_1] :: Ow.box b_5 27 (e_api_Addr x_A).toArray :: Ow.own 27 17 e_api_Addr vl_1 l_2 :: Ow.box b_213 40 (c_api_Record (.int .i64 r0_0_1) (r0_1_1, r0_2_1) vr0_18_1).toArray :: Ow.own 27 17 e_api_Addr vr0_18_1 r0_18_1 :: fr) h_282 := hS.perm2 [2, 3, 4, 5, 1, 0] 6 rfl rfl
          exact ⟨F_144, r0_0_1, r0_1_1, r0_2_1, r0_18_1, r1_1, b_213, vr0_18_1, rfl, rfl, rfl, rfl, rfl, rfl, rfl, hK, hS, hL_x_F_Sources, hL_x_O_Sources, hL_x_L, hL_1, hL_2, hM⟩
      · refine HS.eff rfl (want_none) rfl (st_alloc (c := (c_api_Record (.int .i64 0) (false, (default : Ba 16)) (.slice none 0 0)).toArray) hS tz_40 rfl) ?_
        rintro _ h_279 ⟨b_213, rfl, hS, hk⟩
        replace hK := hK.trans hk
        replace hL_x_F_Sources := hL_x_F_Sources.kp hk
        replace hL_x_O_Sources := hL_x_O_Sources.kp hk
        replace hL_x_L := hL_x_L.kp hk
        replace hL_1 := hL_1.kp hk
        replace hL_2 := hL_2.kp hk
        refine HA.one (k := 2) ⟨⟨(hS.box 1 rfl), (hS.box 3 rfl)⟩, (Go.Wk.at_nil _ _)⟩ (by kernel_rfl) ?_
        refine HS.call rfl (want_none) rfl (ec en_9 rfl rfl) (law19_Few_walk (fr := (Ow.box b_213 40 (c_api_Record (.int .i64 0) (false, (default : Ba 16)) (.slice none 0 0)).toArray :: Ow.box b_2 24 #[.bool b_3, v_1] :: Ow.box b_4 24 #[.bool o_0_1, vo_1_1] :: Ow.box b_5 27 (e_api_Addr x_A).toArray :: Ow.own 27 17 e_api_Addr vl_1 l_2 :: fr)) b_3 l_1 v_1 hS hL_1 hM) ?_
        rintro _ h_280 ⟨F_143, r_0_45, r_1_45, vr_1_44, rfl, hk, hS, _, hL_81, hM⟩
        replace hK := hK.trans hk
        replace hL_x_F_Sources := hL_x_F_Sources.kp hk
        replace hL_x_O_Sources := hL_x_O_Sources.kp hk
        replace hL_x_L := hL_x_L.kp hk
        replace hL_1 := hL_1.kp hk
        replace hL_2 := hL_2.kp hk
        refine HA.one (k := 3) ⟨⟨(hS.box 1 rfl), (hS.box 3 rfl)⟩, (Go.Wk.at_nil _ _)⟩ (by kernel_rfl) ?_
        refine HS.call rfl (want_none) rfl (ec en_29 rfl rfl) (merge_Current_walk (fr := (Ow.box b_213 40 (c_api_Record (.int .i64 0) (false, (default : Ba 16)) (.slice none 0 0)).toArray :: Ow.box b_2 24 #[.bool b_3, v_1] :: Ow.box b_4 24 #[.bool o_0_1, vo_1_1] :: Ow.box b_5 27 (e_api_Addr x_A).toArray :: Ow.own 27 17 e_api_Addr vl_1 l_2 :: fr)) x_A r_0_45 r_1_45 vr_1_44 hS hL_81 hM) ?_
        rintro _ h_281 ⟨F_144, r0_0_1, r0_1_1, r0_2_1, r0_18_1, r1_1, vr0_18_1, rfl, hk, hS, _, hM⟩
        replace hK := hK.trans hk
        replace hL_x_F_Sources := hL_x_F_Sources.kp hk
        replace hL_x_O_Sources := hL_x_O_Sources.kp hk
        replace hL_x_L := hL_x_L.kp hk
        replace hL_1 := hL_1.kp hk
        replace hL_2 := hL_2.kp hk
        replace hL_81 := hL_81.kp hk
        refine HA.val (k := 4) (v := .tuple #[.agg (c_api_Record (.int .i64 r0_0_1) (r0_1_1, r0_2_1) vr0_18_1).toArray, .bool r1_1]) rfl rfl (by kernel_rfl) (by kernel_rfl) (want_none) rfl (fun _ ⟨c202, c204⟩ => q_move rfl) ?_
        refine HA.val (k := 5) (v := .agg (c_api_Record (.int .i64 r0_0_1) (r0_1_1, r0_2_1) vr0_18_1).toArray) rfl rfl (by kernel_rfl) (by kernel_rfl) (want_none) rfl (fun _ ⟨c202, c204⟩ => q_extract rfl rfl) ?_
        refine HA.val (k := 6) (v := .bool r1_1) rfl rfl (by kernel_rfl) (by kernel_rfl) (want_none) rfl (fun _ ⟨c202, c204⟩ => q_extract rfl rfl) ?_
        refine HA.one (k := 8) ⟨⟨(hS.box 2 rfl), (hS.box 4 rfl)⟩, (Go.Wk.at_nil _ _)⟩ (by kernel_rfl) ?_
        refine HS.sto rfl (want_none) rfl (st_storeAgg (c' := (c_api_Record (.int .i64 r0_0_1) (r0_1_1, r0_2_1) vr0_18_1).toArray) hS (i := 1) rfl ta_40 rfl rfl rfl (List.forall_mem_cons.2 ⟨rfl, (List.forall_mem_cons.2 ⟨rfl, (List.forall_mem_cons.2 ⟨rfl, (List.forall_mem_cons.2 ⟨rfl, (List.forall_mem_cons.2 ⟨rfl, (List.forall_mem_cons.2 ⟨rfl, (List.forall_mem_cons.2 ⟨rfl, (List.forall_mem_cons.2 ⟨rfl, (List.forall_mem_cons.2 ⟨rfl, (List.forall_mem_cons.2 ⟨rfl, (List.forall_mem_cons.2 ⟨rfl, (List.forall_mem_cons.2 ⟨rfl, (List.forall_mem_cons.2 ⟨rfl, (List.forall_mem_cons.2 ⟨rfl, (List.forall_mem_cons.2 ⟨rfl, (List.forall_mem_cons.2 ⟨rfl, (List.forall_mem_cons.2 ⟨rfl, (List.forall_mem_cons.2 ⟨rfl, (List.forall_mem_cons.2 ⟨(shp (hS.own 0 rfl).slice).one, (fun _ h => by cases h)⟩)⟩)⟩)⟩)⟩)⟩)⟩)⟩)⟩)⟩)⟩)⟩)⟩)⟩)⟩)⟩)⟩)⟩)⟩) (Nat.le_of_ble_eq_true rfl) rfl) ?_
        rintro h_282 ⟨hS, hk⟩
        replace hS : St F_144 (Ow.own 27 17 e_api_Addr vr0_18_1 r0_18_1 :: Ow.box b_213 40 (c_api_Record (.int .i64 r0_0_1) (r0_1_1, r0_2_1) vr0_18_1).toArray :: Ow.box b_2 24 #[.bool b_3, v_1] :: Ow.box b_4 24 #[.bool o_0_1, vo_1_1] :: Ow.box b_5 27 (e_api_Addr x_A).toArray :: Ow.own 27 17 e_api_Addr vl_1 l_2 :: fr) h_282 := hS
        replace hK := hK.trans hk
        replace hL_x_F_Sources := hL_x_F_Sources.kp hk
        replace hL_x_O_Sources := hL_x_O_Sources.kp hk
        replace hL_x_L := hL_x_L.kp hk
        replace hL_1 := hL_1.kp hk
        replace hL_2 := hL_2.kp hk
        replace hL_81 := hL_81.kp hk
        refine HA.val (k := 9) (v := .bool r1_1) rfl rfl (by kernel_rfl) (by kernel_rfl) (want_none) rfl (fun _ ⟨c202, c204⟩ => q_assign rfl) ?_
        refine HA.nil ⟨⟨(hS.box 2 rfl), (hS.box 4 rfl)⟩, (Go.Wk.at_nil _ _)⟩ (by kernel_rfl) (thenQ_normal (?_))
        replace hS : St F_144 (Ow.box b_2 24 #[.bool b_3, v_1] :: Ow.box b_4 24 #[.bool o_0_1, vo_1_1] :: Ow.box b_5 27 (e_api_Addr x_A).toArray :: Ow.own 27 17 e_api_Addr vl_1 l_2 :: Ow.box b_213 40 (c_api_Record (.int .i64 r0_0_1) (r0_1_1, r0_2_1) vr0_18_1).toArray :: Ow.own 27 17 e_api_Addr vr0_18_1 r0_18_1 :: fr) h_282 := hS.perm2 [2, 3, 4, 5, 1, 0] 6 rfl rfl
        exact ⟨F_144, r0_0_1, r0_1_1, r0_2_1, r0_18_1, r1_1, b_213, vr0_18_1, rfl, rfl, rfl, rfl, rfl, rfl, rfl, hK, hS, hL_x_F_Sources, hL_x_O_Sources, hL_x_L, hL_1, hL_2, hM⟩
    · rintro f_77 h_283 ⟨F_145, r_0_44, r_1_44, r_2_1, r_18_1, ok_1, b_212, vr_18_1, e2, e3, e4, e5, e6, e7, e8, hK, hS, hL_x_F_Sources, hL_x_O_Sources, hL_x_L, hL_1, hL_2, hM⟩
      unfold law19_MergeOne_j2 at hM
      refine HW.fr [(2, .bool false), (3, .pointer (some ⟨b_2, 0, none⟩)), (4, .pointer (some ⟨b_4, 0, none⟩)), (5, .pointer (some ⟨b_5, 0, none⟩)), (6, vl_1), (7, .pointer (some ⟨b_212, 0, none⟩)), (8, .bool ok_1)] ⟨e2, e3, e4, e5, e6, e7, e8, trivial⟩ ?_
      refine HW.seq ?_
      refine HW.seq_mid (fun f h => ∃ (F' : Fz) (b_214 : Bool), f 2 = .bool false ∧ f 3 = .pointer (some ⟨b_2, 0, none⟩) ∧ f 5 = .pointer (some ⟨b_5, 0, none⟩) ∧ f 6 = vl_1 ∧ f 7 = .pointer (some ⟨b_212, 0, none⟩) ∧ f 58 = .bool b_214 ∧ Kp F h0 F' h ∧ St F' (Ow.box b_2 24 #[.bool b_3, v_1] :: Ow.box b_5 27 (e_api_Addr x_A).toArray :: Ow.own 27 17 e_api_Addr vl_1 l_2 :: Ow.box b_212 40 (c_api_Record (.int .i64 r_0_44) (r_1_44, r_2_1) vr_18_1).toArray :: Ow.own 27 17 e_api_Addr vr_18_1 r_18_1 :: fr) h ∧ (SliceF F' h 17 e_api_Addr vx_F_Sources x_F_Sources) ∧ (SliceF F' h 17 e_api_Addr vx_O_Sources x_O_Sources) ∧ (SliceF F' h 17 e_api_Addr vx_L x_L) ∧ (SliceF F' h 17 e_api_Addr v_1 l_1) ∧ (SliceF F' h 17 e_api_Addr vo_1_1 o_1_1) ∧ law19_MergeOne_j3 x_A Q b_3 l_1 l_2 r_0_44 r_1_44 r_2_1 r_18_1 b_214) ?_ ?_
      · refine HW.regionA 31 mixed (fun h => (Blk h b_2 (.cells #[.bool b_3, v_1] 24 (0, 0))) ∧ (Blk h b_4 (.cells #[.bool o_0_1, vo_1_1] 24 (0, 0))) ∧ (Blk h b_5 (.cells (e_api_Addr x_A).toArray 27 (0, 0)))) [] (by kernel_rfl) ?_
        refine HA.val (k := 0) (v := .agg #[.bool b_3, v_1]) rfl rfl (by kernel_rfl) (by kernel_rfl) (want_none) rfl (fun _ ⟨c206, c207, c208⟩ => q_loadAgg (cs := [.bool b_3, v_1]) ta_24 rfl rfl (Blk.cells (k := 2) c206 rfl)) ?_
        refine HA.val (k := 1) (v := .agg (e_api_Addr x_A).toArray) rfl rfl (by kernel_rfl) (by kernel_rfl) (want_none) rfl (fun _ ⟨c206, c207, c208⟩ => q_loadAgg (cs := (e_api_Addr x_A)) ta_27 rfl rfl (Blk.cells (k := 17) c208 rfl)) ?_
        refine HA.val (k := 3) (v := .agg #[.bool b_3, v_1]) rfl rfl (by kernel_rfl) (by kernel_rfl) (want_none) rfl (fun _ ⟨c206, c207, c208⟩ => q_loadAgg (cs := [.bool b_3, v_1]) ta_24 rfl rfl (Blk.cells (k := 2) c206 rfl)) ?_
        refine HA.val (k := 4) (v := .agg (e_api_Addr x_A).toArray) rfl rfl (by kernel_rfl) (by kernel_rfl) (want_none) rfl (fun _ ⟨c206, c207, c208⟩ => q_loadAgg (cs := (e_api_Addr x_A)) ta_27 rfl rfl (Blk.cells (k := 17) c208 rfl)) ?_
        refine HA.one (k := 2) ⟨⟨(hS.box 0 rfl), (hS.box 1 rfl), (hS.box 2 rfl)⟩, (Go.Wk.at_nil _ _)⟩ (by kernel_rfl) ?_
        refine HS.call rfl (want_none) rfl (ec en_19 rfl rfl) (merge_Lets_walk (fr := (Ow.box b_2 24 #[.bool b_3, v_1] :: Ow.box b_4 24 #[.bool o_0_1, vo_1_1] :: Ow.box b_5 27 (e_api_Addr x_A).toArray :: Ow.own 27 17 e_api_Addr vl_1 l_2 :: Ow.box b_212 40 (c_api_Record (.int .i64 r_0_44) (r_1_44, r_2_1) vr_18_1).toArray :: Ow.own 27 17 e_api_Addr vr_18_1 r_18_1 :: fr)) b_3 l_1 x_A v_1 hS hL_1 hM) ?_
        rintro _ h_284 ⟨F_146, r_25, rfl, hk, hS, _, hM⟩
        replace hK := hK.trans hk
        replace hL_x_F_Sources := hL_x_F_Sources.kp hk
        replace hL_x_O_Sources := hL_x_O_Sources.kp hk
        replace hL_x_L := hL_x_L.kp hk
        replace hL_1 := hL_1.kp hk
        replace hL_2 := hL_2.kp hk
        refine HA.one (k := 5) ⟨⟨(hS.box 0 rfl), (hS.box 1 rfl), (hS.box 2 rfl)⟩, (Go.Wk.at_nil _ _)⟩ (by kernel_rfl) ?_
        refine HS.call rfl (want_none) rfl (ec en_14 rfl rfl) (ref19_Lets_walk (fr := (Ow.box b_2 24 #[.bool b_3, v_1] :: Ow.box b_4 24 #[.bool o_0_1, vo_1_1] :: Ow.box b_5 27 (e_api_Addr x_A).toArray :: Ow.own 27 17 e_api_Addr vl_1 l_2 :: Ow.box b_212 40 (c_api_Record (.int .i64 r_0_44) (r_1_44, r_2_1) vr_18_1).toArray :: Ow.own 27 17 e_api_Addr vr_18_1 r_18_1 :: fr)) b_3 l_1 x_A v_1 hS hL_1 hM) ?_
        rintro _ h_285 ⟨F_147, r_26, rfl, hk, hS, _, hM⟩
        replace hK := hK.trans hk
        replace hL_x_F_Sources := hL_x_F_Sources.kp hk
        replace hL_x_O_Sources := hL_x_O_Sources.kp hk
        replace hL_x_L := hL_x_L.kp hk
        replace hL_1 := hL_1.kp hk
        replace hL_2 := hL_2.kp hk
        refine HA.val (k := 6) (v := .bool (!(r_25 == r_26))) rfl rfl (by kernel_rfl) (by kernel_rfl) (want_none) rfl (fun _ ⟨c206, c207, c208⟩ => q_neqB Tryd.underlying4 rfl rfl) ?_
        refine HA.val (k := 7) (v := .bool (!(r_25 == r_26))) rfl rfl (by kernel_rfl) (by kernel_rfl) (want_none) rfl (fun _ ⟨c206, c207, c208⟩ => q_move rfl) ?_
        rcases Bool.eq_false_or_eq_true (!(r_25 == r_26)) with c_1 | c_1
        · replace hM := hM.1 c_1
          refine HA.past (k := 8) rfl rfl (by kernel_rfl) (by kernel_rfl) (past_by rfl rfl c_1) rfl ?_
          refine HA.past (k := 10) rfl rfl (by kernel_rfl) (by kernel_rfl) (past_by rfl rfl c_1) rfl ?_
          refine HA.one (k := 9) ⟨⟨(hS.box 0 rfl), (hS.box 1 rfl), (hS.box 2 rfl)⟩, (Go.Wk.at_nil _ _)⟩ (by kernel_rfl) ?_
          refine HS.past rfl (past_by rfl rfl c_1) rfl ?_
          refine HA.one (k := 11) ⟨⟨(hS.box 0 rfl), (hS.box 1 rfl), (hS.box 2 rfl)⟩, (Go.Wk.at_nil _ _)⟩ (by kernel_rfl) ?_
          refine HS.past rfl (past_by rfl rfl c_1) rfl ?_
          refine HA.past (k := 12) rfl rfl (by kernel_rfl) (by kernel_rfl) (past_by rfl rfl c_1) rfl ?_
          refine HA.val (k := 13) (v := .bool true) rfl rfl (by kernel_rfl) (by kernel_rfl) (want_none) rfl (fun _ ⟨c206, c207, c208⟩ => q_pickK true rfl c_1 rfl) ?_
          refine HA.val (k := 14) (v := .bool true) rfl rfl (by kernel_rfl) (by kernel_rfl) (want_none) rfl (fun _ ⟨c206, c207, c208⟩ => q_move rfl) ?_
          refine HA.past (k := 15) rfl rfl (by kernel_rfl) (by kernel_rfl) (past_some rfl rfl) rfl ?_
          refine HA.past (k := 17) rfl rfl (by kernel_rfl) (by kernel_rfl) (past_some rfl rfl) rfl ?_
          refine HA.past (k := 20) rfl rfl (by kernel_rfl) (by kernel_rfl) (past_some rfl rfl) rfl ?_
          refine HA.past (k := 21) rfl rfl (by kernel_rfl) (by kernel_rfl) (past_some rfl rfl) rfl ?_
          refine HA.one (k := 16) ⟨⟨(hS.box 0 rfl), (hS.box 1 rfl), (hS.box 2 rfl)⟩, (Go.Wk.at_nil _ _)⟩ (by kernel_rfl) ?_
          refine HS.past rfl (past_some rfl rfl) rfl ?_
          refine HA.one (k := 18) ⟨⟨(hS.box 0 rfl), (hS.box 1 rfl), (hS.box 2 rfl)⟩, (Go.Wk.at_nil _ _)⟩ (by kernel_rfl) ?_
          refine HS.past rfl (past_some rfl rfl) rfl ?_
          refine HA.one (k := 19) ⟨⟨(hS.box 0 rfl), (hS.box 1 rfl), (hS.box 2 rfl)⟩, (Go.Wk.at_nil _ _)⟩ (by kernel_rfl) ?_
          refine HS.past rfl (past_some rfl rfl) rfl ?_
          refine HA.one (k := 22) ⟨⟨(hS.box 0 rfl), (hS.box 1 rfl), (hS.box 2 rfl)⟩, (Go.Wk.at_nil _ _)⟩ (by kernel_rfl) ?_
          refine HS.past rfl (past_some rfl rfl) rfl ?_
          refine HA.past (k := 23) rfl rfl (by kernel_rfl) (by kernel_rfl) (past_some rfl rfl) rfl ?_
          refine HA.val (k := 24) (v := .bool true) rfl rfl (by kernel_rfl) (by kernel_rfl) (want_none) rfl (fun _ ⟨c206, c207, c208⟩ => q_pick rfl rfl) ?_
          refine HA.val (k := 25) (v := .bool true) rfl rfl (by kernel_rfl) (by kernel_rfl) (want_none) rfl (fun _ ⟨c206, c207, c208⟩ => q_move rfl) ?_
          refine HA.past (k := 26) rfl rfl (by kernel_rfl) (by kernel_rfl) (past_some rfl rfl) rfl ?_
          refine HA.past (k := 27) rfl rfl (by kernel_rfl) (by kernel_rfl) (past_some rfl rfl) rfl ?_
          refine HA.one (k := 28) ⟨⟨(hS.box 0 rfl), (hS.box 1 rfl), (hS.box 2 rfl)⟩, (Go.Wk.at_nil _ _)⟩ (by kernel_rfl) ?_
          refine HS.past rfl (past_some rfl rfl) rfl ?_
          refine HA.past (k := 29) rfl rfl (by kernel_rfl) (by kernel_rfl) (past_some rfl rfl) rfl ?_
          refine HA.val (k := 30) (v := .bool true) rfl rfl (by kernel_rfl) (by kernel_rfl) (want_none) rfl (fun _ ⟨c206, c207, c208⟩ => q_pick rfl rfl) ?_
          refine HA.nil ⟨⟨(hS.box 0 rfl), (hS.box 1 rfl), (hS.box 2 rfl)⟩, (Go.Wk.at_nil _ _)⟩ (by kernel_rfl) (thenQ_normal (?_))
          replace hS : St F_147 (Ow.box b_2 24 #[.bool b_3, v_1] :: Ow.box b_5 27 (e_api_Addr x_A).toArray :: Ow.own 27 17 e_api_Addr vl_1 l_2 :: Ow.box b_212 40 (c_api_Record (.int .i64 r_0_44) (r_1_44, r_2_1) vr_18_1).toArray :: Ow.own 27 17 e_api_Addr vr_18_1 r_18_1 :: fr) h_285 := hS.perm2 [0, 2, 3, 4, 5] 6 rfl rfl
          exact ⟨F_147, true, rfl, rfl, rfl, rfl, rfl, rfl, hK, hS, hL_x_F_Sources, hL_x_O_Sources, hL_x_L, hL_1, hL_2, hM⟩
        · replace hM := hM.2 c_1
          refine HA.val (k := 8) (v := .agg #[.bool b_3, v_1]) rfl rfl (by kernel_rfl) (by kernel_rfl) (want_by rfl rfl c_1) rfl (fun _ ⟨c206, c207, c208⟩ => q_loadAgg (cs := [.bool b_3, v_1]) ta_24 rfl rfl (Blk.cells (k := 2) c206 rfl)) ?_
          refine HA.val (k := 10) (v := .agg #[.bool b_3, v_1]) rfl rfl (by kernel_rfl) (by kernel_rfl) (want_by rfl rfl c_1) rfl (fun _ ⟨c206, c207, c208⟩ => q_loadAgg (cs := [.bool b_3, v_1]) ta_24 rfl rfl (Blk.cells (k := 2) c206 rfl)) ?_
          refine HA.one (k := 9) ⟨⟨(hS.box 0 rfl), (hS.box 1 rfl), (hS.box 2 rfl)⟩, (Go.Wk.at_nil _ _)⟩ (by kernel_rfl) ?_
          refine HS.call rfl (want_by rfl rfl c_1) rfl (ec en_30 rfl rfl) (merge_None_walk (fr := (Ow.box b_2 24 #[.bool b_3, v_1] :: Ow.box b_4 24 #[.bool o_0_1, vo_1_1] :: Ow.box b_5 27 (e_api_Addr x_A).toArray :: Ow.own 27 17 e_api_Addr vl_1 l_2 :: Ow.box b_212 40 (c_api_Record (.int .i64 r_0_44) (r_1_44, r_2_1) vr_18_1).toArray :: Ow.own 27 17 e_api_Addr vr_18_1 r_18_1 :: fr)) b_3 l_1 v_1 hS hL_1 hM) ?_
          rintro _ h_286 ⟨F_148, r_27, rfl, hk, hS, _, hM⟩
          replace hK := hK.trans hk
          replace hL_x_F_Sources := hL_x_F_Sources.kp hk
          replace hL_x_O_Sources := hL_x_O_Sources.kp hk
          replace hL_x_L := hL_x_L.kp hk
          replace hL_1 := hL_1.kp hk
          replace hL_2 := hL_2.kp hk
          refine HA.one (k := 11) ⟨⟨(hS.box 0 rfl), (hS.box 1 rfl), (hS.box 2 rfl)⟩, (Go.Wk.at_nil _ _)⟩ (by kernel_rfl) ?_
          refine HS.call rfl (want_by rfl rfl c_1) rfl (ec en_31 rfl rfl) (ref19_None_walk (fr := (Ow.box b_2 24 #[.bool b_3, v_1] :: Ow.box b_4 24 #[.bool o_0_1, vo_1_1] :: Ow.box b_5 27 (e_api_Addr x_A).toArray :: Ow.own 27 17 e_api_Addr vl_1 l_2 :: Ow.box b_212 40 (c_api_Record (.int .i64 r_0_44) (r_1_44, r_2_1) vr_18_1).toArray :: Ow.own 27 17 e_api_Addr vr_18_1 r_18_1 :: fr)) b_3 l_1 v_1 hS hL_1 hM) ?_
          rintro _ h_287 ⟨F_149, r_28, rfl, hk, hS, _, hM⟩
          replace hK := hK.trans hk
          replace hL_x_F_Sources := hL_x_F_Sources.kp hk
          replace hL_x_O_Sources := hL_x_O_Sources.kp hk
          replace hL_x_L := hL_x_L.kp hk
          replace hL_1 := hL_1.kp hk
          replace hL_2 := hL_2.kp hk
          refine HA.val (k := 12) (v := .bool (!(r_27 == r_28))) rfl rfl (by kernel_rfl) (by kernel_rfl) (want_by rfl rfl c_1) rfl (fun _ ⟨c206, c207, c208⟩ => q_neqB Tryd.underlying4 rfl rfl) ?_
          refine HA.val (k := 13) (v := .bool (!(r_27 == r_28))) rfl rfl (by kernel_rfl) (by kernel_rfl) (want_none) rfl (fun _ ⟨c206, c207, c208⟩ => q_pickK false rfl c_1 rfl) ?_
          refine HA.val (k := 14) (v := .bool (!(r_27 == r_28))) rfl rfl (by kernel_rfl) (by kernel_rfl) (want_none) rfl (fun _ ⟨c206, c207, c208⟩ => q_move rfl) ?_
          rcases Bool.eq_false_or_eq_true (!(r_27 == r_28)) with c_2 | c_2
          · replace hM := hM.1 c_2
            refine HA.past (k := 15) rfl rfl (by kernel_rfl) (by kernel_rfl) (past_by rfl rfl c_2) rfl ?_
            refine HA.past (k := 17) rfl rfl (by kernel_rfl) (by kernel_rfl) (past_by rfl rfl c_2) rfl ?_
            refine HA.past (k := 20) rfl rfl (by kernel_rfl) (by kernel_rfl) (past_by rfl rfl c_2) rfl ?_
            refine HA.past (k := 21) rfl rfl (by kernel_rfl) (by kernel_rfl) (past_by rfl rfl c_2) rfl ?_
            refine HA.one (k := 16) ⟨⟨(hS.box 0 rfl), (hS.box 1 rfl), (hS.box 2 rfl)⟩, (Go.Wk.at_nil _ _)⟩ (by kernel_rfl) ?_
            refine HS.past rfl (past_by rfl rfl c_2) rfl ?_
            refine HA.one (k := 18) ⟨⟨(hS.box 0 rfl), (hS.box 1 rfl), (hS.box 2 rfl)⟩, (Go.Wk.at_nil _ _)⟩ (by kernel_rfl) ?_
            refine HS.past rfl (past_by rfl rfl c_2) rfl ?_
            refine HA.one (k := 19) ⟨⟨(hS.box 0 rfl), (hS.box 1 rfl), (hS.box 2 rfl)⟩, (Go.Wk.at_nil _ _)⟩ (by kernel_rfl) ?_
            refine HS.past rfl (past_by rfl rfl c_2) rfl ?_
            refine HA.one (k := 22) ⟨⟨(hS.box 0 rfl), (hS.box 1 rfl), (hS.box 2 rfl)⟩, (Go.Wk.at_nil _ _)⟩ (by kernel_rfl) ?_
            refine HS.past rfl (past_by rfl rfl c_2) rfl ?_
            refine HA.past (k := 23) rfl rfl (by kernel_rfl) (by kernel_rfl) (past_by rfl rfl c_2) rfl ?_
            refine HA.val (k := 24) (v := .bool true) rfl rfl (by kernel_rfl) (by kernel_rfl) (want_none) rfl (fun _ ⟨c206, c207, c208⟩ => q_pickK true rfl c_2 rfl) ?_
            refine HA.val (k := 25) (v := .bool true) rfl rfl (by kernel_rfl) (by kernel_rfl) (want_none) rfl (fun _ ⟨c206, c207, c208⟩ => q_move rfl) ?_
            refine HA.past (k := 26) rfl rfl (by kernel_rfl) (by kernel_rfl) (past_some rfl rfl) rfl ?_
            refine HA.past (k := 27) rfl rfl (by kernel_rfl) (by kernel_rfl) (past_some rfl rfl) rfl ?_
            refine HA.one (k := 28) ⟨⟨(hS.box 0 rfl), (hS.box 1 rfl), (hS.box 2 rfl)⟩, (Go.Wk.at_nil _ _)⟩ (by kernel_rfl) ?_
            refine HS.past rfl (past_some rfl rfl) rfl ?_
            refine HA.past (k := 29) rfl rfl (by kernel_rfl) (by kernel_rfl) (past_some rfl rfl) rfl ?_
            refine HA.val (k := 30) (v := .bool true) rfl rfl (by kernel_rfl) (by kernel_rfl) (want_none) rfl (fun _ ⟨c206, c207, c208⟩ => q_pick rfl rfl) ?_
            refine HA.nil ⟨⟨(hS.box 0 rfl), (hS.box 1 rfl), (hS.box 2 rfl)⟩, (Go.Wk.at_nil _ _)⟩ (by kernel_rfl) (thenQ_normal (?_))
            replace hS : St F_149 (Ow.box b_2 24 #[.bool b_3, v_1] :: Ow.box b_5 27 (e_api_Addr x_A).toArray :: Ow.own 27 17 e_api_Addr vl_1 l_2 :: Ow.box b_212 40 (c_api_Record (.int .i64 r_0_44) (r_1_44, r_2_1) vr_18_1).toArray :: Ow.own 27 17 e_api_Addr vr_18_1 r_18_1 :: fr) h_287 := hS.perm2 [0, 2, 3, 4, 5] 6 rfl rfl
            exact ⟨F_149, true, rfl, rfl, rfl, rfl, rfl, rfl, hK, hS, hL_x_F_Sources, hL_x_O_Sources, hL_x_L, hL_1, hL_2, hM⟩
          · replace hM := hM.2 c_2
            refine HA.val (k := 15) (v := .agg #[.bool b_3, v_1]) rfl rfl (by kernel_rfl) (by kernel_rfl) (want_by rfl rfl c_2) rfl (fun _ ⟨c206, c207, c208⟩ => q_loadAgg (cs := [.bool b_3, v_1]) ta_24 rfl rfl (Blk.cells (k := 2) c206 rfl)) ?_
            refine HA.val (k := 17) (v := .agg #[.bool o_0_1, vo_1_1]) rfl rfl (by kernel_rfl) (by kernel_rfl) (want_by rfl rfl c_2) rfl (fun _ ⟨c206, c207, c208⟩ => q_loadAgg (cs := [.bool o_0_1, vo_1_1]) ta_24 rfl rfl (Blk.cells (k := 2) c207 rfl)) ?_
            refine HA.val (k := 20) (v := .agg #[.bool b_3, v_1]) rfl rfl (by kernel_rfl) (by kernel_rfl) (want_by rfl rfl c_2) rfl (fun _ ⟨c206, c207, c208⟩ => q_loadAgg (cs := [.bool b_3, v_1]) ta_24 rfl rfl (Blk.cells (k := 2) c206 rfl)) ?_
            refine HA.val (k := 21) (v := .agg #[.bool o_0_1, vo_1_1]) rfl rfl (by kernel_rfl) (by kernel_rfl) (want_by rfl rfl c_2) rfl (fun _ ⟨c206, c207, c208⟩ => q_loadAgg (cs := [.bool o_0_1, vo_1_1]) ta_24 rfl rfl (Blk.cells (k := 2) c207 rfl)) ?_
            refine HA.one (k := 16) ⟨⟨(hS.box 0 rfl), (hS.box 1 rfl), (hS.box 2 rfl)⟩, (Go.Wk.at_nil _ _)⟩ (by kernel_rfl) ?_
            refine HS.call rfl (want_by rfl rfl c_2) rfl (ec en_9 rfl rfl) (law19_Few_walk (fr := (Ow.box b_2 24 #[.bool b_3, v_1] :: Ow.box b_4 24 #[.bool o_0_1, vo_1_1] :: Ow.box b_5 27 (e_api_Addr x_A).toArray :: Ow.own 27 17 e_api_Addr vl_1 l_2 :: Ow.box b_212 40 (c_api_Record (.int .i64 r_0_44) (r_1_44, r_2_1) vr_18_1).toArray :: Ow.own 27 17 e_api_Addr vr_18_1 r_18_1 :: fr)) b_3 l_1 v_1 hS hL_1 hM) ?_
            rintro _ h_288 ⟨F_150, r_0_46, r_1_46, vr_1_45, rfl, hk, hS, _, hL_82, hM⟩
            replace hK := hK.trans hk
            replace hL_x_F_Sources := hL_x_F_Sources.kp hk
            replace hL_x_O_Sources := hL_x_O_Sources.kp hk
            replace hL_x_L := hL_x_L.kp hk
            replace hL_1 := hL_1.kp hk
            replace hL_2 := hL_2.kp hk
            refine HA.one (k := 18) ⟨⟨(hS.box 0 rfl), (hS.box 1 rfl), (hS.box 2 rfl)⟩, (Go.Wk.at_nil _ _)⟩ (by kernel_rfl) ?_
            refine HS.call rfl (want_by rfl rfl c_2) rfl (ec en_9 rfl rfl) (law19_Few_walk (fr := (Ow.box b_2 24 #[.bool b_3, v_1] :: Ow.box b_4 24 #[.bool o_0_1, vo_1_1] :: Ow.box b_5 27 (e_api_Addr x_A).toArray :: Ow.own 27 17 e_api_Addr vl_1 l_2 :: Ow.box b_212 40 (c_api_Record (.int .i64 r_0_44) (r_1_44, r_2_1) vr_18_1).toArray :: Ow.own 27 17 e_api_Addr vr_18_1 r_18_1 :: fr)) o_0_1 o_1_1 vo_1_1 hS hL_2 hM) ?_
            rintro _ h_289 ⟨F_151, r_0_47, r_1_47, vr_1_46, rfl, hk, hS, _, hL_83, hM⟩
            replace hK := hK.trans hk
            replace hL_x_F_Sources := hL_x_F_Sources.kp hk
            replace hL_x_O_Sources := hL_x_O_Sources.kp hk
            replace hL_x_L := hL_x_L.kp hk
            replace hL_1 := hL_1.kp hk
            replace hL_2 := hL_2.kp hk
            replace hL_82 := hL_82.kp hk
            refine HA.one (k := 19) ⟨⟨(hS.box 0 rfl), (hS.box 1 rfl), (hS.box 2 rfl)⟩, (Go.Wk.at_nil _ _)⟩ (by kernel_rfl) ?_
            refine HS.call rfl (want_by rfl rfl c_2) rfl (ec en_32 rfl rfl) (merge_Same_walk (fr := (Ow.box b_2 24 #[.bool b_3, v_1] :: Ow.box b_4 24 #[.bool o_0_1, vo_1_1] :: Ow.box b_5 27 (e_api_Addr x_A).toArray :: Ow.own 27 17 e_api_Addr vl_1 l_2 :: Ow.box b_212 40 (c_api_Record (.int .i64 r_0_44) (r_1_44, r_2_1) vr_18_1).toArray :: Ow.own 27 17 e_api_Addr vr_18_1 r_18_1 :: fr)) r_0_46 r_1_46 r_0_47 r_1_47 vr_1_45 vr_1_46 hS hL_82 hL_83 hM) ?_
            rintro _ h_290 ⟨F_152, r_29, rfl, hk, hS, _, _, hM⟩
            replace hK := hK.trans hk
            replace hL_x_F_Sources := hL_x_F_Sources.kp hk
            replace hL_x_O_Sources := hL_x_O_Sources.kp hk
            replace hL_x_L := hL_x_L.kp hk
            replace hL_1 := hL_1.kp hk
            replace hL_2 := hL_2.kp hk
            replace hL_82 := hL_82.kp hk
            replace hL_83 := hL_83.kp hk
            refine HA.one (k := 22) ⟨⟨(hS.box 0 rfl), (hS.box 1 rfl), (hS.box 2 rfl)⟩, (Go.Wk.at_nil _ _)⟩ (by kernel_rfl) ?_
            refine HS.call rfl (want_by rfl rfl c_2) rfl (ec en_20 rfl rfl) (ref19_Same_walk (fr := (Ow.box b_2 24 #[.bool b_3, v_1] :: Ow.box b_4 24 #[.bool o_0_1, vo_1_1] :: Ow.box b_5 27 (e_api_Addr x_A).toArray :: Ow.own 27 17 e_api_Addr vl_1 l_2 :: Ow.box b_212 40 (c_api_Record (.int .i64 r_0_44) (r_1_44, r_2_1) vr_18_1).toArray :: Ow.own 27 17 e_api_Addr vr_18_1 r_18_1 :: fr)) b_3 l_1 o_0_1 o_1_1 v_1 vo_1_1 hS hL_1 hL_2 hM) ?_
            rintro _ h_291 ⟨F_153, r_30, rfl, hk, hS, _, _, hM⟩
            replace hK := hK.trans hk
            replace hL_x_F_Sources := hL_x_F_Sources.kp hk
            replace hL_x_O_Sources := hL_x_O_Sources.kp hk
            replace hL_x_L := hL_x_L.kp hk
            replace hL_1 := hL_1.kp hk
            replace hL_2 := hL_2.kp hk
            replace hL_82 := hL_82.kp hk
            replace hL_83 := hL_83.kp hk
            refine HA.val (k := 23) (v := .bool (!(r_29 == r_30))) rfl rfl (by kernel_rfl) (by kernel_rfl) (want_by rfl rfl c_2) rfl (fun _ ⟨c206, c207, c208⟩ => q_neqB Tryd.underlying4 rfl rfl) ?_
            refine HA.val (k := 24) (v := .bool (!(r_29 == r_30))) rfl rfl (by kernel_rfl) (by kernel_rfl) (want_none) rfl (fun _ ⟨c206, c207, c208⟩ => q_pickK false rfl c_2 rfl) ?_
            refine HA.val (k := 25) (v := .bool (!(r_29 == r_30))) rfl rfl (by kernel_rfl) (by kernel_rfl) (want_none) rfl (fun _ ⟨c206, c207, c208⟩ => q_move rfl) ?_
            rcases Bool.eq_false_or_eq_true (!(r_29 == r_30)) with c_3 | c_3
            · replace hM := hM.1 c_3
              refine HA.past (k := 26) rfl rfl (by kernel_rfl) (by kernel_rfl) (past_by rfl rfl c_3) rfl ?_
              refine HA.past (k := 27) rfl rfl (by kernel_rfl) (by kernel_rfl) (past_by rfl rfl c_3) rfl ?_
              refine HA.one (k := 28) ⟨⟨(hS.box 0 rfl), (hS.box 1 rfl), (hS.box 2 rfl)⟩, (Go.Wk.at_nil _ _)⟩ (by kernel_rfl) ?_
              refine HS.past rfl (past_by rfl rfl c_3) rfl ?_
              refine HA.past (k := 29) rfl rfl (by kernel_rfl) (by kernel_rfl) (past_by rfl rfl c_3) rfl ?_
              refine HA.val (k := 30) (v := .bool true) rfl rfl (by kernel_rfl) (by kernel_rfl) (want_none) rfl (fun _ ⟨c206, c207, c208⟩ => q_pickK true rfl c_3 rfl) ?_
              refine HA.nil ⟨⟨(hS.box 0 rfl), (hS.box 1 rfl), (hS.box 2 rfl)⟩, (Go.Wk.at_nil _ _)⟩ (by kernel_rfl) (thenQ_normal (?_))
              replace hS : St F_153 (Ow.box b_2 24 #[.bool b_3, v_1] :: Ow.box b_5 27 (e_api_Addr x_A).toArray :: Ow.own 27 17 e_api_Addr vl_1 l_2 :: Ow.box b_212 40 (c_api_Record (.int .i64 r_0_44) (r_1_44, r_2_1) vr_18_1).toArray :: Ow.own 27 17 e_api_Addr vr_18_1 r_18_1 :: fr) h_291 := hS.perm2 [0, 2, 3, 4, 5] 6 rfl rfl
              exact ⟨F_153, true, rfl, rfl, rfl, rfl, rfl, rfl, hK, hS, hL_x_F_Sources, hL_x_O_Sources, hL_x_L, hL_1, hL_2, hM⟩
            · replace hM := hM.2 c_3
              refine HA.val (k := 26) (v := .bool ok_1) rfl rfl (by kernel_rfl) (by kernel_rfl) (want_by rfl rfl c_3) rfl (fun _ ⟨c206, c207, c208⟩ => q_move rfl) ?_
              refine HA.val (k := 27) (v := .agg #[.bool b_3, v_1]) rfl rfl (by kernel_rfl) (by kernel_rfl) (want_by rfl rfl c_3) rfl (fun _ ⟨c206, c207, c208⟩ => q_loadAgg (cs := [.bool b_3, v_1]) ta_24 rfl rfl (Blk.cells (k := 2) c206 rfl)) ?_
              refine HA.one (k := 28) ⟨⟨(hS.box 0 rfl), (hS.box 1 rfl), (hS.box 2 rfl)⟩, (Go.Wk.at_nil _ _)⟩ (by kernel_rfl) ?_
              refine HS.call rfl (want_by rfl rfl c_3) rfl (ec en_31 rfl rfl) (ref19_None_walk (fr := (Ow.box b_2 24 #[.bool b_3, v_1] :: Ow.box b_4 24 #[.bool o_0_1, vo_1_1] :: Ow.box b_5 27 (e_api_Addr x_A).toArray :: Ow.own 27 17 e_api_Addr vl_1 l_2 :: Ow.box b_212 40 (c_api_Record (.int .i64 r_0_44) (r_1_44, r_2_1) vr_18_1).toArray :: Ow.own 27 17 e_api_Addr vr_18_1 r_18_1 :: fr)) b_3 l_1 v_1 hS hL_1 hM) ?_
              rintro _ h_292 ⟨F_154, r_31, rfl, hk, hS, _, hM⟩
              replace hK := hK.trans hk
              replace hL_x_F_Sources := hL_x_F_Sources.kp hk
              replace hL_x_O_Sources := hL_x_O_Sources.kp hk
              replace hL_x_L := hL_x_L.kp hk
              replace hL_1 := hL_1.kp hk
              replace hL_2 := hL_2.kp hk
              replace hL_82 := hL_82.kp hk
              replace hL_83 := hL_83.kp hk
              refine HA.val (k := 29) (v := .bool (ok_1 == r_31)) rfl rfl (by kernel_rfl) (by kernel_rfl) (want_by rfl rfl c_3) rfl (fun _ ⟨c206, c207, c208⟩ => q_eqlB Tryd.underlying4 rfl rfl) ?_
              refine HA.val (k := 30) (v := .bool (ok_1 == r_31)) rfl rfl (by kernel_rfl) (by kernel_rfl) (want_none) rfl (fun _ ⟨c206, c207, c208⟩ => q_pickK false rfl c_3 rfl) ?_
              refine HA.nil ⟨⟨(hS.box 0 rfl), (hS.box 1 rfl), (hS.box 2 rfl)⟩, (Go.Wk.at_nil _ _)⟩ (by kernel_rfl) (thenQ_normal (?_))
              replace hS : St F_154 (Ow.box b_2 24 #[.bool b_3, v_1] :: Ow.box b_5 27 (e_api_Addr x_A).toArray :: Ow.own 27 17 e_api_Addr vl_1 l_2 :: Ow.box b_212 40 (c_api_Record (.int .i64 r_0_44) (r_1_44, r_2_1) vr_18_1).toArray :: Ow.own 27 17 e_api_Addr vr_18_1 r_18_1 :: fr) h_292 := hS.perm2 [0, 2, 3, 4, 5] 6 rfl rfl
              exact ⟨F_154, ok_1 == r_31, rfl, rfl, rfl, rfl, rfl, rfl, hK, hS, hL_x_F_Sources, hL_x_O_Sources, hL_x_L, hL_1, hL_2, hM⟩
      · rintro f_78 h_293 ⟨F_155, b_214, e2, e3, e5, e6, e7, e58, hK, hS, hL_x_F_Sources, hL_x_O_Sources, hL_x_L, hL_1, hL_2, hM⟩
        unfold law19_MergeOne_j3 at hM
        refine HW.fr [(2, .bool false), (3, .pointer (some ⟨b_2, 0, none⟩)), (5, .pointer (some ⟨b_5, 0, none⟩)), (6, vl_1), (7, .pointer (some ⟨b_212, 0, none⟩)), (58, .bool b_214)] ⟨e2, e3, e5, e6, e7, e58, trivial⟩ ?_
        refine HW.cond b_214 rfl (fun c_4 => ?_) (fun c_4 => ?_)
        · replace hM := hM.1 c_4
          refine HW.seq ?_
          refine HW.region ?_
          refine HO.val (v := .bool false) (want_none) rfl (q_assign rfl) ?_
          refine HO.nil (thenQ_normal (?_))
          refine HW.ret (thenQ_ret (?_))
          refine ⟨.inr rfl, .bool false, res1 rfl (rt rfl), ?_⟩
          replace hS : St F_155 (fr) h_293 := hS.perm2 [] 5 rfl rfl
          exact ⟨F_155, false, rfl, hK, hS, hL_x_F_Sources, hL_x_O_Sources, hL_x_L, hM⟩
        · replace hM := hM.2 c_4
          refine HW.skip (thenQ_normal (?_))
          refine HW.seq ?_
          refine HW.region ?_
          refine HO.val (v := .agg (e_api_Addr x_A).toArray) (want_none) rfl (q_loadAgg (cs := (e_api_Addr x_A)) ta_27 rfl rfl (Blk.cells (k := 17) (hS.box 1 rfl) rfl)) ?_
          refine HO.val (v := .pointer (some ⟨b_2, 1, none⟩)) (want_none) rfl (q_fieldAddr fa_24_1 rfl rfl) ?_
          refine HO.val (v := v_1) (want_none) rfl (q_load to_22 rfl (Blk.cell (hS.box 0 rfl) rfl)) ?_
          refine HO.val (v := .agg (c_api_Record (.int .i64 1) x_A v_1).toArray) (want_none) rfl (q_build tp_40 (fill_cons (cs' := (c_api_Record (.int .i64 1) (false, (default : Ba 16)) (.slice none 0 0)).toArray) (vc := #[.int .i64 1]) rfl rfl rfl (Nat.le_of_ble_eq_true rfl) rfl (fill_cons (cs' := (c_api_Record (.int .i64 1) x_A (.slice none 0 0)).toArray) (vc := (e_api_Addr x_A).toArray) rfl rfl rfl (Nat.le_of_ble_eq_true rfl) rfl (fill_cons (cs' := (c_api_Record (.int .i64 1) x_A v_1).toArray) (vc := #[v_1]) rfl (shp hL_1.is).cells rfl (Nat.le_of_ble_eq_true rfl) rfl rfl)))) ?_
          refine HO.eff (want_none) rfl (st_alloc (c := (c_api_Record (.int .i64 0) (false, (default : Ba 16)) (.slice none 0 0)).toArray) hS tz_40 rfl) ?_
          rintro _ h_294 ⟨b_215, rfl, hS, hk⟩
          replace hK := hK.trans hk
          replace hL_x_F_Sources := hL_x_F_Sources.kp hk
          replace hL_x_O_Sources := hL_x_O_Sources.kp hk
          replace hL_x_L := hL_x_L.kp hk
          replace hL_1 := hL_1.kp hk
          replace hL_2 := hL_2.kp hk
          refine HO.sto (want_none) rfl (st_storeAgg (c' := (c_api_Record (.int .i64 1) x_A v_1).toArray) hS (i := 0) rfl ta_40 rfl rfl rfl (List.forall_mem_cons.2 ⟨rfl, (List.forall_mem_cons.2 ⟨rfl, (List.forall_mem_cons.2 ⟨rfl, (List.forall_mem_cons.2 ⟨rfl, (List.forall_mem_cons.2 ⟨rfl, (List.forall_mem_cons.2 ⟨rfl, (List.forall_mem_cons.2 ⟨rfl, (List.forall_mem_cons.2 ⟨rfl, (List.forall_mem_cons.2 ⟨rfl, (List.forall_mem_cons.2 ⟨rfl, (List.forall_mem_cons.2 ⟨rfl, (List.forall_mem_cons.2 ⟨rfl, (List.forall_mem_cons.2 ⟨rfl, (List.forall_mem_cons.2 ⟨rfl, (List.forall_mem_cons.2 ⟨rfl, (List.forall_mem_cons.2 ⟨rfl, (List.forall_mem_cons.2 ⟨rfl, (List.forall_mem_cons.2 ⟨rfl, (List.forall_mem_cons.2 ⟨(shp hL_1.is).one, (fun _ h => by cases h)⟩)⟩)⟩)⟩)⟩)⟩)⟩)⟩)⟩)⟩)⟩)⟩)⟩)⟩)⟩)⟩)⟩)⟩)⟩) (Nat.le_of_ble_eq_true rfl) rfl) ?_
          rintro h_295 ⟨hS, hk⟩
          replace hS : St F_155 (Ow.box b_215 40 (c_api_Record (.int .i64 1) x_A v_1).toArray :: Ow.box b_2 24 #[.bool b_3, v_1] :: Ow.box b_5 27 (e_api_Addr x_A).toArray :: Ow.own 27 17 e_api_Addr vl_1 l_2 :: Ow.box b_212 40 (c_api_Record (.int .i64 r_0_44) (r_1_44, r_2_1) vr_18_1).toArray :: Ow.own 27 17 e_api_Addr vr_18_1 r_18_1 :: fr) h_295 := hS
          replace hK := hK.trans hk
          replace hL_x_F_Sources := hL_x_F_Sources.kp hk
          replace hL_x_O_Sources := hL_x_O_Sources.kp hk
          replace hL_x_L := hL_x_L.kp hk
          replace hL_1 := hL_1.kp hk
          replace hL_2 := hL_2.kp hk
          refine HO.nil (thenQ_normal (?_))
          refine HW.seq_mid (fun f h => ∃ (F' : Fz) (want_0_1 : Int), f 2 = .bool false ∧ f 3 = .pointer (some ⟨b_2, 0, none⟩) ∧ f 6 = vl_1 ∧ f 7 = .pointer (some ⟨b_212, 0, none⟩) ∧ f 9 = .pointer (some ⟨b_215, 0, none⟩) ∧ Kp F h0 F' h ∧ St F' (Ow.box b_2 24 #[.bool b_3, v_1] :: Ow.own 27 17 e_api_Addr vl_1 l_2 :: Ow.box b_212 40 (c_api_Record (.int .i64 r_0_44) (r_1_44, r_2_1) vr_18_1).toArray :: Ow.own 27 17 e_api_Addr vr_18_1 r_18_1 :: Ow.box b_215 40 (c_api_Record (.int .i64 want_0_1) x_A v_1).toArray :: fr) h ∧ (SliceF F' h 17 e_api_Addr vx_F_Sources x_F_Sources) ∧ (SliceF F' h 17 e_api_Addr vx_O_Sources x_O_Sources) ∧ (SliceF F' h 17 e_api_Addr vx_L x_L) ∧ (SliceF F' h 17 e_api_Addr v_1 l_1) ∧ (SliceF F' h 17 e_api_Addr vo_1_1 o_1_1) ∧ law19_MergeOne_j4 x_A Q b_3 l_1 l_2 r_0_44 r_1_44 r_2_1 r_18_1 want_0_1) ?_ ?_
          · refine HW.seq ?_
            refine HW.region ?_
            refine HO.val (v := .pointer (some ⟨b_2, 0, none⟩)) (want_none) rfl (q_fieldAddr fa_24_0 rfl rfl) ?_
            refine HO.val (v := .bool b_3) (want_none) rfl (q_load to_4 rfl (Blk.cell (hS.box 1 rfl) rfl)) ?_
            refine HO.nil (thenQ_normal (?_))
            refine HW.cond b_3 rfl (fun c_5 => ?_) (fun c_5 => ?_)
            · replace hM := hM.1 c_5
              refine HW.region ?_
              refine HO.val (v := .pointer (some ⟨b_215, 0, none⟩)) (want_none) rfl (q_fieldAddr fa_40_0 rfl rfl) ?_
              refine HO.sto (want_none) rfl (st_store (c' := (c_api_Record (.int .i64 2) x_A v_1).toArray) hS (i := 0) rfl to_3 rfl rfl rfl rfl (Nat.le_of_ble_eq_true rfl) rfl) ?_
              rintro h_296 ⟨hS, hk⟩
              replace hS : St F_155 (Ow.box b_215 40 (c_api_Record (.int .i64 2) x_A v_1).toArray :: Ow.box b_2 24 #[.bool b_3, v_1] :: Ow.box b_5 27 (e_api_Addr x_A).toArray :: Ow.own 27 17 e_api_Addr vl_1 l_2 :: Ow.box b_212 40 (c_api_Record (.int .i64 r_0_44) (r_1_44, r_2_1) vr_18_1).toArray :: Ow.own 27 17 e_api_Addr vr_18_1 r_18_1 :: fr) h_296 := hS
              replace hK := hK.trans hk
              replace hL_x_F_Sources := hL_x_F_Sources.kp hk
              replace hL_x_O_Sources := hL_x_O_Sources.kp hk
              replace hL_x_L := hL_x_L.kp hk
              replace hL_1 := hL_1.kp hk
              replace hL_2 := hL_2.kp hk
              refine HO.nil (thenQ_normal (?_))
              replace hS : St F_155 (Ow.box b_2 24 #[.bool b_3, v_1] :: Ow.own 27 17 e_api_Addr vl_1 l_2 :: Ow.box b_212 40 (c_api_Record (.int .i64 r_0_44) (r_1_44, r_2_1) vr_18_1).toArray :: Ow.own 27 17 e_api_Addr vr_18_1 r_18_1 :: Ow.box b_215 40 (c_api_Record (.int .i64 2) x_A v_1).toArray :: fr) h_296 := hS.perm2 [1, 3, 4, 5, 0] 6 rfl rfl
              exact ⟨F_155, 2, rfl, rfl, rfl, rfl, rfl, hK, hS, hL_x_F_Sources, hL_x_O_Sources, hL_x_L, hL_1, hL_2, hM⟩
            · replace hM := hM.2 c_5
              refine HW.skip (thenQ_normal (?_))
              replace hS : St F_155 (Ow.box b_2 24 #[.bool b_3, v_1] :: Ow.own 27 17 e_api_Addr vl_1 l_2 :: Ow.box b_212 40 (c_api_Record (.int .i64 r_0_44) (r_1_44, r_2_1) vr_18_1).toArray :: Ow.own 27 17 e_api_Addr vr_18_1 r_18_1 :: Ow.box b_215 40 (c_api_Record (.int .i64 1) x_A v_1).toArray :: fr) h_295 := hS.perm2 [1, 3, 4, 5, 0] 6 rfl rfl
              exact ⟨F_155, 1, rfl, rfl, rfl, rfl, rfl, hK, hS, hL_x_F_Sources, hL_x_O_Sources, hL_x_L, hL_1, hL_2, hM⟩
          · rintro f_79 h_297 ⟨F_156, want_0_1, e2, e3, e6, e7, e9, hK, hS, hL_x_F_Sources, hL_x_O_Sources, hL_x_L, hL_1, hL_2, hM⟩
            unfold law19_MergeOne_j4 at hM
            refine HW.fr [(2, .bool false), (3, .pointer (some ⟨b_2, 0, none⟩)), (6, vl_1), (7, .pointer (some ⟨b_212, 0, none⟩)), (9, .pointer (some ⟨b_215, 0, none⟩))] ⟨e2, e3, e6, e7, e9, trivial⟩ ?_
            refine HW.seq_mid (fun f h => ∃ (F' : Fz) (want_0_2 : Int) (want_1_1 : Bool) (want_2_1 : Ba 16) (want_18_1 : List T_api_Addr) (vwant_18_1 : Value), f 2 = .bool false ∧ f 3 = .pointer (some ⟨b_2, 0, none⟩) ∧ f 6 = vl_1 ∧ f 7 = .pointer (some ⟨b_212, 0, none⟩) ∧ f 9 = .pointer (some ⟨b_215, 0, none⟩) ∧ Kp F h0 F' h ∧ St F' (Ow.box b_2 24 #[.bool b_3, v_1] :: Ow.own 27 17 e_api_Addr vl_1 l_2 :: Ow.box b_212 40 (c_api_Record (.int .i64 r_0_44) (r_1_44, r_2_1) vr_18_1).toArray :: Ow.own 27 17 e_api_Addr vr_18_1 r_18_1 :: Ow.box b_215 40 (c_api_Record (.int .i64 want_0_2) (want_1_1, want_2_1) vwant_18_1).toArray :: fr) h ∧ (SliceF F' h 17 e_api_Addr vx_F_Sources x_F_Sources) ∧ (SliceF F' h 17 e_api_Addr vx_O_Sources x_O_Sources) ∧ (SliceF F' h 17 e_api_Addr vx_L x_L) ∧ (SliceF F' h 17 e_api_Addr v_1 l_1) ∧ (SliceF F' h 17 e_api_Addr vo_1_1 o_1_1) ∧ (SliceF F' h 17 e_api_Addr vwant_18_1 want_18_1) ∧ law19_MergeOne_j5 Q b_3 l_1 l_2 r_0_44 r_1_44 r_2_1 r_18_1 want_0_2 want_1_1 want_2_1 want_18_1) ?_ ?_
            · refine HW.seq ?_
              refine HW.region ?_
              refine HO.val (v := .agg #[.bool b_3, v_1]) (want_none) rfl (q_loadAgg (cs := [.bool b_3, v_1]) ta_24 rfl rfl (Blk.cells (k := 2) (hS.box 0 rfl) rfl)) ?_
              refine HO.call (want_none) rfl (ec en_31 rfl rfl) (ref19_None_walk (fr := (Ow.box b_2 24 #[.bool b_3, v_1] :: Ow.own 27 17 e_api_Addr vl_1 l_2 :: Ow.box b_212 40 (c_api_Record (.int .i64 r_0_44) (r_1_44, r_2_1) vr_18_1).toArray :: Ow.own 27 17 e_api_Addr vr_18_1 r_18_1 :: Ow.box b_215 40 (c_api_Record (.int .i64 want_0_1) x_A v_1).toArray :: fr)) b_3 l_1 v_1 hS hL_1 hM) ?_
              rintro _ h_298 ⟨F_157, r_32, rfl, hk, hS, _, hM⟩
              replace hK := hK.trans hk
              replace hL_x_F_Sources := hL_x_F_Sources.kp hk
              replace hL_x_O_Sources := hL_x_O_Sources.kp hk
              replace hL_x_L := hL_x_L.kp hk
              replace hL_1 := hL_1.kp hk
              replace hL_2 := hL_2.kp hk
              refine HO.nil (thenQ_normal (?_))
              refine HW.cond r_32 rfl (fun c_6 => ?_) (fun c_6 => ?_)
              · replace hM := hM.1 c_6
                refine HW.region ?_
                refine HO.val (v := .agg (c_api_Record (.int .i64 0) (false, (default : Ba 16)) (.slice none 0 0)).toArray) (want_none) rfl (q_build tp_40 rfl) ?_
                refine HO.sto (want_none) rfl (st_storeAgg (c' := (c_api_Record (.int .i64 0) (false, (default : Ba 16)) (.slice none 0 0)).toArray) hS (i := 4) rfl ta_40 rfl rfl rfl (List.forall_mem_cons.2 ⟨rfl, (List.forall_mem_cons.2 ⟨rfl, (List.forall_mem_cons.2 ⟨rfl, (List.forall_mem_cons.2 ⟨rfl, (List.forall_mem_cons.2 ⟨rfl, (List.forall_mem_cons.2 ⟨rfl, (List.forall_mem_cons.2 ⟨rfl, (List.forall_mem_cons.2 ⟨rfl, (List.forall_mem_cons.2 ⟨rfl, (List.forall_mem_cons.2 ⟨rfl, (List.forall_mem_cons.2 ⟨rfl, (List.forall_mem_cons.2 ⟨rfl, (List.forall_mem_cons.2 ⟨rfl, (List.forall_mem_cons.2 ⟨rfl, (List.forall_mem_cons.2 ⟨rfl, (List.forall_mem_cons.2 ⟨rfl, (List.forall_mem_cons.2 ⟨rfl, (List.forall_mem_cons.2 ⟨rfl, (List.forall_mem_cons.2 ⟨rfl, (fun _ h => by cases h)⟩)⟩)⟩)⟩)⟩)⟩)⟩)⟩)⟩)⟩)⟩)⟩)⟩)⟩)⟩)⟩)⟩)⟩)⟩) (Nat.le_of_ble_eq_true rfl) rfl) ?_
                rintro h_299 ⟨hS, hk⟩
                replace hS : St F_157 (Ow.box b_2 24 #[.bool b_3, v_1] :: Ow.own 27 17 e_api_Addr vl_1 l_2 :: Ow.box b_212 40 (c_api_Record (.int .i64 r_0_44) (r_1_44, r_2_1) vr_18_1).toArray :: Ow.own 27 17 e_api_Addr vr_18_1 r_18_1 :: Ow.box b_215 40 (c_api_Record (.int .i64 0) (false, (default : Ba 16)) (.slice none 0 0)).toArray :: fr) h_299 := hS
                replace hK := hK.trans hk
                replace hL_x_F_Sources := hL_x_F_Sources.kp hk
                replace hL_x_O_Sources := hL_x_O_Sources.kp hk
                replace hL_x_L := hL_x_L.kp hk
                replace hL_1 := hL_1.kp hk
                replace hL_2 := hL_2.kp hk
                refine HO.nil (thenQ_normal (?_))
                exact ⟨F_157, 0, false, (default : Ba 16), [], .slice none 0 0, rfl, rfl, rfl, rfl, rfl, hK, hS, hL_x_F_Sources, hL_x_O_Sources, hL_x_L, hL_1, hL_2, (SliceF.nil _ _ _ _), hM⟩
              · replace hM := hM.2 c_6
                refine HW.skip (thenQ_normal (?_))
                exact ⟨F_157, want_0_1, x_A.1, x_A.2, l_1, v_1, rfl, rfl, rfl, rfl, rfl, hK, hS, hL_x_F_Sources, hL_x_O_Sources, hL_x_L, hL_1, hL_2, hL_1, hM⟩
            · rintro f_80 h_300 ⟨F_158, want_0_2, want_1_1, want_2_1, want_18_1, vwant_18_1, e2, e3, e6, e7, e9, hK, hS, hL_x_F_Sources, hL_x_O_Sources, hL_x_L, hL_1, hL_2, hL_84, hM⟩
              unfold law19_MergeOne_j5 at hM
              refine HW.fr [(2, .bool false), (3, .pointer (some ⟨b_2, 0, none⟩)), (6, vl_1), (7, .pointer (some ⟨b_212, 0, none⟩)), (9, .pointer (some ⟨b_215, 0, none⟩))] ⟨e2, e3, e6, e7, e9, trivial⟩ ?_
              refine HW.seq ?_
              replace hM := hM vr_18_1
              replace hM := hM vwant_18_1
              refine HW.regionA 20 mixed (fun h => (Blk h b_2 (.cells #[.bool b_3, v_1] 24 (0, 0))) ∧ (Blk h b_212 (.cells (c_api_Record (.int .i64 r_0_44) (r_1_44, r_2_1) vr_18_1).toArray 40 (0, 0))) ∧ (Blk h b_215 (.cells (c_api_Record (.int .i64 want_0_2) (want_1_1, want_2_1) vwant_18_1).toArray 40 (0, 0)))) [] (by kernel_rfl) ?_
              refine HA.val (k := 0) (v := .agg (c_api_Record (.int .i64 r_0_44) (r_1_44, r_2_1) vr_18_1).toArray) rfl rfl (by kernel_rfl) (by kernel_rfl) (want_none) rfl (fun _ ⟨c223, c225, c227⟩ => q_loadAgg (cs := (c_api_Record (.int .i64 r_0_44) (r_1_44, r_2_1) vr_18_1)) ta_40 rfl rfl (Blk.cells (k := 19) c225 rfl)) ?_
              refine HA.val (k := 2) (v := .agg (c_api_Record (.int .i64 want_0_2) (want_1_1, want_2_1) vwant_18_1).toArray) rfl rfl (by kernel_rfl) (by kernel_rfl) (want_none) rfl (fun _ ⟨c223, c225, c227⟩ => q_loadAgg (cs := (c_api_Record (.int .i64 want_0_2) (want_1_1, want_2_1) vwant_18_1)) ta_40 rfl rfl (Blk.cells (k := 19) c227 rfl)) ?_
              refine HA.two (k := 1) (k' := 3) ⟨⟨(hS.box 0 rfl), (hS.box 2 rfl), (hS.box 4 rfl)⟩, (Go.Wk.at_nil _ _)⟩ (by kernel_rfl) ?_ ?_
              · replace hS : St F_158 (Ow.own 27 17 e_api_Addr vr_18_1 r_18_1 :: Ow.box b_2 24 #[.bool b_3, v_1] :: Ow.own 27 17 e_api_Addr vl_1 l_2 :: Ow.box b_212 40 (c_api_Record (.int .i64 r_0_44) (r_1_44, r_2_1) vr_18_1).toArray :: Ow.box b_215 40 (c_api_Record (.int .i64 want_0_2) (want_1_1, want_2_1) vwant_18_1).toArray :: fr) h_300 := hS.perm2 [3, 0, 1, 2, 4] 5 rfl rfl
                obtain ⟨F_159, hS, hk, hL_85⟩ := hS.freezeOwn
                replace hK := hK.trans hk
                replace hL_x_F_Sources := hL_x_F_Sources.kp hk
                replace hL_x_O_Sources := hL_x_O_Sources.kp hk
                replace hL_x_L := hL_x_L.kp hk
                replace hL_1 := hL_1.kp hk
                replace hL_2 := hL_2.kp hk
                replace hL_84 := hL_84.kp hk
                refine HS.eff rfl (want_none) rfl (st_lit (enc := e_api_Record) (cells := #[.int .i64 r_0_44, .bool r_1_44, .int .u8 (b8 r_2_1 0), .int .u8 (b8 r_2_1 1), .int .u8 (b8 r_2_1 2), .int .u8 (b8 r_2_1 3), .int .u8 (b8 r_2_1 4), .int .u8 (b8 r_2_1 5), .int .u8 (b8 r_2_1 6), .int .u8 (b8 r_2_1 7), .int .u8 (b8 r_2_1 8), .int .u8 (b8 r_2_1 9), .int .u8 (b8 r_2_1 10), .int .u8 (b8 r_2_1 11), .int .u8 (b8 r_2_1 12), .int .u8 (b8 r_2_1 13), .int .u8 (b8 r_2_1 14), .int .u8 (b8 r_2_1 15), vr_18_1]) #[.int .i64 0, .bool false, .int .u8 0, .int .u8 0, .int .u8 0, .int .u8 0, .int .u8 0, .int .u8 0, .int .u8 0, .int .u8 0, .int .u8 0, .int .u8 0, .int .u8 0, .int .u8 0, .int .u8 0, .int .u8 0, .int .u8 0, .int .u8 0, .slice none 0 0] ([(r_0_44, (r_1_44, r_2_1), (vr_18_1, r_18_1))] : List T_api_Record) hS tl_31 (by decide) (by decide) (by kernel_rfl) (by kernel_rfl) rfl (by intro x hx; rfl) rfl) ?_
                rintro _ h_301 ⟨b_216, rfl, hS, hk⟩
                replace hK := hK.trans hk
                replace hL_x_F_Sources := hL_x_F_Sources.kp hk
                replace hL_x_O_Sources := hL_x_O_Sources.kp hk
                replace hL_x_L := hL_x_L.kp hk
                replace hL_1 := hL_1.kp hk
                replace hL_2 := hL_2.kp hk
                replace hL_84 := hL_84.kp hk
                replace hL_85 := hL_85.kp hk
                have hN_1 : NfL nf_api_Record F_159 h_301 ([(r_0_44, (r_1_44, r_2_1), (vr_18_1, r_18_1))] : List T_api_Record) := (NfL.cons (nfm_api_Record (r_0_44, (r_1_44, r_2_1), (vr_18_1, r_18_1)) hL_85) (NfL.nil _ _ _))
                refine HA.one (k := 3) ⟨⟨(hS.box 1 rfl), (hS.box 3 rfl), (hS.box 4 rfl)⟩, (Go.Wk.at_nil _ _)⟩ (by kernel_rfl) ?_
                refine HS.eff rfl (want_none) rfl (st_lit (enc := e_api_Record) (cells := #[.int .i64 want_0_2, .bool want_1_1, .int .u8 (b8 want_2_1 0), .int .u8 (b8 want_2_1 1), .int .u8 (b8 want_2_1 2), .int .u8 (b8 want_2_1 3), .int .u8 (b8 want_2_1 4), .int .u8 (b8 want_2_1 5), .int .u8 (b8 want_2_1 6), .int .u8 (b8 want_2_1 7), .int .u8 (b8 want_2_1 8), .int .u8 (b8 want_2_1 9), .int .u8 (b8 want_2_1 10), .int .u8 (b8 want_2_1 11), .int .u8 (b8 want_2_1 12), .int .u8 (b8 want_2_1 13), .int .u8 (b8 want_2_1 14), .int .u8 (b8 want_2_1 15), vwant_18_1]) #[.int .i64 0, .bool false, .int .u8 0, .int .u8 0, .int .u8 0, .int .u8 0, .int .u8 0, .int .u8 0, .int .u8 0, .int .u8 0, .int .u8 0, .int .u8 0, .int .u8 0, .int .u8 0, .int .u8 0, .int .u8 0, .int .u8 0, .int .u8 0, .slice none 0 0] ([(want_0_2, (want_1_1, want_2_1), (vwant_18_1, want_18_1))] : List T_api_Record) hS tl_31 (by decide) (by decide) (by kernel_rfl) (by kernel_rfl) rfl (by intro x hx; rfl) rfl) ?_
                rintro _ h_302 ⟨b_217, rfl, hS, hk⟩
                replace hK := hK.trans hk
                replace hL_x_F_Sources := hL_x_F_Sources.kp hk
                replace hL_x_O_Sources := hL_x_O_Sources.kp hk
                replace hL_x_L := hL_x_L.kp hk
                replace hL_1 := hL_1.kp hk
                replace hL_2 := hL_2.kp hk
                replace hL_84 := hL_84.kp hk
                replace hL_85 := hL_85.kp hk
                replace hN_1 := hN_1.kp hk
                have hN_2 : NfL nf_api_Record F_159 h_302 ([(want_0_2, (want_1_1, want_2_1), (vwant_18_1, want_18_1))] : List T_api_Record) := (NfL.cons (nfm_api_Record (want_0_2, (want_1_1, want_2_1), (vwant_18_1, want_18_1)) hL_84) (NfL.nil _ _ _))
                refine HA.one (k := 4) ⟨⟨(hS.box 2 rfl), (hS.box 4 rfl), (hS.box 5 rfl)⟩, (Go.Wk.at_nil _ _)⟩ (by kernel_rfl) ?_
                replace hS : St F_159 (Ow.own 40 19 e_api_Record (.slice (some ⟨b_216, 0, none⟩) 1 1) ([(r_0_44, (r_1_44, r_2_1), (vr_18_1, r_18_1))] : List T_api_Record) :: Ow.own 40 19 e_api_Record (.slice (some ⟨b_217, 0, none⟩) 1 1) ([(want_0_2, (want_1_1, want_2_1), (vwant_18_1, want_18_1))] : List T_api_Record) :: Ow.box b_2 24 #[.bool b_3, v_1] :: Ow.own 27 17 e_api_Addr vl_1 l_2 :: Ow.box b_212 40 (c_api_Record (.int .i64 r_0_44) (r_1_44, r_2_1) vr_18_1).toArray :: Ow.box b_215 40 (c_api_Record (.int .i64 want_0_2) (want_1_1, want_2_1) vwant_18_1).toArray :: fr) h_302 := hS.perm2 [1, 0, 2, 3, 4, 5] 6 rfl rfl
                have hZ_1 := hS
                have hkz_1 := (hS.freeze).2
                replace hS := hS.freeze.1
                have hL_86 : SliceF (fun b => F_159 b ∨ (Ow.own 40 19 e_api_Record (.slice (some ⟨b_216, 0, none⟩) 1 1) ([(r_0_44, (r_1_44, r_2_1), (vr_18_1, r_18_1))] : List T_api_Record)).foot b) h_302 19 e_api_Record (.slice (some ⟨b_216, 0, none⟩) 1 1) ([(r_0_44, (r_1_44, r_2_1), (vr_18_1, r_18_1))] : List T_api_Record) := ⟨(hZ_1.own 0 rfl).slice, fun _ b hb => .inr hb⟩
                have hZ_2 := hS
                have hkz_2 := (hS.freeze).2
                replace hS := hS.freeze.1
                have hL_87 : SliceF (fun b => (fun b => F_159 b ∨ (Ow.own 40 19 e_api_Record (.slice (some ⟨b_216, 0, none⟩) 1 1) ([(r_0_44, (r_1_44, r_2_1), (vr_18_1, r_18_1))] : List T_api_Record)).foot b) b ∨ (Ow.own 40 19 e_api_Record (.slice (some ⟨b_217, 0, none⟩) 1 1) ([(want_0_2, (want_1_1, want_2_1), (vwant_18_1, want_18_1))] : List T_api_Record)).foot b) h_302 19 e_api_Record (.slice (some ⟨b_217, 0, none⟩) 1 1) ([(want_0_2, (want_1_1, want_2_1), (vwant_18_1, want_18_1))] : List T_api_Record) := ⟨(hZ_2.own 0 rfl).slice, fun _ b hb => .inr hb⟩
                refine HS.call rfl (want_none) rfl (ec en_11 rfl rfl) (ref08_SameRecords_walk (fr := (Ow.box b_2 24 #[.bool b_3, v_1] :: Ow.own 27 17 e_api_Addr vl_1 l_2 :: Ow.box b_212 40 (c_api_Record (.int .i64 r_0_44) (r_1_44, r_2_1) vr_18_1).toArray :: Ow.box b_215 40 (c_api_Record (.int .i64 want_0_2) (want_1_1, want_2_1) vwant_18_1).toArray :: fr)) ([(r_0_44, (r_1_44, r_2_1), (vr_18_1, r_18_1))] : List T_api_Record) ([(want_0_2, (want_1_1, want_2_1), (vwant_18_1, want_18_1))] : List T_api_Record) (.slice (some ⟨b_216, 0, none⟩) 1 1) (.slice (some ⟨b_217, 0, none⟩) 1 1) hS (NfL.kp (NfL.kp hN_1 hkz_1) hkz_2) (hL_86.kp hkz_2) (NfL.kp (NfL.kp hN_2 hkz_1) hkz_2) hL_87 hM) ?_
                rintro _ h_303 ⟨F_160, r_33, rfl, hk, hS, _, _, _, _, hM⟩
                obtain ⟨hS, hk⟩ := hZ_2.back hk hS
                obtain ⟨hS, hk⟩ := hZ_1.back hk hS
                generalize (fun b => (fun b => F_160 b ∧ ¬ (Ow.own 40 19 e_api_Record (.slice (some ⟨b_217, 0, none⟩) 1 1) ([(want_0_2, (want_1_1, want_2_1), (vwant_18_1, want_18_1))] : List T_api_Record)).foot b) b ∧ ¬ (Ow.own 40 19 e_api_Record (.slice (some ⟨b_216, 0, none⟩) 1 1) ([(r_0_44, (r_1_44, r_2_1), (vr_18_1, r_18_1))] : List T_api_Record)).foot b) = F_161 at hS hk
                replace hK := hK.trans hk
                replace hL_x_F_Sources := hL_x_F_Sources.kp hk
                replace hL_x_O_Sources := hL_x_O_Sources.kp hk
                replace hL_x_L := hL_x_L.kp hk
                replace hL_1 := hL_1.kp hk
                replace hL_2 := hL_2.kp hk
                replace hL_84 := hL_84.kp hk
                replace hL_85 := hL_85.kp hk
                replace hN_1 := hN_1.kp hk
                replace hN_2 := hN_2.kp hk
                refine HA.val (k := 5) (v := .bool r_33) rfl rfl (by kernel_rfl) (by kernel_rfl) (want_none) rfl (fun _ ⟨c223, c225, c227⟩ => q_move rfl) ?_
                rcases Bool.eq_false_or_eq_true r_33 with c_7 | c_7
                · replace hM := hM.1 c_7
                  refine HA.val (k := 6) (v := .agg #[.bool b_3, v_1]) rfl rfl (by kernel_rfl) (by kernel_rfl) (want_by rfl rfl c_7) rfl (fun _ ⟨c223, c225, c227⟩ => q_loadAgg (cs := [.bool b_3, v_1]) ta_24 rfl rfl (Blk.cells (k := 2) c223 rfl)) ?_
                  refine HA.val (k := 8) (v := vl_1) rfl rfl (by kernel_rfl) (by kernel_rfl) (want_by rfl rfl c_7) rfl (fun _ ⟨c223, c225, c227⟩ => q_move rfl) ?_
                  refine HA.val (k := 11) (v := .agg #[.bool b_3, v_1]) rfl rfl (by kernel_rfl) (by kernel_rfl) (want_by rfl rfl c_7) rfl (fun _ ⟨c223, c225, c227⟩ => q_loadAgg (cs := [.bool b_3, v_1]) ta_24 rfl rfl (Blk.cells (k := 2) c223 rfl)) ?_
                  refine HA.val (k := 12) (v := vl_1) rfl rfl (by kernel_rfl) (by kernel_rfl) (want_by rfl rfl c_7) rfl (fun _ ⟨c223, c225, c227⟩ => q_move rfl) ?_
                  refine HA.one (k := 7) ⟨⟨(hS.box 2 rfl), (hS.box 4 rfl), (hS.box 5 rfl)⟩, (Go.Wk.at_nil _ _)⟩ (by kernel_rfl) ?_
                  refine HS.call rfl (want_by rfl rfl c_7) rfl (ec en_9 rfl rfl) (law19_Few_walk (fr := (Ow.own 40 19 e_api_Record (.slice (some ⟨b_216, 0, none⟩) 1 1) ([(r_0_44, (r_1_44, r_2_1), (vr_18_1, r_18_1))] : List T_api_Record) :: Ow.own 40 19 e_api_Record (.slice (some ⟨b_217, 0, none⟩) 1 1) ([(want_0_2, (want_1_1, want_2_1), (vwant_18_1, want_18_1))] : List T_api_Record) :: Ow.box b_2 24 #[.bool b_3, v_1] :: Ow.own 27 17 e_api_Addr vl_1 l_2 :: Ow.box b_212 40 (c_api_Record (.int .i64 r_0_44) (r_1_44, r_2_1) vr_18_1).toArray :: Ow.box b_215 40 (c_api_Record (.int .i64 want_0_2) (want_1_1, want_2_1) vwant_18_1).toArray :: fr)) b_3 l_1 v_1 hS hL_1 hM) ?_
                  rintro _ h_304 ⟨F_162, r_0_48, r_1_48, vr_1_47, rfl, hk, hS, _, hL_88, hM⟩
                  replace hK := hK.trans hk
                  replace hL_x_F_Sources := hL_x_F_Sources.kp hk
                  replace hL_x_O_Sources := hL_x_O_Sources.kp hk
                  replace hL_x_L := hL_x_L.kp hk
                  replace hL_1 := hL_1.kp hk
                  replace hL_2 := hL_2.kp hk
                  replace hL_84 := hL_84.kp hk
                  replace hL_85 := hL_85.kp hk
                  replace hN_1 := hN_1.kp hk
                  replace hN_2 := hN_2.kp hk
                  refine HA.one (k := 9) ⟨⟨(hS.box 2 rfl), (hS.box 4 rfl), (hS.box 5 rfl)⟩, (Go.Wk.at_nil _ _)⟩ (by kernel_rfl) ?_
                  replace hS : St F_162 (Ow.own 27 17 e_api_Addr vl_1 l_2 :: Ow.own 40 19 e_api_Record (.slice (some ⟨b_216, 0, none⟩) 1 1) ([(r_0_44, (r_1_44, r_2_1), (vr_18_1, r_18_1))] : List T_api_Record) :: Ow.own 40 19 e_api_Record (.slice (some ⟨b_217, 0, none⟩) 1 1) ([(want_0_2, (want_1_1, want_2_1), (vwant_18_1, want_18_1))] : List T_api_Record) :: Ow.box b_2 24 #[.bool b_3, v_1] :: Ow.box b_212 40 (c_api_Record (.int .i64 r_0_44) (r_1_44, r_2_1) vr_18_1).toArray :: Ow.box b_215 40 (c_api_Record (.int .i64 want_0_2) (want_1_1, want_2_1) vwant_18_1).toArray :: fr) h_304 := hS.perm2 [3, 0, 1, 2, 4, 5] 6 rfl rfl
                  have hZ_3 := hS
                  have hkz_3 := (hS.freeze).2
                  replace hS := hS.freeze.1
                  have hL_89 : SliceF (fun b => F_162 b ∨ (Ow.own 27 17 e_api_Addr vl_1 l_2).foot b) h_304 17 e_api_Addr vl_1 l_2 := ⟨(hZ_3.own 0 rfl).slice, fun _ b hb => .inr hb⟩
                  refine HS.call rfl (want_by rfl rfl c_7) rfl (ec en_25 rfl rfl) (law08_Addrs_walk (fr := (Ow.own 40 19 e_api_Record (.slice (some ⟨b_216, 0, none⟩) 1 1) ([(r_0_44, (r_1_44, r_2_1), (vr_18_1, r_18_1))] : List T_api_Record) :: Ow.own 40 19 e_api_Record (.slice (some ⟨b_217, 0, none⟩) 1 1) ([(want_0_2, (want_1_1, want_2_1), (vwant_18_1, want_18_1))] : List T_api_Record) :: Ow.box b_2 24 #[.bool b_3, v_1] :: Ow.box b_212 40 (c_api_Record (.int .i64 r_0_44) (r_1_44, r_2_1) vr_18_1).toArray :: Ow.box b_215 40 (c_api_Record (.int .i64 want_0_2) (want_1_1, want_2_1) vwant_18_1).toArray :: fr)) l_2 6 vl_1 hS hL_89 hM) ?_
                  rintro vr_24 h_305 ⟨F_163, r_34, _, rfl, hk, hS, _, hM⟩
                  obtain ⟨hS, hk⟩ := hZ_3.back hk hS
                  generalize (fun b => F_163 b ∧ ¬ (Ow.own 27 17 e_api_Addr vl_1 l_2).foot b) = F_164 at hS hk
                  replace hK := hK.trans hk
                  replace hL_x_F_Sources := hL_x_F_Sources.kp hk
                  replace hL_x_O_Sources := hL_x_O_Sources.kp hk
                  replace hL_x_L := hL_x_L.kp hk
                  replace hL_1 := hL_1.kp hk
                  replace hL_2 := hL_2.kp hk
                  replace hL_84 := hL_84.kp hk
                  replace hL_85 := hL_85.kp hk
                  replace hN_1 := hN_1.kp hk
                  replace hN_2 := hN_2.kp hk
                  replace hL_88 := hL_88.kp hk
                  refine HA.one (k := 10) ⟨⟨(hS.box 4 rfl), (hS.box 5 rfl), (hS.box 6 rfl)⟩, (Go.Wk.at_nil _ _)⟩ (by kernel_rfl) ?_
                  replace hS : St F_164 (Ow.own 27 17 e_api_Addr vr_24 r_34 :: Ow.own 27 17 e_api_Addr vl_1 l_2 :: Ow.own 40 19 e_api_Record (.slice (some ⟨b_216, 0, none⟩) 1 1) ([(r_0_44, (r_1_44, r_2_1), (vr_18_1, r_18_1))] : List T_api_Record) :: Ow.own 40 19 e_api_Record (.slice (some ⟨b_217, 0, none⟩) 1 1) ([(want_0_2, (want_1_1, want_2_1), (vwant_18_1, want_18_1))] : List T_api_Record) :: Ow.box b_2 24 #[.bool b_3, v_1] :: Ow.box b_212 40 (c_api_Record (.int .i64 r_0_44) (r_1_44, r_2_1) vr_18_1).toArray :: Ow.box b_215 40 (c_api_Record (.int .i64 want_0_2) (want_1_1, want_2_1) vwant_18_1).toArray :: fr) h_305 := hS.perm2 [1, 0, 2, 3, 4, 5, 6] 7 rfl rfl
                  have hZ_4 := hS
                  have hkz_4 := (hS.freeze).2
                  replace hS := hS.freeze.1
                  have hL_90 : SliceF (fun b => F_164 b ∨ (Ow.own 27 17 e_api_Addr vr_24 r_34).foot b) h_305 17 e_api_Addr vr_24 r_34 := ⟨(hZ_4.own 0 rfl).slice, fun _ b hb => .inr hb⟩
                  refine HS.call rfl (want_by rfl rfl c_7) rfl (ec en_33 rfl rfl) (merge_Answer_walk (fr := (Ow.own 27 17 e_api_Addr vl_1 l_2 :: Ow.own 40 19 e_api_Record (.slice (some ⟨b_216, 0, none⟩) 1 1) ([(r_0_44, (r_1_44, r_2_1), (vr_18_1, r_18_1))] : List T_api_Record) :: Ow.own 40 19 e_api_Record (.slice (some ⟨b_217, 0, none⟩) 1 1) ([(want_0_2, (want_1_1, want_2_1), (vwant_18_1, want_18_1))] : List T_api_Record) :: Ow.box b_2 24 #[.bool b_3, v_1] :: Ow.box b_212 40 (c_api_Record (.int .i64 r_0_44) (r_1_44, r_2_1) vr_18_1).toArray :: Ow.box b_215 40 (c_api_Record (.int .i64 want_0_2) (want_1_1, want_2_1) vwant_18_1).toArray :: fr)) r_0_48 r_1_48 r_34 vr_1_47 vr_24 hS (hL_88.kp hkz_4) hL_90 hM) ?_
                  rintro vr_25 h_306 ⟨F_165, r_35, _, rfl, hk, hS, _, _, hM⟩
                  obtain ⟨hS, hk⟩ := hZ_4.back hk hS
                  generalize (fun b => F_165 b ∧ ¬ (Ow.own 27 17 e_api_Addr vr_24 r_34).foot b) = F_166 at hS hk
                  replace hK := hK.trans hk
                  replace hL_x_F_Sources := hL_x_F_Sources.kp hk
                  replace hL_x_O_Sources := hL_x_O_Sources.kp hk
                  replace hL_x_L := hL_x_L.kp hk
                  replace hL_1 := hL_1.kp hk
                  replace hL_2 := hL_2.kp hk
                  replace hL_84 := hL_84.kp hk
                  replace hL_85 := hL_85.kp hk
                  replace hN_1 := hN_1.kp hk
                  replace hN_2 := hN_2.kp hk
                  replace hL_88 := hL_88.kp hk
                  refine HA.one (k := 13) ⟨⟨(hS.box 5 rfl), (hS.box 6 rfl), (hS.box 7 rfl)⟩, (Go.Wk.at_nil _ _)⟩ (by kernel_rfl) ?_
                  replace hS : St F_166 (Ow.own 27 17 e_api_Addr vl_1 l_2 :: Ow.own 27 17 e_api_Addr vr_24 r_34 :: Ow.own 27 17 e_api_Addr vr_25 r_35 :: Ow.own 40 19 e_api_Record (.slice (some ⟨b_216, 0, none⟩) 1 1) ([(r_0_44, (r_1_44, r_2_1), (vr_18_1, r_18_1))] : List T_api_Record) :: Ow.own 40 19 e_api_Record (.slice (some ⟨b_217, 0, none⟩) 1 1) ([(want_0_2, (want_1_1, want_2_1), (vwant_18_1, want_18_1))] : List T_api_Record) :: Ow.box b_2 24 #[.bool b_3, v_1] :: Ow.box b_212 40 (c_api_Record (.int .i64 r_0_44) (r_1_44, r_2_1) vr_18_1).toArray :: Ow.box b_215 40 (c_api_Record (.int .i64 want_0_2) (want_1_1, want_2_1) vwant_18_1).toArray :: fr) h_306 := hS.perm2 [2, 0, 1, 3, 4, 5, 6, 7] 8 rfl rfl
                  have hZ_5 := hS
                  have hkz_5 := (hS.freeze).2
                  replace hS := hS.freeze.1
                  have hL_91 : SliceF (fun b => F_166 b ∨ (Ow.own 27 17 e_api_Addr vl_1 l_2).foot b) h_306 17 e_api_Addr vl_1 l_2 := ⟨(hZ_5.own 0 rfl).slice, fun _ b hb => .inr hb⟩
                  refine HS.call rfl (want_by rfl rfl c_7) rfl (ec en_34 rfl rfl) (ref19_Answer_walk (fr := (Ow.own 27 17 e_api_Addr vr_24 r_34 :: Ow.own 27 17 e_api_Addr vr_25 r_35 :: Ow.own 40 19 e_api_Record (.slice (some ⟨b_216, 0, none⟩) 1 1) ([(r_0_44, (r_1_44, r_2_1), (vr_18_1, r_18_1))] : List T_api_Record) :: Ow.own 40 19 e_api_Record (.slice (some ⟨b_217, 0, none⟩) 1 1) ([(want_0_2, (want_1_1, want_2_1), (vwant_18_1, want_18_1))] : List T_api_Record) :: Ow.box b_2 24 #[.bool b_3, v_1] :: Ow.box b_212 40 (c_api_Record (.int .i64 r_0_44) (r_1_44, r_2_1) vr_18_1).toArray :: Ow.box b_215 40 (c_api_Record (.int .i64 want_0_2) (want_1_1, want_2_1) vwant_18_1).toArray :: fr)) b_3 l_1 l_2 v_1 vl_1 hS (hL_1.kp hkz_5) hL_91 hM) ?_
                  rintro vr_26 h_307 ⟨F_167, r_36, _, rfl, hk, hS, _, _, hM⟩
                  obtain ⟨hS, hk⟩ := hZ_5.back hk hS
                  generalize (fun b => F_167 b ∧ ¬ (Ow.own 27 17 e_api_Addr vl_1 l_2).foot b) = F_168 at hS hk
                  replace hK := hK.trans hk
                  replace hL_x_F_Sources := hL_x_F_Sources.kp hk
                  replace hL_x_O_Sources := hL_x_O_Sources.kp hk
                  replace hL_x_L := hL_x_L.kp hk
                  replace hL_1 := hL_1.kp hk
                  replace hL_2 := hL_2.kp hk
                  replace hL_84 := hL_84.kp hk
                  replace hL_85 := hL_85.kp hk
                  replace hN_1 := hN_1.kp hk
                  replace hN_2 := hN_2.kp hk
                  replace hL_88 := hL_88.kp hk
                  refine HA.one (k := 14) ⟨⟨(hS.box 6 rfl), (hS.box 7 rfl), (hS.box 8 rfl)⟩, (Go.Wk.at_nil _ _)⟩ (by kernel_rfl) ?_
                  replace hS : St F_168 (Ow.own 27 17 e_api_Addr vr_25 r_35 :: Ow.own 27 17 e_api_Addr vl_1 l_2 :: Ow.own 27 17 e_api_Addr vr_26 r_36 :: Ow.own 27 17 e_api_Addr vr_24 r_34 :: Ow.own 40 19 e_api_Record (.slice (some ⟨b_216, 0, none⟩) 1 1) ([(r_0_44, (r_1_44, r_2_1), (vr_18_1, r_18_1))] : List T_api_Record) :: Ow.own 40 19 e_api_Record (.slice (some ⟨b_217, 0, none⟩) 1 1) ([(want_0_2, (want_1_1, want_2_1), (vwant_18_1, want_18_1))] : List T_api_Record) :: Ow.box b_2 24 #[.bool b_3, v_1] :: Ow.box b_212 40 (c_api_Record (.int .i64 r_0_44) (r_1_44, r_2_1) vr_18_1).toArray :: Ow.box b_215 40 (c_api_Record (.int .i64 want_0_2) (want_1_1, want_2_1) vwant_18_1).toArray :: fr) h_307 := hS.perm2 [3, 0, 1, 2, 4, 5, 6, 7, 8] 9 rfl rfl
                  have hZ_6 := hS
                  have hkz_6 := (hS.freeze).2
                  replace hS := hS.freeze.1
                  have hL_92 : SliceF (fun b => F_168 b ∨ (Ow.own 27 17 e_api_Addr vr_25 r_35).foot b) h_307 17 e_api_Addr vr_25 r_35 := ⟨(hZ_6.own 0 rfl).slice, fun _ b hb => .inr hb⟩
                  replace hS : St (fun b => F_168 b ∨ (Ow.own 27 17 e_api_Addr vr_25 r_35).foot b) (Ow.own 27 17 e_api_Addr vr_26 r_36 :: Ow.own 27 17 e_api_Addr vl_1 l_2 :: Ow.own 27 17 e_api_Addr vr_24 r_34 :: Ow.own 40 19 e_api_Record (.slice (some ⟨b_216, 0, none⟩) 1 1) ([(r_0_44, (r_1_44, r_2_1), (vr_18_1, r_18_1))] : List T_api_Record) :: Ow.own 40 19 e_api_Record (.slice (some ⟨b_217, 0, none⟩) 1 1) ([(want_0_2, (want_1_1, want_2_1), (vwant_18_1, want_18_1))] : List T_api_Record) :: Ow.box b_2 24 #[.bool b_3, v_1] :: Ow.box b_212 40 (c_api_Record (.int .i64 r_0_44) (r_1_44, r_2_1) vr_18_1).toArray :: Ow.box b_215 40 (c_api_Record (.int .i64 want_0_2) (want_1_1, want_2_1) vwant_18_1).toArray :: fr) h_307 := hS.perm2 [1, 0, 2, 3, 4, 5, 6, 7] 8 rfl rfl
                  have hZ_7 := hS
                  have hkz_7 := (hS.freeze).2
                  replace hS := hS.freeze.1
                  have hL_93 : SliceF (fun b => (fun b => F_168 b ∨ (Ow.own 27 17 e_api_Addr vr_25 r_35).foot b) b ∨ (Ow.own 27 17 e_api_Addr vr_26 r_36).foot b) h_307 17 e_api_Addr vr_26 r_36 := ⟨(hZ_7.own 0 rfl).slice, fun _ b hb => .inr hb⟩
                  refine HS.call rfl (want_by rfl rfl c_7) rfl (ec en_27 rfl rfl) (ref11_Same_walk (fr := (Ow.own 27 17 e_api_Addr vl_1 l_2 :: Ow.own 27 17 e_api_Addr vr_24 r_34 :: Ow.own 40 19 e_api_Record (.slice (some ⟨b_216, 0, none⟩) 1 1) ([(r_0_44, (r_1_44, r_2_1), (vr_18_1, r_18_1))] : List T_api_Record) :: Ow.own 40 19 e_api_Record (.slice (some ⟨b_217, 0, none⟩) 1 1) ([(want_0_2, (want_1_1, want_2_1), (vwant_18_1, want_18_1))] : List T_api_Record) :: Ow.box b_2 24 #[.bool b_3, v_1] :: Ow.box b_212 40 (c_api_Record (.int .i64 r_0_44) (r_1_44, r_2_1) vr_18_1).toArray :: Ow.box b_215 40 (c_api_Record (.int .i64 want_0_2) (want_1_1, want_2_1) vwant_18_1).toArray :: fr)) r_35 r_36 vr_25 vr_26 hS (hL_92.kp hkz_7) hL_93 hM) ?_
                  rintro _ h_308 ⟨F_169, r_37, rfl, hk, hS, _, _, hM⟩
                  obtain ⟨hS, hk⟩ := hZ_7.back hk hS
                  obtain ⟨hS, hk⟩ := hZ_6.back hk hS
                  generalize (fun b => (fun b => F_169 b ∧ ¬ (Ow.own 27 17 e_api_Addr vr_26 r_36).foot b) b ∧ ¬ (Ow.own 27 17 e_api_Addr vr_25 r_35).foot b) = F_170 at hS hk
                  replace hK := hK.trans hk
                  replace hL_x_F_Sources := hL_x_F_Sources.kp hk
                  replace hL_x_O_Sources := hL_x_O_Sources.kp hk
                  replace hL_x_L := hL_x_L.kp hk
                  replace hL_1 := hL_1.kp hk
                  replace hL_2 := hL_2.kp hk
                  replace hL_84 := hL_84.kp hk
                  replace hL_85 := hL_85.kp hk
                  replace hN_1 := hN_1.kp hk
                  replace hN_2 := hN_2.kp hk
                  replace hL_88 := hL_88.kp hk
                  refine HA.val (k := 15) (v := .bool r_37) rfl rfl (by kernel_rfl) (by kernel_rfl) (want_none) rfl (fun _ ⟨c223, c225, c227⟩ => q_pickK true rfl c_7 rfl) ?_
                  refine HA.val (k := 16) (v := .bool r_37) rfl rfl (by kernel_rfl) (by kernel_rfl) (want_none) rfl (fun _ ⟨c223, c225, c227⟩ => q_move rfl) ?_
                  rcases Bool.eq_false_or_eq_true r_37 with c_8 | c_8
                  · replace hM := hM.1 c_8
                    refine HA.one (k := 17) ⟨⟨(hS.box 6 rfl), (hS.box 7 rfl), (hS.box 8 rfl)⟩, (Go.Wk.at_nil _ _)⟩ (by kernel_rfl) ?_
                    refine HS.call rfl (want_by rfl rfl c_8) rfl (ec en_16 rfl rfl) (law19_lives_walk (fr := (Ow.own 27 17 e_api_Addr vr_25 r_35 :: Ow.own 27 17 e_api_Addr vr_26 r_36 :: Ow.own 27 17 e_api_Addr vl_1 l_2 :: Ow.own 27 17 e_api_Addr vr_24 r_34 :: Ow.own 40 19 e_api_Record (.slice (some ⟨b_216, 0, none⟩) 1 1) ([(r_0_44, (r_1_44, r_2_1), (vr_18_1, r_18_1))] : List T_api_Record) :: Ow.own 40 19 e_api_Record (.slice (some ⟨b_217, 0, none⟩) 1 1) ([(want_0_2, (want_1_1, want_2_1), (vwant_18_1, want_18_1))] : List T_api_Record) :: Ow.box b_2 24 #[.bool b_3, v_1] :: Ow.box b_212 40 (c_api_Record (.int .i64 r_0_44) (r_1_44, r_2_1) vr_18_1).toArray :: Ow.box b_215 40 (c_api_Record (.int .i64 want_0_2) (want_1_1, want_2_1) vwant_18_1).toArray :: fr))  hS hD hM) ?_
                    rintro _ h_309 ⟨F_171, r_38, rfl, hk, hS, hM⟩
                    replace hK := hK.trans hk
                    replace hL_x_F_Sources := hL_x_F_Sources.kp hk
                    replace hL_x_O_Sources := hL_x_O_Sources.kp hk
                    replace hL_x_L := hL_x_L.kp hk
                    replace hL_1 := hL_1.kp hk
                    replace hL_2 := hL_2.kp hk
                    replace hL_84 := hL_84.kp hk
                    replace hL_85 := hL_85.kp hk
                    replace hN_1 := hN_1.kp hk
                    replace hN_2 := hN_2.kp hk
                    replace hL_88 := hL_88.kp hk
                    refine HA.val (k := 18) (v := .bool r_38) rfl rfl (by kernel_rfl) (by kernel_rfl) (want_none) rfl (fun _ ⟨c223, c225, c227⟩ => q_pickK true rfl c_8 rfl) ?_
                    refine HA.val (k := 19) (v := .bool r_38) rfl rfl (by kernel_rfl) (by kernel_rfl) (want_none) rfl (fun _ ⟨c223, c225, c227⟩ => q_assign rfl) ?_
                    refine HA.nil ⟨⟨(hS.box 6 rfl), (hS.box 7 rfl), (hS.box 8 rfl)⟩, (Go.Wk.at_nil _ _)⟩ (by kernel_rfl) (thenQ_normal (?_))
                    refine HW.ret (?_)
                    refine ⟨.inr rfl, .bool r_38, res1 rfl (rt rfl), ?_⟩
                    replace hS : St F_171 (fr) h_309 := hS.perm2 [] 9 rfl rfl
                    exact ⟨F_171, r_38, rfl, hK, hS, hL_x_F_Sources, hL_x_O_Sources, hL_x_L, hM⟩
                  · replace hM := hM.2 c_8
                    refine HA.one (k := 17) ⟨⟨(hS.box 6 rfl), (hS.box 7 rfl), (hS.box 8 rfl)⟩, (Go.Wk.at_nil _ _)⟩ (by kernel_rfl) ?_
                    refine HS.past rfl (past_by rfl rfl c_8) rfl ?_
                    refine HA.val (k := 18) (v := .bool false) rfl rfl (by kernel_rfl) (by kernel_rfl) (want_none) rfl (fun _ ⟨c223, c225, c227⟩ => q_pickK false rfl c_8 rfl) ?_
                    refine HA.val (k := 19) (v := .bool false) rfl rfl (by kernel_rfl) (by kernel_rfl) (want_none) rfl (fun _ ⟨c223, c225, c227⟩ => q_assign rfl) ?_
                    refine HA.nil ⟨⟨(hS.box 6 rfl), (hS.box 7 rfl), (hS.box 8 rfl)⟩, (Go.Wk.at_nil _ _)⟩ (by kernel_rfl) (thenQ_normal (?_))
                    refine HW.ret (?_)
                    refine ⟨.inr rfl, .bool false, res1 rfl (rt rfl), ?_⟩
                    replace hS : St F_170 (fr) h_308 := hS.perm2 [] 9 rfl rfl
                    exact ⟨F_170, false, rfl, hK, hS, hL_x_F_Sources, hL_x_O_Sources, hL_x_L, hM⟩
                · replace hM := hM.2 c_7
                  refine HA.past (k := 6) rfl rfl (by kernel_rfl) (by kernel_rfl) (past_by rfl rfl c_7) rfl ?_
                  refine HA.past (k := 8) rfl rfl (by kernel_rfl) (by kernel_rfl) (past_by rfl rfl c_7) rfl ?_
                  refine HA.past (k := 11) rfl rfl (by kernel_rfl) (by kernel_rfl) (past_by rfl rfl c_7) rfl ?_
                  refine HA.past (k := 12) rfl rfl (by kernel_rfl) (by kernel_rfl) (past_by rfl rfl c_7) rfl ?_
                  refine HA.one (k := 7) ⟨⟨(hS.box 2 rfl), (hS.box 4 rfl), (hS.box 5 rfl)⟩, (Go.Wk.at_nil _ _)⟩ (by kernel_rfl) ?_
                  refine HS.past rfl (past_by rfl rfl c_7) rfl ?_
                  refine HA.one (k := 9) ⟨⟨(hS.box 2 rfl), (hS.box 4 rfl), (hS.box 5 rfl)⟩, (Go.Wk.at_nil _ _)⟩ (by kernel_rfl) ?_
                  refine HS.past rfl (past_by rfl rfl c_7) rfl ?_
                  refine HA.one (k := 10) ⟨⟨(hS.box 2 rfl), (hS.box 4 rfl), (hS.box 5 rfl)⟩, (Go.Wk.at_nil _ _)⟩ (by kernel_rfl) ?_
                  refine HS.past rfl (past_by rfl rfl c_7) rfl ?_
                  refine HA.one (k := 13) ⟨⟨(hS.box 2 rfl), (hS.box 4 rfl), (hS.box 5 rfl)⟩, (Go.Wk.at_nil _ _)⟩ (by kernel_rfl) ?_
                  refine HS.past rfl (past_by rfl rfl c_7) rfl ?_
                  refine HA.one (k := 14) ⟨⟨(hS.box 2 rfl), (hS.box 4 rfl), (hS.box 5 rfl)⟩, (Go.Wk.at_nil _ _)⟩ (by kernel_rfl) ?_
                  refine HS.past rfl (past_by rfl rfl c_7) rfl ?_
                  refine HA.val (k := 15) (v := .bool false) rfl rfl (by kernel_rfl) (by kernel_rfl) (want_none) rfl (fun _ ⟨c223, c225, c227⟩ => q_pickK false rfl c_7 rfl) ?_
                  refine HA.val (k := 16) (v := .bool false) rfl rfl (by kernel_rfl) (by kernel_rfl) (want_none) rfl (fun _ ⟨c223, c225, c227⟩ => q_move rfl) ?_
                  refine HA.one (k := 17) ⟨⟨(hS.box 2 rfl), (hS.box 4 rfl), (hS.box 5 rfl)⟩, (Go.Wk.at_nil _ _)⟩ (by kernel_rfl) ?_
                  refine HS.past rfl (past_some rfl rfl) rfl ?_
                  refine HA.val (k := 18) (v := .bool false) rfl rfl (by kernel_rfl) (by kernel_rfl) (want_none) rfl (fun _ ⟨c223, c225, c227⟩ => q_pick rfl rfl) ?_
                  refine HA.val (k := 19) (v := .bool false) rfl rfl (by kernel_rfl) (by kernel_rfl) (want_none) rfl (fun _ ⟨c223, c225, c227⟩ => q_assign rfl) ?_
                  refine HA.nil ⟨⟨(hS.box 2 rfl), (hS.box 4 rfl), (hS.box 5 rfl)⟩, (Go.Wk.at_nil _ _)⟩ (by kernel_rfl) (thenQ_normal (?_))
                  refine HW.ret (?_)
                  refine ⟨.inr rfl, .bool false, res1 rfl (rt rfl), ?_⟩
                  replace hS : St F_161 (fr) h_303 := hS.perm2 [] 6 rfl rfl
                  exact ⟨F_161, false, rfl, hK, hS, hL_x_F_Sources, hL_x_O_Sources, hL_x_L, hM⟩
              · refine HS.eff rfl (want_none) rfl (st_lit (enc := e_api_Record) (cells := #[.int .i64 want_0_2, .bool want_1_1, .int .u8 (b8 want_2_1 0), .int .u8 (b8 want_2_1 1), .int .u8 (b8 want_2_1 2), .int .u8 (b8 want_2_1 3), .int .u8 (b8 want_2_1 4), .int .u8 (b8 want_2_1 5), .int .u8 (b8 want_2_1 6), .int .u8 (b8 want_2_1 7), .int .u8 (b8 want_2_1 8), .int .u8 (b8 want_2_1 9), .int .u8 (b8 want_2_1 10), .int .u8 (b8 want_2_1 11), .int .u8 (b8 want_2_1 12), .int .u8 (b8 want_2_1 13), .int .u8 (b8 want_2_1 14), .int .u8 (b8 want_2_1 15), vwant_18_1]) #[.int .i64 0, .bool false, .int .u8 0, .int .u8 0, .int .u8 0, .int .u8 0, .int .u8 0, .int .u8 0, .int .u8 0, .int .u8 0, .int .u8 0, .int .u8 0, .int .u8 0, .int .u8 0, .int .u8 0, .int .u8 0, .int .u8 0, .int .u8 0, .slice none 0 0] ([(want_0_2, (want_1_1, want_2_1), (vwant_18_1, want_18_1))] : List T_api_Record) hS tl_31 (by decide) (by decide) (by kernel_rfl) (by kernel_rfl) rfl (by intro x hx; rfl) rfl) ?_
                rintro _ h_301 ⟨b_216, rfl, hS, hk⟩
                replace hK := hK.trans hk
                replace hL_x_F_Sources := hL_x_F_Sources.kp hk
                replace hL_x_O_Sources := hL_x_O_Sources.kp hk
                replace hL_x_L := hL_x_L.kp hk
                replace hL_1 := hL_1.kp hk
                replace hL_2 := hL_2.kp hk
                replace hL_84 := hL_84.kp hk
                have hN_1 : NfL nf_api_Record F_158 h_301 ([(want_0_2, (want_1_1, want_2_1), (vwant_18_1, want_18_1))] : List T_api_Record) := (NfL.cons (nfm_api_Record (want_0_2, (want_1_1, want_2_1), (vwant_18_1, want_18_1)) hL_84) (NfL.nil _ _ _))
                refine HA.one (k := 1) ⟨⟨(hS.box 1 rfl), (hS.box 3 rfl), (hS.box 5 rfl)⟩, (Go.Wk.at_nil _ _)⟩ (by kernel_rfl) ?_
                replace hS : St F_158 (Ow.own 27 17 e_api_Addr vr_18_1 r_18_1 :: Ow.own 40 19 e_api_Record (.slice (some ⟨b_216, 0, none⟩) 1 1) ([(want_0_2, (want_1_1, want_2_1), (vwant_18_1, want_18_1))] : List T_api_Record) :: Ow.box b_2 24 #[.bool b_3, v_1] :: Ow.own 27 17 e_api_Addr vl_1 l_2 :: Ow.box b_212 40 (c_api_Record (.int .i64 r_0_44) (r_1_44, r_2_1) vr_18_1).toArray :: Ow.box b_215 40 (c_api_Record (.int .i64 want_0_2) (want_1_1, want_2_1) vwant_18_1).toArray :: fr) h_301 := hS.perm2 [4, 0, 1, 2, 3, 5] 6 rfl rfl
                obtain ⟨F_159, hS, hk, hL_85⟩ := hS.freezeOwn
                replace hK := hK.trans hk
                replace hL_x_F_Sources := hL_x_F_Sources.kp hk
                replace hL_x_O_Sources := hL_x_O_Sources.kp hk
                replace hL_x_L := hL_x_L.kp hk
                replace hL_1 := hL_1.kp hk
                replace hL_2 := hL_2.kp hk
                replace hL_84 := hL_84.kp hk
                replace hN_1 := hN_1.kp hk
                refine HS.eff rfl (want_none) rfl (st_lit (enc := e_api_Record) (cells := #[.int .i64 r_0_44, .bool r_1_44, .int .u8 (b8 r_2_1 0), .int .u8 (b8 r_2_1 1), .int .u8 (b8 r_2_1 2), .int .u8 (b8 r_2_1 3), .int .u8 (b8 r_2_1 4), .int .u8 (b8 r_2_1 5), .int .u8 (b8 r_2_1 6), .int .u8 (b8 r_2_1 7), .int .u8 (b8 r_2_1 8), .int .u8 (b8 r_2_1 9), .int .u8 (b8 r_2_1 10), .int .u8 (b8 r_2_1 11), .int .u8 (b8 r_2_1 12), .int .u8 (b8 r_2_1 13), .int .u8 (b8 r_2_1 14), .int .u8 (b8 r_2_1 15), vr_18_1]) #[.int .i64 0, .bool false, .int .u8 0, .int .u8 0, .int .u8 0, .int .u8 0, .int .u8 0, .int .u8 0, .int .u8 0, .int .u8 0, .int .u8 0, .int .u8 0, .int .u8 0, .int .u8 0, .int .u8 0, .int .u8 0, .int .u8 0, .int .u8 0, .slice none 0 0] ([(r_0_44, (r_1_44, r_2_1), (vr_18_1, r_18_1))] : List T_api_Record) hS tl_31 (by decide) (by decide) (by kernel_rfl) (by kernel_rfl) rfl (by intro x hx; rfl) rfl) ?_
                rintro _ h_302 ⟨b_217, rfl, hS, hk⟩
                replace hK := hK.trans hk
                replace hL_x_F_Sources := hL_x_F_Sources.kp hk
                replace hL_x_O_Sources := hL_x_O_Sources.kp hk
                replace hL_x_L := hL_x_L.kp hk
                replace hL_1 := hL_1.kp hk
                replace hL_2 := hL_2.kp hk
                replace hL_84 := hL_84.kp hk
                replace hN_1 := hN_1.kp hk
                replace hL_85 := hL_85.kp hk
                have hN_2 : NfL nf_api_Record F_159 h_302 ([(r_0_44, (r_1_44, r_2_1), (vr_18_1, r_18_1))] : List T_api_Record) := (NfL.cons (nfm_api_Record (r_0_44, (r_1_44, r_2_1), (vr_18_1, r_18_1)) hL_85) (NfL.nil _ _ _))
                refine HA.one (k := 4) ⟨⟨(hS.box 2 rfl), (hS.box 4 rfl), (hS.box 5 rfl)⟩, (Go.Wk.at_nil _ _)⟩ (by kernel_rfl) ?_
                have hZ_1 := hS
                have hkz_1 := (hS.freeze).2
                replace hS := hS.freeze.1
                have hL_86 : SliceF (fun b => F_159 b ∨ (Ow.own 40 19 e_api_Record (.slice (some ⟨b_217, 0, none⟩) 1 1) ([(r_0_44, (r_1_44, r_2_1), (vr_18_1, r_18_1))] : List T_api_Record)).foot b) h_302 19 e_api_Record (.slice (some ⟨b_217, 0, none⟩) 1 1) ([(r_0_44, (r_1_44, r_2_1), (vr_18_1, r_18_1))] : List T_api_Record) := ⟨(hZ_1.own 0 rfl).slice, fun _ b hb => .inr hb⟩
                have hZ_2 := hS
                have hkz_2 := (hS.freeze).2
                replace hS := hS.freeze.1
                have hL_87 : SliceF (fun b => (fun b => F_159 b ∨ (Ow.own 40 19 e_api_Record (.slice (some ⟨b_217, 0, none⟩) 1 1) ([(r_0_44, (r_1_44, r_2_1), (vr_18_1, r_18_1))] : List T_api_Record)).foot b) b ∨ (Ow.own 40 19 e_api_Record (.slice (some ⟨b_216, 0, none⟩) 1 1) ([(want_0_2, (want_1_1, want_2_1), (vwant_18_1, want_18_1))] : List T_api_Record)).foot b) h_302 19 e_api_Record (.slice (some ⟨b_216, 0, none⟩) 1 1) ([(want_0_2, (want_1_1, want_2_1), (vwant_18_1, want_18_1))] : List T_api_Record) := ⟨(hZ_2.own 0 rfl).slice, fun _ b hb => .inr hb⟩
                refine HS.call rfl (want_none) rfl (ec en_11 rfl rfl) (ref08_SameRecords_walk (fr := (Ow.box b_2 24 #[.bool b_3, v_1] :: Ow.own 27 17 e_api_Addr vl_1 l_2 :: Ow.box b_212 40 (c_api_Record (.int .i64 r_0_44) (r_1_44, r_2_1) vr_18_1).toArray :: Ow.box b_215 40 (c_api_Record (.int .i64 want_0_2) (want_1_1, want_2_1) vwant_18_1).toArray :: fr)) ([(r_0_44, (r_1_44, r_2_1), (vr_18_1, r_18_1))] : List T_api_Record) ([(want_0_2, (want_1_1, want_2_1), (vwant_18_1, want_18_1))] : List T_api_Record) (.slice (some ⟨b_217, 0, none⟩) 1 1) (.slice (some ⟨b_216, 0, none⟩) 1 1) hS (NfL.kp (NfL.kp hN_2 hkz_1) hkz_2) (hL_86.kp hkz_2) (NfL.kp (NfL.kp hN_1 hkz_1) hkz_2) hL_87 hM) ?_
                rintro _ h_303 ⟨F_160, r_33, rfl, hk, hS, _, _, _, _, hM⟩
                obtain ⟨hS, hk⟩ := hZ_2.back hk hS
                obtain ⟨hS, hk⟩ := hZ_1.back hk hS
                generalize (fun b => (fun b => F_160 b ∧ ¬ (Ow.own 40 19 e_api_Record (.slice (some ⟨b_216, 0, none⟩) 1 1) ([(want_0_2, (want_1_1, want_2_1), (vwant_18_1, want_18_1))] : List T_api_Record)).foot b) b ∧ ¬ (Ow.own 40 19 e_api_Record (.slice (some ⟨b_217, 0, none⟩) 1 1) ([(r_0_44, (r_1_44, r_2_1), (vr_18_1, r_18_1))] : List T_api_Record)).foot b) = F_161 at hS hk
                replace hK := hK.trans hk
                replace hL_x_F_Sources := hL_x_F_Sources.kp hk
                replace hL_x_O_Sources := hL_x_O_Sources.kp hk
                replace hL_x_L := hL_x_L.kp hk
                replace hL_1 := hL_1.kp hk
                replace hL_2 := hL_2.kp hk
                replace hL_84 := hL_84.kp hk
                replace hN_1 := hN_1.kp hk
                replace hL_85 := hL_85.kp hk
                replace hN_2 := hN_2.kp hk
                refine HA.val (k := 5) (v := .bool r_33) rfl rfl (by kernel_rfl) (by kernel_rfl) (want_none) rfl (fun _ ⟨c223, c225, c227⟩ => q_move rfl) ?_
                rcases Bool.eq_false_or_eq_true r_33 with c_7 | c_7
                · replace hM := hM.1 c_7
                  refine HA.val (k := 6) (v := .agg #[.bool b_3, v_1]) rfl rfl (by kernel_rfl) (by kernel_rfl) (want_by rfl rfl c_7) rfl (fun _ ⟨c223, c225, c227⟩ => q_loadAgg (cs := [.bool b_3, v_1]) ta_24 rfl rfl (Blk.cells (k := 2) c223 rfl)) ?_
                  refine HA.val (k := 8) (v := vl_1) rfl rfl (by kernel_rfl) (by kernel_rfl) (want_by rfl rfl c_7) rfl (fun _ ⟨c223, c225, c227⟩ => q_move rfl) ?_
                  refine HA.val (k := 11) (v := .agg #[.bool b_3, v_1]) rfl rfl (by kernel_rfl) (by kernel_rfl) (want_by rfl rfl c_7) rfl (fun _ ⟨c223, c225, c227⟩ => q_loadAgg (cs := [.bool b_3, v_1]) ta_24 rfl rfl (Blk.cells (k := 2) c223 rfl)) ?_
                  refine HA.val (k := 12) (v := vl_1) rfl rfl (by kernel_rfl) (by kernel_rfl) (want_by rfl rfl c_7) rfl (fun _ ⟨c223, c225, c227⟩ => q_move rfl) ?_
                  refine HA.one (k := 7) ⟨⟨(hS.box 2 rfl), (hS.box 4 rfl), (hS.box 5 rfl)⟩, (Go.Wk.at_nil _ _)⟩ (by kernel_rfl) ?_
                  refine HS.call rfl (want_by rfl rfl c_7) rfl (ec en_9 rfl rfl) (law19_Few_walk (fr := (Ow.own 40 19 e_api_Record (.slice (some ⟨b_217, 0, none⟩) 1 1) ([(r_0_44, (r_1_44, r_2_1), (vr_18_1, r_18_1))] : List T_api_Record) :: Ow.own 40 19 e_api_Record (.slice (some ⟨b_216, 0, none⟩) 1 1) ([(want_0_2, (want_1_1, want_2_1), (vwant_18_1, want_18_1))] : List T_api_Record) :: Ow.box b_2 24 #[.bool b_3, v_1] :: Ow.own 27 17 e_api_Addr vl_1 l_2 :: Ow.box b_212 40 (c_api_Record (.int .i64 r_0_44) (r_1_44, r_2_1) vr_18_1).toArray :: Ow.box b_215 40 (c_api_Record (.int .i64 want_0_2) (want_1_1, want_2_1) vwant_18_1).toArray :: fr)) b_3 l_1 v_1 hS hL_1 hM) ?_
                  rintro _ h_304 ⟨F_162, r_0_48, r_1_48, vr_1_47, rfl, hk, hS, _, hL_88, hM⟩
                  replace hK := hK.trans hk
                  replace hL_x_F_Sources := hL_x_F_Sources.kp hk
                  replace hL_x_O_Sources := hL_x_O_Sources.kp hk
                  replace hL_x_L := hL_x_L.kp hk
                  replace hL_1 := hL_1.kp hk
                  replace hL_2 := hL_2.kp hk
                  replace hL_84 := hL_84.kp hk
                  replace hN_1 := hN_1.kp hk
                  replace hL_85 := hL_85.kp hk
                  replace hN_2 := hN_2.kp hk
                  refine HA.one (k := 9) ⟨⟨(hS.box 2 rfl), (hS.box 4 rfl), (hS.box 5 rfl)⟩, (Go.Wk.at_nil _ _)⟩ (by kernel_rfl) ?_
                  replace hS : St F_162 (Ow.own 27 17 e_api_Addr vl_1 l_2 :: Ow.own 40 19 e_api_Record (.slice (some ⟨b_217, 0, none⟩) 1 1) ([(r_0_44, (r_1_44, r_2_1), (vr_18_1, r_18_1))] : List T_api_Record) :: Ow.own 40 19 e_api_Record (.slice (some ⟨b_216, 0, none⟩) 1 1) ([(want_0_2, (want_1_1, want_2_1), (vwant_18_1, want_18_1))] : List T_api_Record) :: Ow.box b_2 24 #[.bool b_3, v_1] :: Ow.box b_212 40 (c_api_Record (.int .i64 r_0_44) (r_1_44, r_2_1) vr_18_1).toArray :: Ow.box b_215 40 (c_api_Record (.int .i64 want_0_2) (want_1_1, want_2_1) vwant_18_1).toArray :: fr) h_304 := hS.perm2 [3, 0, 1, 2, 4, 5] 6 rfl rfl
                  have hZ_3 := hS
                  have hkz_3 := (hS.freeze).2
                  replace hS := hS.freeze.1
                  have hL_89 : SliceF (fun b => F_162 b ∨ (Ow.own 27 17 e_api_Addr vl_1 l_2).foot b) h_304 17 e_api_Addr vl_1 l_2 := ⟨(hZ_3.own 0 rfl).slice, fun _ b hb => .inr hb⟩
                  refine HS.call rfl (want_by rfl rfl c_7) rfl (ec en_25 rfl rfl) (law08_Addrs_walk (fr := (Ow.own 40 19 e_api_Record (.slice (some ⟨b_217, 0, none⟩) 1 1) ([(r_0_44, (r_1_44, r_2_1), (vr_18_1, r_18_1))] : List T_api_Record) :: Ow.own 40 19 e_api_Record (.slice (some ⟨b_216, 0, none⟩) 1 1) ([(want_0_2, (want_1_1, want_2_1), (vwant_18_1, want_18_1))] : List T_api_Record) :: Ow.box b_2 24 #[.bool b_3, v_1] :: Ow.box b_212 40 (c_api_Record (.int .i64 r_0_44) (r_1_44, r_2_1) vr_18_1).toArray :: Ow.box b_215 40 (c_api_Record (.int .i64 want_0_2) (want_1_1, want_2_1) vwant_18_1).toArray :: fr)) l_2 6 vl_1 hS hL_89 hM) ?_
                  rintro vr_24 h_305 ⟨F_163, r_34, _, rfl, hk, hS, _, hM⟩
                  obtain ⟨hS, hk⟩ := hZ_3.back hk hS
                  generalize (fun b => F_163 b ∧ ¬ (Ow.own 27 17 e_api_Addr vl_1 l_2).foot b) = F_164 at hS hk
                  replace hK := hK.trans hk
                  replace hL_x_F_Sources := hL_x_F_Sources.kp hk
                  replace hL_x_O_Sources := hL_x_O_Sources.kp hk
                  replace hL_x_L := hL_x_L.kp hk
                  replace hL_1 := hL_1.kp hk
                  replace hL_2 := hL_2.kp hk
                  replace hL_84 := hL_84.kp hk
                  replace hN_1 := hN_1.kp hk
                  replace hL_85 := hL_85.kp hk
                  replace hN_2 := hN_2.kp hk
                  replace hL_88 := hL_88.kp hk
                  refine HA.one (k := 10) ⟨⟨(hS.box 4 rfl), (hS.box 5 rfl), (hS.box 6 rfl)⟩, (Go.Wk.at_nil _ _)⟩ (by kernel_rfl) ?_
                  replace hS : St F_164 (Ow.own 27 17 e_api_Addr vr_24 r_34 :: Ow.own 27 17 e_api_Addr vl_1 l_2 :: Ow.own 40 19 e_api_Record (.slice (some ⟨b_217, 0, none⟩) 1 1) ([(r_0_44, (r_1_44, r_2_1), (vr_18_1, r_18_1))] : List T_api_Record) :: Ow.own 40 19 e_api_Record (.slice (some ⟨b_216, 0, none⟩) 1 1) ([(want_0_2, (want_1_1, want_2_1), (vwant_18_1, want_18_1))] : List T_api_Record) :: Ow.box b_2 24 #[.bool b_3, v_1] :: Ow.box b_212 40 (c_api_Record (.int .i64 r_0_44) (r_1_44, r_2_1) vr_18_1).toArray :: Ow.box b_215 40 (c_api_Record (.int .i64 want_0_2) (want_1_1, want_2_1) vwant_18_1).toArray :: fr) h_305 := hS.perm2 [1, 0, 2, 3, 4, 5, 6] 7 rfl rfl
                  have hZ_4 := hS
                  have hkz_4 := (hS.freeze).2
                  replace hS := hS.freeze.1
                  have hL_90 : SliceF (fun b => F_164 b ∨ (Ow.own 27 17 e_api_Addr vr_24 r_34).foot b) h_305 17 e_api_Addr vr_24 r_34 := ⟨(hZ_4.own 0 rfl).slice, fun _ b hb => .inr hb⟩
                  refine HS.call rfl (want_by rfl rfl c_7) rfl (ec en_33 rfl rfl) (merge_Answer_walk (fr := (Ow.own 27 17 e_api_Addr vl_1 l_2 :: Ow.own 40 19 e_api_Record (.slice (some ⟨b_217, 0, none⟩) 1 1) ([(r_0_44, (r_1_44, r_2_1), (vr_18_1, r_18_1))] : List T_api_Record) :: Ow.own 40 19 e_api_Record (.slice (some ⟨b_216, 0, none⟩) 1 1) ([(want_0_2, (want_1_1, want_2_1), (vwant_18_1, want_18_1))] : List T_api_Record) :: Ow.box b_2 24 #[.bool b_3, v_1] :: Ow.box b_212 40 (c_api_Record (.int .i64 r_0_44) (r_1_44, r_2_1) vr_18_1).toArray :: Ow.box b_215 40 (c_api_Record (.int .i64 want_0_2) (want_1_1, want_2_1) vwant_18_1).toArray :: fr)) r_0_48 r_1_48 r_34 vr_1_47 vr_24 hS (hL_88.kp hkz_4) hL_90 hM) ?_
                  rintro vr_25 h_306 ⟨F_165, r_35, _, rfl, hk, hS, _, _, hM⟩
                  obtain ⟨hS, hk⟩ := hZ_4.back hk hS
                  generalize (fun b => F_165 b ∧ ¬ (Ow.own 27 17 e_api_Addr vr_24 r_34).foot b) = F_166 at hS hk
                  replace hK := hK.trans hk
                  replace hL_x_F_Sources := hL_x_F_Sources.kp hk
                  replace hL_x_O_Sources := hL_x_O_Sources.kp hk
                  replace hL_x_L := hL_x_L.kp hk
                  replace hL_1 := hL_1.kp hk
                  replace hL_2 := hL_2.kp hk
                  replace hL_84 := hL_84.kp hk
                  replace hN_1 := hN_1.kp hk
                  replace hL_85 := hL_85.kp hk
                  replace hN_2 := hN_2.kp hk
                  replace hL_88 := hL_88.kp hk
                  refine HA.one (k := 13) ⟨⟨(hS.box 5 rfl), (hS.box 6 rfl), (hS.box 7 rfl)⟩, (Go.Wk.at_nil _ _)⟩ (by kernel_rfl) ?_
                  replace hS : St F_166 (Ow.own 27 17 e_api_Addr vl_1 l_2 :: Ow.own 27 17 e_api_Addr vr_24 r_34 :: Ow.own 27 17 e_api_Addr vr_25 r_35 :: Ow.own 40 19 e_api_Record (.slice (some ⟨b_217, 0, none⟩) 1 1) ([(r_0_44, (r_1_44, r_2_1), (vr_18_1, r_18_1))] : List T_api_Record) :: Ow.own 40 19 e_api_Record (.slice (some ⟨b_216, 0, none⟩) 1 1) ([(want_0_2, (want_1_1, want_2_1), (vwant_18_1, want_18_1))] : List T_api_Record) :: Ow.box b_2 24 #[.bool b_3, v_1] :: Ow.box b_212 40 (c_api_Record (.int .i64 r_0_44) (r_1_44, r_2_1) vr_18_1).toArray :: Ow.box b_215 40 (c_api_Record (.int .i64 want_0_2) (want_1_1, want_2_1) vwant_18_1).toArray :: fr) h_306 := hS.perm2 [2, 0, 1, 3, 4, 5, 6, 7] 8 rfl rfl
                  have hZ_5 := hS
                  have hkz_5 := (hS.freeze).2
                  replace hS := hS.freeze.1
                  have hL_91 : SliceF (fun b => F_166 b ∨ (Ow.own 27 17 e_api_Addr vl_1 l_2).foot b) h_306 17 e_api_Addr vl_1 l_2 := ⟨(hZ_5.own 0 rfl).slice, fun _ b hb => .inr hb⟩
                  refine HS.call rfl (want_by rfl rfl c_7) rfl (ec en_34 rfl rfl) (ref19_Answer_walk (fr := (Ow.own 27 17 e_api_Addr vr_24 r_34 :: Ow.own 27 17 e_api_Addr vr_25 r_35 :: Ow.own 40 19 e_api_Record (.slice (some ⟨b_217, 0, none⟩) 1 1) ([(r_0_44, (r_1_44, r_2_1), (vr_18_1, r_18_1))] : List T_api_Record) :: Ow.own 40 19 e_api_Record (.slice (some ⟨b_216, 0, none⟩) 1 1) ([(want_0_2, (want_1_1, want_2_1), (vwant_18_1, want_18_1))] : List T_api_Record) :: Ow.box b_2 24 #[.bool b_3, v_1] :: Ow.box b_212 40 (c_api_Record (.int .i64 r_0_44) (r_1_44, r_2_1) vr_18_1).toArray :: Ow.box b_215 40 (c_api_Record (.int .i64 want_0_2) (want_1_1, want_2_1) vwant_18_1).toArray :: fr)) b_3 l_1 l_2 v_1 vl_1 hS (hL_1.kp hkz_5) hL_91 hM) ?_
                  rintro vr_26 h_307 ⟨F_167, r_36, _, rfl, hk, hS, _, _, hM⟩
                  obtain ⟨hS, hk⟩ := hZ_5.back hk hS
                  generalize (fun b => F_167 b ∧ ¬ (Ow.own 27 17 e_api_Addr vl_1 l_2).foot b) = F_168 at hS hk
                  replace hK := hK.trans hk
                  replace hL_x_F_Sources := hL_x_F_Sources.kp hk
                  replace hL_x_O_Sources := hL_x_O_Sources.kp hk
                  replace hL_x_L := hL_x_L.kp hk
                  replace hL_1 := hL_1.kp hk
                  replace hL_2 := hL_2.kp hk
                  replace hL_84 := hL_84.kp hk
                  replace hN_1 := hN_1.kp hk
                  replace hL_85 := hL_85.kp hk
                  replace hN_2 := hN_2.kp hk
                  replace hL_88 := hL_88.kp hk
                  refine HA.one (k := 14) ⟨⟨(hS.box 6 rfl), (hS.box 7 rfl), (hS.box 8 rfl)⟩, (Go.Wk.at_nil _ _)⟩ (by kernel_rfl) ?_
                  replace hS : St F_168 (Ow.own 27 17 e_api_Addr vr_25 r_35 :: Ow.own 27 17 e_api_Addr vl_1 l_2 :: Ow.own 27 17 e_api_Addr vr_26 r_36 :: Ow.own 27 17 e_api_Addr vr_24 r_34 :: Ow.own 40 19 e_api_Record (.slice (some ⟨b_217, 0, none⟩) 1 1) ([(r_0_44, (r_1_44, r_2_1), (vr_18_1, r_18_1))] : List T_api_Record) :: Ow.own 40 19 e_api_Record (.slice (some ⟨b_216, 0, none⟩) 1 1) ([(want_0_2, (want_1_1, want_2_1), (vwant_18_1, want_18_1))] : List T_api_Record) :: Ow.box b_2 24 #[.bool b_3, v_1] :: Ow.box b_212 40 (c_api_Record (.int .i64 r_0_44) (r_1_44, r_2_1) vr_18_1).toArray :: Ow.box b_215 40 (c_api_Record (.int .i64 want_0_2) (want_1_1, want_2_1) vwant_18_1).toArray :: fr) h_307 := hS.perm2 [3, 0, 1, 2, 4, 5, 6, 7, 8] 9 rfl rfl
                  have hZ_6 := hS
                  have hkz_6 := (hS.freeze).2
                  replace hS := hS.freeze.1
                  have hL_92 : SliceF (fun b => F_168 b ∨ (Ow.own 27 17 e_api_Addr vr_25 r_35).foot b) h_307 17 e_api_Addr vr_25 r_35 := ⟨(hZ_6.own 0 rfl).slice, fun _ b hb => .inr hb⟩
                  replace hS : St (fun b => F_168 b ∨ (Ow.own 27 17 e_api_Addr vr_25 r_35).foot b) (Ow.own 27 17 e_api_Addr vr_26 r_36 :: Ow.own 27 17 e_api_Addr vl_1 l_2 :: Ow.own 27 17 e_api_Addr vr_24 r_34 :: Ow.own 40 19 e_api_Record (.slice (some ⟨b_217, 0, none⟩) 1 1) ([(r_0_44, (r_1_44, r_2_1), (vr_18_1, r_18_1))] : List T_api_Record) :: Ow.own 40 19 e_api_Record (.slice (some ⟨b_216, 0, none⟩) 1 1) ([(want_0_2, (want_1_1, want_2_1), (vwant_18_1, want_18_1))] : List T_api_Record) :: Ow.box b_2 24 #[.bool b_3, v_1] :: Ow.box b_212 40 (c_api_Record (.int .i64 r_0_44) (r_1_44, r_2_1) vr_18_1).toArray :: Ow.box b_215 40 (c_api_Record (.int .i64 want_0_2) (want_1_1, want_2_1) vwant_18_1).toArray :: fr) h_307 := hS.perm2 [1, 0, 2, 3, 4, 5, 6, 7] 8 rfl rfl
                  have hZ_7 := hS
                  have hkz_7 := (hS.freeze).2
                  replace hS := hS.freeze.1
                  have hL_93 : SliceF (fun b => (fun b => F_168 b ∨ (Ow.own 27 17 e_api_Addr vr_25 r_35).foot b) b ∨ (Ow.own 27 17 e_api_Addr vr_26 r_36).foot b) h_307 17 e_api_Addr vr_26 r_36 := ⟨(hZ_7.own 0 rfl).slice, fun _ b hb => .inr hb⟩
                  refine HS.call rfl (want_by rfl rfl c_7) rfl (ec en_27 rfl rfl) (ref11_Same_walk (fr := (Ow.own 27 17 e_api_Addr vl_1 l_2 :: Ow.own 27 17 e_api_Addr vr_24 r_34 :: Ow.own 40 19 e_api_Record (.slice (some ⟨b_217, 0, none⟩) 1 1) ([(r_0_44, (r_1_44, r_2_1), (vr_18_1, r_18_1))] : List T_api_Record) :: Ow.own 40 19 e_api_Record (.slice (some ⟨b_216, 0, none⟩) 1 1) ([(want_0_2, (want_1_1, want_2_1), (vwant_18_1, want_18_1))] : List T_api_Record) :: Ow.box b_2 24 #[.bool b_3, v_1] :: Ow.box b_212 40 (c_api_Record (.int .i64 r_0_44) (r_1_44, r_2_1) vr_18_1).toArray :: Ow.box b_215 40 (c_api_Record (.int .i64 want_0_2) (want_1_1, want_2_1) vwant_18_1).toArray :: fr)) r_35 r_36 vr_25 vr_26 hS (hL_92.kp hkz_7) hL_93 hM) ?_
                  rintro _ h_308 ⟨F_169, r_37, rfl, hk, hS, _, _, hM⟩
                  obtain ⟨hS, hk⟩ := hZ_7.back hk hS
                  obtain ⟨hS, hk⟩ := hZ_6.back hk hS
                  generalize (fun b => (fun b => F_169 b ∧ ¬ (Ow.own 27 17 e_api_Addr vr_26 r_36).foot b) b ∧ ¬ (Ow.own 27 17 e_api_Addr vr_25 r_35).foot b) = F_170 at hS hk
                  replace hK := hK.trans hk
                  replace hL_x_F_Sources := hL_x_F_Sources.kp hk
                  replace hL_x_O_Sources := hL_x_O_Sources.kp hk
                  replace hL_x_L := hL_x_L.kp hk
                  replace hL_1 := hL_1.kp hk
                  replace hL_2 := hL_2.kp hk
                  replace hL_84 := hL_84.kp hk
                  replace hN_1 := hN_1.kp hk
                  replace hL_85 := hL_85.kp hk
                  replace hN_2 := hN_2.kp hk
                  replace hL_88 := hL_88.kp hk
                  refine HA.val (k := 15) (v := .bool r_37) rfl rfl (by kernel_rfl) (by kernel_rfl) (want_none) rfl (fun _ ⟨c223, c225, c227⟩ => q_pickK true rfl c_7 rfl) ?_
                  refine HA.val (k := 16) (v := .bool r_37) rfl rfl (by kernel_rfl) (by kernel_rfl) (want_none) rfl (fun _ ⟨c223, c225, c227⟩ => q_move rfl) ?_
                  rcases Bool.eq_false_or_eq_true r_37 with c_8 | c_8
                  · replace hM := hM.1 c_8
                    refine HA.one (k := 17) ⟨⟨(hS.box 6 rfl), (hS.box 7 rfl), (hS.box 8 rfl)⟩, (Go.Wk.at_nil _ _)⟩ (by kernel_rfl) ?_
                    refine HS.call rfl (want_by rfl rfl c_8) rfl (ec en_16 rfl rfl) (law19_lives_walk (fr := (Ow.own 27 17 e_api_Addr vr_25 r_35 :: Ow.own 27 17 e_api_Addr vr_26 r_36 :: Ow.own 27 17 e_api_Addr vl_1 l_2 :: Ow.own 27 17 e_api_Addr vr_24 r_34 :: Ow.own 40 19 e_api_Record (.slice (some ⟨b_217, 0, none⟩) 1 1) ([(r_0_44, (r_1_44, r_2_1), (vr_18_1, r_18_1))] : List T_api_Record) :: Ow.own 40 19 e_api_Record (.slice (some ⟨b_216, 0, none⟩) 1 1) ([(want_0_2, (want_1_1, want_2_1), (vwant_18_1, want_18_1))] : List T_api_Record) :: Ow.box b_2 24 #[.bool b_3, v_1] :: Ow.box b_212 40 (c_api_Record (.int .i64 r_0_44) (r_1_44, r_2_1) vr_18_1).toArray :: Ow.box b_215 40 (c_api_Record (.int .i64 want_0_2) (want_1_1, want_2_1) vwant_18_1).toArray :: fr))  hS hD hM) ?_
                    rintro _ h_309 ⟨F_171, r_38, rfl, hk, hS, hM⟩
                    replace hK := hK.trans hk
                    replace hL_x_F_Sources := hL_x_F_Sources.kp hk
                    replace hL_x_O_Sources := hL_x_O_Sources.kp hk
                    replace hL_x_L := hL_x_L.kp hk
                    replace hL_1 := hL_1.kp hk
                    replace hL_2 := hL_2.kp hk
                    replace hL_84 := hL_84.kp hk
                    replace hN_1 := hN_1.kp hk
                    replace hL_85 := hL_85.kp hk
                    replace hN_2 := hN_2.kp hk
                    replace hL_88 := hL_88.kp hk
                    refine HA.val (k := 18) (v := .bool r_38) rfl rfl (by kernel_rfl) (by kernel_rfl) (want_none) rfl (fun _ ⟨c223, c225, c227⟩ => q_pickK true rfl c_8 rfl) ?_
                    refine HA.val (k := 19) (v := .bool r_38) rfl rfl (by kernel_rfl) (by kernel_rfl) (want_none) rfl (fun _ ⟨c223, c225, c227⟩ => q_assign rfl) ?_
                    refine HA.nil ⟨⟨(hS.box 6 rfl), (hS.box 7 rfl), (hS.box 8 rfl)⟩, (Go.Wk.at_nil _ _)⟩ (by kernel_rfl) (thenQ_normal (?_))
                    refine HW.ret (?_)
                    refine ⟨.inr rfl, .bool r_38, res1 rfl (rt rfl), ?_⟩
                    replace hS : St F_171 (fr) h_309 := hS.perm2 [] 9 rfl rfl
                    exact ⟨F_171, r_38, rfl, hK, hS, hL_x_F_Sources, hL_x_O_Sources, hL_x_L, hM⟩
                  · replace hM := hM.2 c_8
                    refine HA.one (k := 17) ⟨⟨(hS.box 6 rfl), (hS.box 7 rfl), (hS.box 8 rfl)⟩, (Go.Wk.at_nil _ _)⟩ (by kernel_rfl) ?_
                    refine HS.past rfl (past_by rfl rfl c_8) rfl ?_
                    refine HA.val (k := 18) (v := .bool false) rfl rfl (by kernel_rfl) (by kernel_rfl) (want_none) rfl (fun _ ⟨c223, c225, c227⟩ => q_pickK false rfl c_8 rfl) ?_
                    refine HA.val (k := 19) (v := .bool false) rfl rfl (by kernel_rfl) (by kernel_rfl) (want_none) rfl (fun _ ⟨c223, c225, c227⟩ => q_assign rfl) ?_
                    refine HA.nil ⟨⟨(hS.box 6 rfl), (hS.box 7 rfl), (hS.box 8 rfl)⟩, (Go.Wk.at_nil _ _)⟩ (by kernel_rfl) (thenQ_normal (?_))
                    refine HW.ret (?_)
                    refine ⟨.inr rfl, .bool false, res1 rfl (rt rfl), ?_⟩
                    replace hS : St F_170 (fr) h_308 := hS.perm2 [] 9 rfl rfl
                    exact ⟨F_170, false, rfl, hK, hS, hL_x_F_Sources, hL_x_O_Sources, hL_x_L, hM⟩
                · replace hM := hM.2 c_7
                  refine HA.past (k := 6) rfl rfl (by kernel_rfl) (by kernel_rfl) (past_by rfl rfl c_7) rfl ?_
                  refine HA.past (k := 8) rfl rfl (by kernel_rfl) (by kernel_rfl) (past_by rfl rfl c_7) rfl ?_
                  refine HA.past (k := 11) rfl rfl (by kernel_rfl) (by kernel_rfl) (past_by rfl rfl c_7) rfl ?_
                  refine HA.past (k := 12) rfl rfl (by kernel_rfl) (by kernel_rfl) (past_by rfl rfl c_7) rfl ?_
                  refine HA.one (k := 7) ⟨⟨(hS.box 2 rfl), (hS.box 4 rfl), (hS.box 5 rfl)⟩, (Go.Wk.at_nil _ _)⟩ (by kernel_rfl) ?_
                  refine HS.past rfl (past_by rfl rfl c_7) rfl ?_
                  refine HA.one (k := 9) ⟨⟨(hS.box 2 rfl), (hS.box 4 rfl), (hS.box 5 rfl)⟩, (Go.Wk.at_nil _ _)⟩ (by kernel_rfl) ?_
                  refine HS.past rfl (past_by rfl rfl c_7) rfl ?_
                  refine HA.one (k := 10) ⟨⟨(hS.box 2 rfl), (hS.box 4 rfl), (hS.box 5 rfl)⟩, (Go.Wk.at_nil _ _)⟩ (by kernel_rfl) ?_
                  refine HS.past rfl (past_by rfl rfl c_7) rfl ?_
                  refine HA.one (k := 13) ⟨⟨(hS.box 2 rfl), (hS.box 4 rfl), (hS.box 5 rfl)⟩, (Go.Wk.at_nil _ _)⟩ (by kernel_rfl) ?_
                  refine HS.past rfl (past_by rfl rfl c_7) rfl ?_
                  refine HA.one (k := 14) ⟨⟨(hS.box 2 rfl), (hS.box 4 rfl), (hS.box 5 rfl)⟩, (Go.Wk.at_nil _ _)⟩ (by kernel_rfl) ?_
                  refine HS.past rfl (past_by rfl rfl c_7) rfl ?_
                  refine HA.val (k := 15) (v := .bool false) rfl rfl (by kernel_rfl) (by kernel_rfl) (want_none) rfl (fun _ ⟨c223, c225, c227⟩ => q_pickK false rfl c_7 rfl) ?_
                  refine HA.val (k := 16) (v := .bool false) rfl rfl (by kernel_rfl) (by kernel_rfl) (want_none) rfl (fun _ ⟨c223, c225, c227⟩ => q_move rfl) ?_
                  refine HA.one (k := 17) ⟨⟨(hS.box 2 rfl), (hS.box 4 rfl), (hS.box 5 rfl)⟩, (Go.Wk.at_nil _ _)⟩ (by kernel_rfl) ?_
                  refine HS.past rfl (past_some rfl rfl) rfl ?_
                  refine HA.val (k := 18) (v := .bool false) rfl rfl (by kernel_rfl) (by kernel_rfl) (want_none) rfl (fun _ ⟨c223, c225, c227⟩ => q_pick rfl rfl) ?_
                  refine HA.val (k := 19) (v := .bool false) rfl rfl (by kernel_rfl) (by kernel_rfl) (want_none) rfl (fun _ ⟨c223, c225, c227⟩ => q_assign rfl) ?_
                  refine HA.nil ⟨⟨(hS.box 2 rfl), (hS.box 4 rfl), (hS.box 5 rfl)⟩, (Go.Wk.at_nil _ _)⟩ (by kernel_rfl) (thenQ_normal (?_))
                  refine HW.ret (?_)
                  refine ⟨.inr rfl, .bool false, res1 rfl (rt rfl), ?_⟩
                  replace hS : St F_161 (fr) h_303 := hS.perm2 [] 6 rfl rfl
                  exact ⟨F_161, false, rfl, hK, hS, hL_x_F_Sources, hL_x_O_Sources, hL_x_L, hM⟩
end Go.Wk
