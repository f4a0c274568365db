/- Walks of Host and Proxy. -/
import Derived.Test.YtmbkoonblmfdpaaGreatHzW3
set_option linter.unusedSimpArgs false
set_option linter.unusedVariables false
set_option linter.unusedSectionVars false
set_option maxHeartbeats 40000000
set_option maxRecDepth 100000
namespace Go.Wk
open Go.HL
open Go.Proofs hiding encI
variable [DM]
def merge_Current_j1 (g : T_api_Addr) (f_Exclude : Bool) (Q : Int → Bool → (Ba 16) → (List T_api_Addr) → Bool → Prop) (out_18_1 : List T_api_Addr) : Prop :=
 (f_Exclude = true → Q 2 g.1 g.2 out_18_1 true) ∧ (f_Exclude = false → Q 1 g.1 g.2 out_18_1 true)
def merge_Current_W (g : T_api_Addr) (f_Exclude : Bool) (f_Sources : List T_api_Addr) (Q : Int → Bool → (Ba 16) → (List T_api_Addr) → Bool → Prop) : Prop :=
 merge_none_W f_Exclude f_Sources (fun r_1 => (r_1 = true → Q 0 false (default : Ba 16) [] false) ∧ (r_1 = false → slices_Clone_s_api_Addr_api_Addr_W f_Sources (fun r_2 => merge_Current_j1 g f_Exclude Q r_2)))
theorem merge_Current_walk {F : Fz} {fr : List Ow} {h0 : Heap} (g : T_api_Addr) (f_Exclude : Bool) (f_Sources : List T_api_Addr) (vf_Sources : Value) (hS : St F (fr) h0) (hL_f_Sources : SliceF F h0 17 e_api_Addr vf_Sources f_Sources) {Q : Int → Bool → (Ba 16) → (List T_api_Addr) → Bool → Prop} (hM : merge_Current_W g f_Exclude f_Sources Q) :
  HC Tryz.prog 115 #[.agg (e_api_Addr g).toArray, .agg #[.bool f_Exclude, vf_Sources]] h0 fun u h' => ∃ (F' : Fz) (r0_0_1 : Int) (r0_1_1 : Bool) (r0_2_1 : Ba 16) (r0_18_1 : List T_api_Addr) (r1_1 : Bool) (vr0_18_1 : Value), u = .tuple #[.agg (c_api_Record (.int .i64 r0_0_1) (r0_1_1, r0_2_1) vr0_18_1).toArray, .bool r1_1] ∧ Kp F h0 F' h' ∧ St F' (Ow.own 28 17 e_api_Addr vr0_18_1 r0_18_1 :: fr) h' ∧ (SliceF F' h' 17 e_api_Addr vf_Sources f_Sources) ∧ Q r0_0_1 r0_1_1 r0_2_1 r0_18_1 r1_1 := by
 unfold merge_Current_W at hM
 have hK := Kp.refl F h0
 refine HC.of_HW (n := 19) Tryz.func115 rfl rfl (Nat.le_of_ble_eq_true rfl) ?_
 refine HW.seq ?_
 refine HW.region ?_
 refine HO.eff (want_none) rfl (st_box (c := (e_api_Addr g).toArray) (k' := 17) hS rfl rfl) ?_
 rintro _ h_1 ⟨b_1, rfl, hS, hk⟩
 replace hK := hK.trans hk
 replace hL_f_Sources := hL_f_Sources.kp hk
 refine HO.eff (want_none) rfl (st_box (c := #[.bool f_Exclude, vf_Sources]) (k' := 2) hS rfl rfl) ?_
 rintro _ h_2 ⟨b_2, rfl, hS, hk⟩
 replace hK := hK.trans hk
 replace hL_f_Sources := hL_f_Sources.kp hk
 refine HO.eff (want_none) rfl (st_alloc (c := (c_api_Record (.int .i64 0) (false, (default : Ba 16)) (.slice none 0 0)).toArray) hS tz_89 rfl) ?_
 rintro _ h_3 ⟨b_3, rfl, hS, hk⟩
 replace hK := hK.trans hk
 replace hL_f_Sources := hL_f_Sources.kp hk
 refine oA (.bool false) rfl rfl ?_
 refine HO.nil (thenQ_normal (?_))
 refine HW.seq ?_
 refine HW.seq ?_
 refine HW.region ?_
 refine oV (.agg #[.bool f_Exclude, vf_Sources]) (q_loadAgg (cs := [.bool f_Exclude, vf_Sources]) ta_50 rfl rfl (Blk.cells (k := 2) (hS.box 1 rfl) rfl)) rfl ?_
 refine HO.call (want_none) rfl (ec en_107 rfl rfl) (merge_none_walk (fr := (Ow.box b_3 89 (c_api_Record (.int .i64 0) (false, (default : Ba 16)) (.slice none 0 0)).toArray :: Ow.box b_2 50 #[.bool f_Exclude, vf_Sources] :: Ow.box b_1 28 (e_api_Addr g).toArray :: fr)) f_Exclude f_Sources vf_Sources hS hL_f_Sources hM) ?_
 rintro _ h_4 ⟨F_1, r_1, rfl, hk, hS, _, hM⟩
 replace hK := hK.trans hk
 replace hL_f_Sources := hL_f_Sources.kp hk
 refine HO.nil (thenQ_normal (?_))
 refine HW.cond r_1 rfl (fun c_1 => ?_) (fun c_1 => ?_)
 ·
  replace hM := hM.1 c_1
  refine HW.seq ?_
  refine HW.region ?_
  refine oV (.agg (c_api_Record (.int .i64 0) (false, (default : Ba 16)) (.slice none 0 0)).toArray) (q_build tp_89 rfl) rfl ?_
  refine HO.sto (want_none) rfl (st_storeAgg (c' := (c_api_Record (.int .i64 0) (false, (default : Ba 16)) (.slice none 0 0)).toArray) hS (i := 0) rfl ta_89 rfl rfl rfl (List.forall_mem_cons.2 ⟨rfl, (List.forall_mem_cons.2 ⟨rfl, (List.forall_mem_cons.2 ⟨rfl, (List.forall_mem_cons.2 ⟨rfl, (List.forall_mem_cons.2 ⟨rfl, (List.forall_mem_cons.2 ⟨rfl, (List.forall_mem_cons.2 ⟨rfl, (List.forall_mem_cons.2 ⟨rfl, (List.forall_mem_cons.2 ⟨rfl, (List.forall_mem_cons.2 ⟨rfl, (List.forall_mem_cons.2 ⟨rfl, (List.forall_mem_cons.2 ⟨rfl, (List.forall_mem_cons.2 ⟨rfl, (List.forall_mem_cons.2 ⟨rfl, (List.forall_mem_cons.2 ⟨rfl, (List.forall_mem_cons.2 ⟨rfl, (List.forall_mem_cons.2 ⟨rfl, (List.forall_mem_cons.2 ⟨rfl, (List.forall_mem_cons.2 ⟨rfl, (fun _ h => by cases h)⟩)⟩)⟩)⟩)⟩)⟩)⟩)⟩)⟩)⟩)⟩)⟩)⟩)⟩)⟩)⟩)⟩)⟩)⟩) (Nat.le_of_ble_eq_true rfl) rfl) ?_
  rintro h_5 ⟨hS, hk⟩
  replace hK := hK.trans hk
  replace hL_f_Sources := hL_f_Sources.kp hk
  refine oA (.bool false) rfl rfl ?_
  refine HO.nil (thenQ_normal (?_))
  refine HW.ret (thenQ_ret (?_))
  refine ⟨.inr rfl, .tuple #[.agg (c_api_Record (.int .i64 0) (false, (default : Ba 16)) (.slice none 0 0)).toArray, .bool false], res2 rfl (rca (cs := (c_api_Record (.int .i64 0) (false, (default : Ba 16)) (.slice none 0 0))) ta_89 rfl rfl (Blk.cells (k := 19) (hS.box 0 rfl) rfl)) (rt rfl), ?_⟩
  replace hS := hS.nilOwn 28 17 e_api_Addr
  replace hS : St F_1 (Ow.own 28 17 e_api_Addr (.slice none 0 0) ([] : List T_api_Addr) :: fr) h_5 := hS.perm2 [0] 4 rfl rfl
  exact ⟨F_1, 0, false, (default : Ba 16), [], false, .slice none 0 0, rfl, hK, hS, hL_f_Sources, hM⟩
 ·
  replace hM := hM.2 c_1
  refine HW.skip (thenQ_normal (?_))
  refine HW.seq_mid (fun f h => ∃ (F' : Fz) (out_18_1 : List T_api_Addr) (b_4 : Nat) (vout_18_1 : Value), f 3 = .pointer (some ⟨b_2, 0, none⟩) ∧ f 4 = .pointer (some ⟨b_3, 0, none⟩) ∧ f 5 = .bool false ∧ f 6 = .pointer (some ⟨b_4, 0, none⟩) ∧ Kp F h0 F' h ∧ St F' (Ow.box b_2 50 #[.bool f_Exclude, vf_Sources] :: Ow.box b_3 89 (c_api_Record (.int .i64 0) (false, (default : Ba 16)) (.slice none 0 0)).toArray :: Ow.box b_4 89 (c_api_Record (.int .i64 1) g vout_18_1).toArray :: Ow.own 28 17 e_api_Addr vout_18_1 out_18_1 :: fr) h ∧ (SliceF F' h 17 e_api_Addr vf_Sources f_Sources) ∧ merge_Current_j1 g f_Exclude Q out_18_1) ?_ ?_
  ·
   refine HW.regionA 7 mixed (fun h => (Blk h b_2 (.cells #[.bool f_Exclude, vf_Sources] 50 (0, 0))) ∧ (Blk h b_1 (.cells (e_api_Addr g).toArray 28 (0, 0)))) [] (by kernel_rfl) ?_
   refine HA.val (k := 0) (v := .agg (e_api_Addr g).toArray) rfl rfl (by kernel_rfl) (by kernel_rfl) (want_none) rfl (fun _ ⟨c203, c202⟩ => q_loadAgg (cs := (e_api_Addr g)) ta_28 rfl rfl (Blk.cells (k := 17) c202 rfl)) ?_
   refine HA.val (k := 1) (v := .pointer (some ⟨b_2, 1, none⟩)) rfl rfl (by kernel_rfl) (by kernel_rfl) (want_none) rfl (fun _ ⟨c203, c202⟩ => q_fieldAddr fa_50_1 rfl rfl) ?_
   refine HA.val (k := 2) (v := vf_Sources) rfl rfl (by kernel_rfl) (by kernel_rfl) (want_none) rfl (fun _ ⟨c203, c202⟩ => q_load to_29 rfl (Blk.cell c203 rfl)) ?_
   refine HA.two (k := 3) (k' := 5) ⟨⟨(hS.box 1 rfl), (hS.box 2 rfl)⟩, (Go.Wk.at_nil _ _)⟩ (by kernel_rfl) ?_ ?_
   ·
    refine HS.call rfl (want_none) rfl (ec en_100 rfl rfl) (slices_Clone_s_api_Addr_api_Addr_walk (fr := (Ow.box b_3 89 (c_api_Record (.int .i64 0) (false, (default : Ba 16)) (.slice none 0 0)).toArray :: Ow.box b_2 50 #[.bool f_Exclude, vf_Sources] :: Ow.box b_1 28 (e_api_Addr g).toArray :: fr)) f_Sources vf_Sources hS hL_f_Sources hM) ?_
    rintro vr_1 h_6 ⟨F_2, r_2, _, rfl, hk, hS, _, hM⟩
    replace hK := hK.trans hk
    replace hL_f_Sources := hL_f_Sources.kp hk
    refine Go.Wk.HA.re (fun h => (OwnIs h 0 28 17 e_api_Addr vr_1 r_2) ∧ (Blk h b_2 (.cells #[.bool f_Exclude, vf_Sources] 50 (0, 0))) ∧ (Blk h b_1 (.cells (e_api_Addr g).toArray 28 (0, 0)))) [] (fun L_ h_ hL_ ⟨c227, c203, c202⟩ hs_ => ⟨⟨c203, c202⟩, (Go.Wk.at_nil _ _)⟩) ?_
    refine HA.val (k := 4) (v := .agg (c_api_Record (.int .i64 1) g vr_1).toArray) rfl rfl (by kernel_rfl) (by kernel_rfl) (want_none) rfl (fun _ ⟨c227, c203, c202⟩ => q_build tp_89 (fill_cons (cs' := (c_api_Record (.int .i64 1) (false, (default : Ba 16)) (.slice none 0 0)).toArray) (vc := #[.int .i64 1]) rfl rfl rfl (Nat.le_of_ble_eq_true rfl) rfl (fill_cons (cs' := (c_api_Record (.int .i64 1) g (.slice none 0 0)).toArray) (vc := (e_api_Addr g).toArray) rfl rfl rfl (Nat.le_of_ble_eq_true rfl) rfl (fill_cons (cs' := (c_api_Record (.int .i64 1) g vr_1).toArray) (vc := #[vr_1]) rfl (shp c227.slice).cells rfl (Nat.le_of_ble_eq_true rfl) rfl rfl)))) ?_
    refine HA.one (k := 5) ⟨⟨(hS.own 0 rfl), (hS.box 2 rfl), (hS.box 3 rfl)⟩, (Go.Wk.at_nil _ _)⟩ (by kernel_rfl) ?_
    refine HS.eff rfl (want_none) rfl (st_alloc (c := (c_api_Record (.int .i64 0) (false, (default : Ba 16)) (.slice none 0 0)).toArray) hS tz_89 rfl) ?_
    rintro _ h_7 ⟨b_5, rfl, hS, hk⟩
    replace hK := hK.trans hk
    replace hL_f_Sources := hL_f_Sources.kp hk
    refine HA.one (k := 6) ⟨⟨(hS.own 1 rfl), (hS.box 3 rfl), (hS.box 4 rfl)⟩, (Go.Wk.at_nil _ _)⟩ (by kernel_rfl) ?_
    refine HS.sto rfl (want_none) rfl (st_storeAgg (c' := (c_api_Record (.int .i64 1) g vr_1).toArray) hS (i := 0) rfl ta_89 rfl rfl rfl (List.forall_mem_cons.2 ⟨rfl, (List.forall_mem_cons.2 ⟨rfl, (List.forall_mem_cons.2 ⟨rfl, (List.forall_mem_cons.2 ⟨rfl, (List.forall_mem_cons.2 ⟨rfl, (List.forall_mem_cons.2 ⟨rfl, (List.forall_mem_cons.2 ⟨rfl, (List.forall_mem_cons.2 ⟨rfl, (List.forall_mem_cons.2 ⟨rfl, (List.forall_mem_cons.2 ⟨rfl, (List.forall_mem_cons.2 ⟨rfl, (List.forall_mem_cons.2 ⟨rfl, (List.forall_mem_cons.2 ⟨rfl, (List.forall_mem_cons.2 ⟨rfl, (List.forall_mem_cons.2 ⟨rfl, (List.forall_mem_cons.2 ⟨rfl, (List.forall_mem_cons.2 ⟨rfl, (List.forall_mem_cons.2 ⟨rfl, (List.forall_mem_cons.2 ⟨(shp (hS.own 1 rfl).slice).one, (fun _ h => by cases h)⟩)⟩)⟩)⟩)⟩)⟩)⟩)⟩)⟩)⟩)⟩)⟩)⟩)⟩)⟩)⟩)⟩)⟩)⟩) (Nat.le_of_ble_eq_true rfl) rfl) ?_
    rintro h_8 ⟨hS, hk⟩
    replace hK := hK.trans hk
    replace hL_f_Sources := hL_f_Sources.kp hk
    refine HA.nil ⟨⟨(hS.own 1 rfl), (hS.box 3 rfl), (hS.box 4 rfl)⟩, (Go.Wk.at_nil _ _)⟩ (by kernel_rfl) (thenQ_normal (?_))
    replace hS : St F_2 (Ow.box b_2 50 #[.bool f_Exclude, vf_Sources] :: Ow.box b_3 89 (c_api_Record (.int .i64 0) (false, (default : Ba 16)) (.slice none 0 0)).toArray :: Ow.box b_5 89 (c_api_Record (.int .i64 1) g vr_1).toArray :: Ow.own 28 17 e_api_Addr vr_1 r_2 :: fr) h_8 := hS.perm2 [3, 2, 0, 1] 5 rfl rfl
    exact ⟨F_2, r_2, b_5, vr_1, rfl, rfl, rfl, rfl, hK, hS, hL_f_Sources, hM⟩
   ·
    refine HS.eff rfl (want_none) rfl (st_alloc (c := (c_api_Record (.int .i64 0) (false, (default : Ba 16)) (.slice none 0 0)).toArray) hS tz_89 rfl) ?_
    rintro _ h_6 ⟨b_5, rfl, hS, hk⟩
    replace hK := hK.trans hk
    replace hL_f_Sources := hL_f_Sources.kp hk
    refine HA.one (k := 3) ⟨⟨(hS.box 2 rfl), (hS.box 3 rfl)⟩, (Go.Wk.at_nil _ _)⟩ (by kernel_rfl) ?_
    refine HS.call rfl (want_none) rfl (ec en_100 rfl rfl) (slices_Clone_s_api_Addr_api_Addr_walk (fr := (Ow.box b_5 89 (c_api_Record (.int .i64 0) (false, (default : Ba 16)) (.slice none 0 0)).toArray :: Ow.box b_3 89 (c_api_Record (.int .i64 0) (false, (default : Ba 16)) (.slice none 0 0)).toArray :: Ow.box b_2 50 #[.bool f_Exclude, vf_Sources] :: Ow.box b_1 28 (e_api_Addr g).toArray :: fr)) f_Sources vf_Sources hS hL_f_Sources hM) ?_
    rintro vr_1 h_7 ⟨F_2, r_2, _, rfl, hk, hS, _, hM⟩
    replace hK := hK.trans hk
    replace hL_f_Sources := hL_f_Sources.kp hk
    refine Go.Wk.HA.re (fun h => (OwnIs h 0 28 17 e_api_Addr vr_1 r_2) ∧ (Blk h b_2 (.cells #[.bool f_Exclude, vf_Sources] 50 (0, 0))) ∧ (Blk h b_1 (.cells (e_api_Addr g).toArray 28 (0, 0)))) [] (fun L_ h_ hL_ ⟨c227, c203, c202⟩ hs_ => ⟨⟨c203, c202⟩, (Go.Wk.at_nil _ _)⟩) ?_
    refine HA.val (k := 4) (v := .agg (c_api_Record (.int .i64 1) g vr_1).toArray) rfl rfl (by kernel_rfl) (by kernel_rfl) (want_none) rfl (fun _ ⟨c227, c203, c202⟩ => q_build tp_89 (fill_cons (cs' := (c_api_Record (.int .i64 1) (false, (default : Ba 16)) (.slice none 0 0)).toArray) (vc := #[.int .i64 1]) rfl rfl rfl (Nat.le_of_ble_eq_true rfl) rfl (fill_cons (cs' := (c_api_Record (.int .i64 1) g (.slice none 0 0)).toArray) (vc := (e_api_Addr g).toArray) rfl rfl rfl (Nat.le_of_ble_eq_true rfl) rfl (fill_cons (cs' := (c_api_Record (.int .i64 1) g vr_1).toArray) (vc := #[vr_1]) rfl (shp c227.slice).cells rfl (Nat.le_of_ble_eq_true rfl) rfl rfl)))) ?_
    refine HA.one (k := 6) ⟨⟨(hS.own 0 rfl), (hS.box 3 rfl), (hS.box 4 rfl)⟩, (Go.Wk.at_nil _ _)⟩ (by kernel_rfl) ?_
    refine HS.sto rfl (want_none) rfl (st_storeAgg (c' := (c_api_Record (.int .i64 1) g vr_1).toArray) hS (i := 1) rfl ta_89 rfl rfl rfl (List.forall_mem_cons.2 ⟨rfl, (List.forall_mem_cons.2 ⟨rfl, (List.forall_mem_cons.2 ⟨rfl, (List.forall_mem_cons.2 ⟨rfl, (List.forall_mem_cons.2 ⟨rfl, (List.forall_mem_cons.2 ⟨rfl, (List.forall_mem_cons.2 ⟨rfl, (List.forall_mem_cons.2 ⟨rfl, (List.forall_mem_cons.2 ⟨rfl, (List.forall_mem_cons.2 ⟨rfl, (List.forall_mem_cons.2 ⟨rfl, (List.forall_mem_cons.2 ⟨rfl, (List.forall_mem_cons.2 ⟨rfl, (List.forall_mem_cons.2 ⟨rfl, (List.forall_mem_cons.2 ⟨rfl, (List.forall_mem_cons.2 ⟨rfl, (List.forall_mem_cons.2 ⟨rfl, (List.forall_mem_cons.2 ⟨rfl, (List.forall_mem_cons.2 ⟨(shp (hS.own 0 rfl).slice).one, (fun _ h => by cases h)⟩)⟩)⟩)⟩)⟩)⟩)⟩)⟩)⟩)⟩)⟩)⟩)⟩)⟩)⟩)⟩)⟩)⟩)⟩) (Nat.le_of_ble_eq_true rfl) rfl) ?_
    rintro h_8 ⟨hS, hk⟩
    replace hK := hK.trans hk
    replace hL_f_Sources := hL_f_Sources.kp hk
    refine HA.nil ⟨⟨(hS.own 0 rfl), (hS.box 3 rfl), (hS.box 4 rfl)⟩, (Go.Wk.at_nil _ _)⟩ (by kernel_rfl) (thenQ_normal (?_))
    replace hS : St F_2 (Ow.box b_2 50 #[.bool f_Exclude, vf_Sources] :: Ow.box b_3 89 (c_api_Record (.int .i64 0) (false, (default : Ba 16)) (.slice none 0 0)).toArray :: Ow.box b_5 89 (c_api_Record (.int .i64 1) g vr_1).toArray :: Ow.own 28 17 e_api_Addr vr_1 r_2 :: fr) h_8 := hS.perm2 [3, 2, 1, 0] 5 rfl rfl
    exact ⟨F_2, r_2, b_5, vr_1, rfl, rfl, rfl, rfl, hK, hS, hL_f_Sources, hM⟩
  ·
   rintro f_1 h_9 ⟨F_3, out_18_1, b_4, vout_18_1, e3, e4, e5, e6, hK, hS, hL_f_Sources, hM⟩
   unfold merge_Current_j1 at hM
   refine HW.fr [(3, .pointer (some ⟨b_2, 0, none⟩)), (4, .pointer (some ⟨b_3, 0, none⟩)), (5, .bool false), (6, .pointer (some ⟨b_4, 0, none⟩))] ⟨e3, e4, e5, e6, trivial⟩ ?_
   refine HW.seq ?_
   refine HW.seq ?_
   refine HW.region ?_
   refine oV (.pointer (some ⟨b_2, 0, none⟩)) (q_fieldAddr fa_50_0 rfl rfl) rfl ?_
   refine oV (.bool f_Exclude) (q_load to_4 rfl (Blk.cell (hS.box 0 rfl) rfl)) rfl ?_
   refine HO.nil (thenQ_normal (?_))
   refine HW.cond f_Exclude rfl (fun c_2 => ?_) (fun c_2 => ?_)
   ·
    replace hM := hM.1 c_2
    refine HW.region ?_
    refine oV (.pointer (some ⟨b_4, 0, none⟩)) (q_fieldAddr fa_89_0 rfl rfl) rfl ?_
    refine HO.sto (want_none) rfl (st_store (c' := (c_api_Record (.int .i64 2) g vout_18_1).toArray) hS (i := 2) rfl to_3 rfl rfl rfl rfl (Nat.le_of_ble_eq_true rfl) rfl) ?_
    rintro h_10 ⟨hS, hk⟩
    replace hK := hK.trans hk
    replace hL_f_Sources := hL_f_Sources.kp hk
    refine HO.nil (thenQ_normal (?_))
    refine HW.seq ?_
    refine HW.region ?_
    refine oV (.agg (c_api_Record (.int .i64 2) g vout_18_1).toArray) (q_loadAgg (cs := (c_api_Record (.int .i64 2) g vout_18_1)) ta_89 rfl rfl (Blk.cells (k := 19) (hS.box 2 rfl) rfl)) rfl ?_
    refine HO.sto (want_none) rfl (st_storeAgg (c' := (c_api_Record (.int .i64 2) g vout_18_1).toArray) hS (i := 1) rfl ta_89 rfl rfl rfl (List.forall_mem_cons.2 ⟨rfl, (List.forall_mem_cons.2 ⟨rfl, (List.forall_mem_cons.2 ⟨rfl, (List.forall_mem_cons.2 ⟨rfl, (List.forall_mem_cons.2 ⟨rfl, (List.forall_mem_cons.2 ⟨rfl, (List.forall_mem_cons.2 ⟨rfl, (List.forall_mem_cons.2 ⟨rfl, (List.forall_mem_cons.2 ⟨rfl, (List.forall_mem_cons.2 ⟨rfl, (List.forall_mem_cons.2 ⟨rfl, (List.forall_mem_cons.2 ⟨rfl, (List.forall_mem_cons.2 ⟨rfl, (List.forall_mem_cons.2 ⟨rfl, (List.forall_mem_cons.2 ⟨rfl, (List.forall_mem_cons.2 ⟨rfl, (List.forall_mem_cons.2 ⟨rfl, (List.forall_mem_cons.2 ⟨rfl, (List.forall_mem_cons.2 ⟨(shp (hS.own 3 rfl).slice).one, (fun _ h => by cases h)⟩)⟩)⟩)⟩)⟩)⟩)⟩)⟩)⟩)⟩)⟩)⟩)⟩)⟩)⟩)⟩)⟩)⟩)⟩) (Nat.le_of_ble_eq_true rfl) rfl) ?_
    rintro h_11 ⟨hS, hk⟩
    replace hK := hK.trans hk
    replace hL_f_Sources := hL_f_Sources.kp hk
    refine oA (.bool true) rfl rfl ?_
    refine HO.nil (thenQ_normal (?_))
    refine HW.ret (?_)
    refine ⟨.inr rfl, .tuple #[.agg (c_api_Record (.int .i64 2) g vout_18_1).toArray, .bool true], res2 rfl (rca (cs := (c_api_Record (.int .i64 2) g vout_18_1)) ta_89 rfl rfl (Blk.cells (k := 19) (hS.box 1 rfl) rfl)) (rt rfl), ?_⟩
    replace hS : St F_3 (Ow.own 28 17 e_api_Addr vout_18_1 out_18_1 :: fr) h_11 := hS.perm2 [3] 4 rfl rfl
    exact ⟨F_3, 2, g.1, g.2, out_18_1, true, vout_18_1, rfl, hK, hS, hL_f_Sources, hM⟩
   ·
    replace hM := hM.2 c_2
    refine HW.skip (thenQ_normal (?_))
    refine HW.seq ?_
    refine HW.region ?_
    refine oV (.agg (c_api_Record (.int .i64 1) g vout_18_1).toArray) (q_loadAgg (cs := (c_api_Record (.int .i64 1) g vout_18_1)) ta_89 rfl rfl (Blk.cells (k := 19) (hS.box 2 rfl) rfl)) rfl ?_
    refine HO.sto (want_none) rfl (st_storeAgg (c' := (c_api_Record (.int .i64 1) g vout_18_1).toArray) hS (i := 1) rfl ta_89 rfl rfl rfl (List.forall_mem_cons.2 ⟨rfl, (List.forall_mem_cons.2 ⟨rfl, (List.forall_mem_cons.2 ⟨rfl, (List.forall_mem_cons.2 ⟨rfl, (List.forall_mem_cons.2 ⟨rfl, (List.forall_mem_cons.2 ⟨rfl, (List.forall_mem_cons.2 ⟨rfl, (List.forall_mem_cons.2 ⟨rfl, (List.forall_mem_cons.2 ⟨rfl, (List.forall_mem_cons.2 ⟨rfl, (List.forall_mem_cons.2 ⟨rfl, (List.forall_mem_cons.2 ⟨rfl, (List.forall_mem_cons.2 ⟨rfl, (List.forall_mem_cons.2 ⟨rfl, (List.forall_mem_cons.2 ⟨rfl, (List.forall_mem_cons.2 ⟨rfl, (List.forall_mem_cons.2 ⟨rfl, (List.forall_mem_cons.2 ⟨rfl, (List.forall_mem_cons.2 ⟨(shp (hS.own 3 rfl).slice).one, (fun _ h => by cases h)⟩)⟩)⟩)⟩)⟩)⟩)⟩)⟩)⟩)⟩)⟩)⟩)⟩)⟩)⟩)⟩)⟩)⟩)⟩) (Nat.le_of_ble_eq_true rfl) rfl) ?_
    rintro h_12 ⟨hS, hk⟩
    replace hK := hK.trans hk
    replace hL_f_Sources := hL_f_Sources.kp hk
    refine oA (.bool true) rfl rfl ?_
    refine HO.nil (thenQ_normal (?_))
    refine HW.ret (?_)
    refine ⟨.inr rfl, .tuple #[.agg (c_api_Record (.int .i64 1) g vout_18_1).toArray, .bool true], res2 rfl (rca (cs := (c_api_Record (.int .i64 1) g vout_18_1)) ta_89 rfl rfl (Blk.cells (k := 19) (hS.box 1 rfl) rfl)) (rt rfl), ?_⟩
    replace hS : St F_3 (Ow.own 28 17 e_api_Addr vout_18_1 out_18_1 :: fr) h_12 := hS.perm2 [3] 4 rfl rfl
    exact ⟨F_3, 1, g.1, g.2, out_18_1, true, vout_18_1, rfl, hK, hS, hL_f_Sources, hM⟩
def slices_DeleteFunc_s_api_Addr_api_Addr_l2 (cf_del : T_api_Addr → Bool) (Q : (List T_api_Addr) → Prop) (K_1 : (List T_api_Addr) → Int → Int → Prop) (l_1 : List T_api_Addr) (i_1 : Int) (j_1 : Int) : Prop :=
 (j_1 < (l_1.length : Int) → ((0 : Int) ≤ j_1 ∧ j_1 < (l_1.length : Int)) ∧ (((!(cf_del (gi l_1 j_1))) = true → ((0 : Int) ≤ i_1 ∧ i_1 < (l_1.length : Int)) ∧ ((I64 (i_1 + 1)) ∧ ((I64 (j_1 + 1)) ∧ (K_1 (l_1.set (i_1).toNat (gi l_1 j_1)) (i_1 + 1) (j_1 + 1))))) ∧ ((!(cf_del (gi l_1 j_1))) = false → (I64 (j_1 + 1)) ∧ (K_1 l_1 i_1 (j_1 + 1))))) ∧ (¬ (j_1 < (l_1.length : Int)) → ((0 : Int) ≤ i_1 ∧ i_1 ≤ (l_1.length : Int)) ∧ (((0 : Int) ≤ i_1 ∧ i_1 ≤ (l_1.length : Int) ∧ (l_1.length : Int) ≤ (l_1.length : Int)) ∧ (((0 : Int) ≤ i_1 ∧ i_1 ≤ ((clr l_1 i_1 (l_1.length : Int)).length : Int)) ∧ (Q (cut (clr l_1 i_1 (l_1.length : Int)) 0 i_1)))))
def slices_DeleteFunc_s_api_Addr_api_Addr_W (s1 : List T_api_Addr) (cf_del : T_api_Addr → Bool) (Q : (List T_api_Addr) → Prop) : Prop :=
 slices_IndexFunc_s_api_Addr_api_Addr_W s1 cf_del (fun r_2 => (r_2 = (-1) → Q s1) ∧ (¬ (r_2 = (-1)) → (I64 (r_2 + 1)) ∧ (loopW (fun (K_1 : (List T_api_Addr × Int × Int) → Prop) (s : List T_api_Addr × Int × Int) => slices_DeleteFunc_s_api_Addr_api_Addr_l2 cf_del Q (fun l_1 i_1 j_1 => K_1 (l_1, i_1, j_1)) s.1 s.2.1 s.2.2) (s1, r_2, r_2 + 1))))
theorem slices_DeleteFunc_s_api_Addr_api_Addr_walk {F : Fz} {fr : List Ow} {h0 : Heap} (s1 : List T_api_Addr) (cf_del : T_api_Addr → Bool) (vs : Value) (g_del : Nat) (fs_del : Array Value) (cs_del : Array Value) (hS : St F (Ow.own 28 17 e_api_Addr vs s1 :: fr) h0) (hF_cf_del : FnP Tryz.prog F h0 g_del fs_del cs_del (fun x : T_api_Addr => [.agg (e_api_Addr x).toArray]) (fun x => .bool (cf_del x))) {Q : (List T_api_Addr) → Prop} (hM : slices_DeleteFunc_s_api_Addr_api_Addr_W s1 cf_del Q) :
  HC Tryz.prog 162 #[vs, .func (.func g_del) fs_del cs_del] h0 fun u h' => ∃ (F' : Fz) (r_1 : List T_api_Addr) (vr_1 : Value), u = vr_1 ∧ Kp F h0 F' h' ∧ St F' (Ow.own 28 17 e_api_Addr vr_1 r_1 :: fr) h' ∧ (FnP Tryz.prog F' h' g_del fs_del cs_del (fun x : T_api_Addr => [.agg (e_api_Addr x).toArray]) (fun x => .bool (cf_del x))) ∧ Q r_1 := by
 unfold slices_DeleteFunc_s_api_Addr_api_Addr_W at hM
 have hK := Kp.refl F h0
 refine HC.of_HW (n := 42) Tryz.func162 rfl rfl (Nat.le_of_ble_eq_true rfl) ?_
 refine HW.seq ?_
 refine HW.region ?_
 refine oA (.slice none 0 0) rfl rfl ?_
 refine HO.nil (thenQ_normal (?_))
 refine HW.seq ?_
 refine HW.region ?_
 refine oM (vs) rfl rfl ?_
 refine oM (.func (.func g_del) fs_del cs_del) rfl rfl ?_
 replace hS : St F (Ow.own 28 17 e_api_Addr vs s1 :: fr) h0 := hS
 have hZ_1 := hS
 have hkz_1 := (hS.freeze).2
 replace hS := hS.freeze.1
 have hL_1 : SliceF (fun bz_ => F bz_ ∨ (Ow.own 28 17 e_api_Addr vs s1).foot bz_) h0 17 e_api_Addr vs s1 := ⟨(hZ_1.own 0 rfl).slice, fun _ b hb => .inr hb⟩
 refine HO.call (want_none) rfl (ec en_139 rfl rfl) (slices_IndexFunc_s_api_Addr_api_Addr_walk (fr := (fr)) s1 cf_del vs g_del fs_del cs_del hS hL_1 (hF_cf_del.kp hkz_1) hM) ?_
 rintro _ h_1 ⟨F_1, r_2, rfl, hk, hS, _, _, hM⟩
 obtain ⟨hS, hk⟩ := hZ_1.back hk hS
 generalize (fun bz_ => F_1 bz_ ∧ ¬ (Ow.own 28 17 e_api_Addr vs s1).foot bz_) = F_2 at hS hk
 replace hK := hK.trans hk
 replace hF_cf_del := hF_cf_del.kp hk
 refine oA (.int .i64 r_2) rfl rfl ?_
 refine HO.nil (thenQ_normal (?_))
 refine HW.seq ?_
 refine HW.seq ?_
 refine HW.region ?_
 refine oM (.int .i64 r_2) rfl rfl ?_
 refine oV (.bool (decide (r_2 = (-1)))) (q_eql rfl rfl) rfl ?_
 refine HO.nil (thenQ_normal (?_))
 refine HW.cond (decide (r_2 = (-1))) rfl (fun c_1 => ?_) (fun c_1 => ?_)
 ·
  replace hM := hM.1 (of_decide_eq_true c_1)
  refine HW.seq ?_
  refine HW.region ?_
  refine oM (vs) rfl rfl ?_
  refine oA (vs) rfl rfl ?_
  refine HO.nil (thenQ_normal (?_))
  refine HW.ret (thenQ_ret (?_))
  refine ⟨.inr rfl, vs, res1 rfl (rt rfl), ?_⟩
  exact ⟨F_2, s1, vs, rfl, hK, hS, hF_cf_del, hM⟩
 ·
  replace hM := hM.2 (of_decide_eq_false c_1)
  refine HW.skip (thenQ_normal (?_))
  refine HW.seq ?_
  refine HW.seq ?_
  refine HW.region ?_
  refine oM (.int .i64 r_2) rfl rfl ?_
  obtain ⟨ho_1, hM⟩ := hM
  refine oV (.int .i64 (r_2 + 1)) (q_addN _ rfl rfl rfl ho_1.1 ho_1.2) rfl ?_
  refine oA (.int .i64 (r_2 + 1)) rfl rfl ?_
  refine HO.nil (thenQ_normal (?_))
  refine HW.block ?_
  obtain ⟨I_1, m_1, hI_1, hR_1⟩ := hM
  refine HW.loop (S := List T_api_Addr × Int × Int) (fun s f h => match s with | (l_1, i_1, j_1) => ∃ (F' : Fz), f 0 = vs ∧ f 1 = .func (.func g_del) fs_del cs_del ∧ f 4 = .slice none 0 0 ∧ f 5 = .int .i64 i_1 ∧ f 6 = .int .i64 j_1 ∧ Kp F h0 F' h ∧ St F' (Ow.own 28 17 e_api_Addr vs l_1 :: fr) h ∧ (FnP Tryz.prog F' h g_del fs_del cs_del (fun x : T_api_Addr => [.agg (e_api_Addr x).toArray]) (fun x => .bool (cf_del x))) ∧ I_1 (l_1, i_1, j_1)) m_1 (s1, r_2, r_2 + 1) ⟨F_2, rfl, rfl, rfl, rfl, rfl, hK, hS, hF_cf_del, hI_1⟩ ?_
  rintro ⟨l_1, i_1, j_1⟩ f_1 h_2 ⟨F_3, e0, e1, e4, e5, e6, hK, hS, hF_cf_del, hI0⟩
  obtain ⟨K_1, hKe_1⟩ : ∃ K : (List T_api_Addr) → Int → Int → Prop, K = fun l_1' i_1' j_1' => I_1 (l_1', i_1', j_1') ∧ m_1 (l_1', i_1', j_1') < m_1 (l_1, i_1, j_1) := ⟨_, rfl⟩
  have hM : slices_DeleteFunc_s_api_Addr_api_Addr_l2 cf_del Q K_1 l_1 i_1 j_1 := by rw [hKe_1]; exact hR_1 (l_1, i_1, j_1) hI0
  unfold slices_DeleteFunc_s_api_Addr_api_Addr_l2 at hM
  refine HW.fr [(0, vs), (1, .func (.func g_del) fs_del cs_del), (4, .slice none 0 0), (5, .int .i64 i_1), (6, .int .i64 j_1)] ⟨e0, e1, e4, e5, e6, trivial⟩ ?_
  refine HW.seq ?_
  refine HW.seq ?_
  refine HW.region ?_
  refine oM (.int .i64 j_1) rfl rfl ?_
  refine oM (vs) rfl rfl ?_
  refine oV (.int .i64 (l_1.length : Int)) (q_len ts_29 (shp (hS.own 0 rfl).slice) rfl rfl) rfl ?_
  refine oV (.bool (decide (j_1 < (l_1.length : Int)))) (q_lss rfl rfl) rfl ?_
  refine HO.nil (thenQ_normal (?_))
  refine HW.cond (decide (j_1 < (l_1.length : Int))) rfl (fun c_2 => ?_) (fun c_2 => ?_)
  ·
   replace hM := hM.1 (of_decide_eq_true c_2)
   refine HW.skip (thenQ_normal (?_))
   refine HW.seq ?_
   refine HW.block ?_
   refine HW.seq ?_
   refine HW.region ?_
   refine oM (vs) rfl rfl ?_
   refine oM (.int .i64 j_1) rfl rfl ?_
   obtain ⟨ho_2, hM⟩ := hM
   refine oV (elemPtr 17 vs (j_1).toNat) (q_idx ts_29 (hS.own 0 rfl).slice rfl rfl ho_2) rfl ?_
   refine oV (.agg (e_api_Addr (gi l_1 j_1)).toArray) (q_ldElemAgg (cs := (e_api_Addr (gi l_1 j_1))) ta_28 (hS.own 0 rfl).slice rfl ho_2 rfl) rfl ?_
   refine HO.eff (want_none) rfl (st_alloc (c := (e_api_Addr (false, (default : Ba 16))).toArray) hS tz_28 rfl) ?_
   rintro _ h_3 ⟨b_1, rfl, hS, hk⟩
   replace hK := hK.trans hk
   replace hF_cf_del := hF_cf_del.kp hk
   refine HO.sto (want_none) rfl (st_storeAgg (c' := (e_api_Addr (gi l_1 j_1)).toArray) hS (i := 0) rfl ta_28 rfl rfl rfl (one_e_api_Addr _) (Nat.le_of_ble_eq_true rfl) rfl) ?_
   rintro h_4 ⟨hS, hk⟩
   replace hK := hK.trans hk
   replace hF_cf_del := hF_cf_del.kp hk
   refine HO.nil (thenQ_normal (?_))
   refine HW.seq ?_
   refine HW.region ?_
   refine oM (.func (.func g_del) fs_del cs_del) rfl rfl ?_
   refine oV (.agg (e_api_Addr (gi l_1 j_1)).toArray) (q_loadAgg (cs := (e_api_Addr (gi l_1 j_1))) ta_28 rfl rfl (Blk.cells (k := 17) (hS.box 0 rfl) rfl)) rfl ?_
   refine HO.call (want_none) rfl (hF_cf_del.ec (gi l_1 j_1) rfl rfl) (hF_cf_del.hc (gi l_1 j_1) hS) ?_
   rintro _ h_5 ⟨rfl, hS, hk⟩
   replace hK := hK.trans hk
   replace hF_cf_del := hF_cf_del.kp hk
   refine oV (.bool (!(cf_del (gi l_1 j_1)))) (q_not rfl) rfl ?_
   refine HO.nil (thenQ_normal (?_))
   refine HW.cond (!(cf_del (gi l_1 j_1))) rfl (fun c_3 => ?_) (fun c_3 => ?_)
   ·
    replace hM := hM.1 c_3
    refine HW.seq ?_
    refine HW.region ?_
    refine oM (vs) rfl rfl ?_
    refine oM (.int .i64 i_1) rfl rfl ?_
    refine oV (.agg (e_api_Addr (gi l_1 j_1)).toArray) (q_loadAgg (cs := (e_api_Addr (gi l_1 j_1))) ta_28 rfl rfl (Blk.cells (k := 17) (hS.box 0 rfl) rfl)) rfl ?_
    obtain ⟨ho_3, hM⟩ := hM
    refine oV (elemPtr 17 vs (i_1).toNat) (q_idx ts_29 (hS.own 1 rfl).slice rfl rfl ho_3) rfl ?_
    refine HO.sto (want_none) rfl (st_storeElem (a := (gi l_1 j_1)) (t := i_1) hS (i := 1) rfl ta_28 rfl ho_3 rfl rfl rfl (one_e_api_Addr _)) ?_
    rintro h_6 ⟨hS, hk⟩
    replace hK := hK.trans hk
    replace hF_cf_del := hF_cf_del.kp hk
    refine HO.nil (thenQ_normal (?_))
    refine HW.region ?_
    refine oM (.int .i64 i_1) rfl rfl ?_
    obtain ⟨ho_4, hM⟩ := hM
    refine oV (.int .i64 (i_1 + 1)) (q_addN _ rfl rfl rfl ho_4.1 ho_4.2) rfl ?_
    refine oA (.int .i64 (i_1 + 1)) rfl rfl ?_
    refine HO.nil (blockQ_normal (thenQ_normal (?_)))
    refine HW.region ?_
    refine oM (.int .i64 j_1) rfl rfl ?_
    obtain ⟨ho_5, hM⟩ := hM
    refine oV (.int .i64 (j_1 + 1)) (q_addN _ rfl rfl rfl ho_5.1 ho_5.2) rfl ?_
    refine oA (.int .i64 (j_1 + 1)) rfl rfl ?_
    refine HO.nil (thenQ_normal (?_))
    replace hS : St F_3 (Ow.own 28 17 e_api_Addr vs (l_1.set (i_1).toNat (gi l_1 j_1)) :: fr) h_6 := hS.perm2 [1] 2 rfl rfl
    rw [hKe_1] at hM
    exact ⟨(l_1.set (i_1).toNat (gi l_1 j_1), i_1 + 1, j_1 + 1), ⟨F_3, rfl, rfl, rfl, rfl, rfl, hK, hS, hF_cf_del, hM.1⟩, hM.2⟩
   ·
    replace hM := hM.2 c_3
    refine HW.skip (blockQ_normal (thenQ_normal (?_)))
    refine HW.region ?_
    refine oM (.int .i64 j_1) rfl rfl ?_
    obtain ⟨ho_6, hM⟩ := hM
    refine oV (.int .i64 (j_1 + 1)) (q_addN _ rfl rfl rfl ho_6.1 ho_6.2) rfl ?_
    refine oA (.int .i64 (j_1 + 1)) rfl rfl ?_
    refine HO.nil (thenQ_normal (?_))
    replace hS : St F_3 (Ow.own 28 17 e_api_Addr vs l_1 :: fr) h_5 := hS.perm2 [1] 2 rfl rfl
    rw [hKe_1] at hM
    exact ⟨(l_1, i_1, j_1 + 1), ⟨F_3, rfl, rfl, rfl, rfl, rfl, hK, hS, hF_cf_del, hM.1⟩, hM.2⟩
  ·
   replace hM := hM.2 (of_decide_eq_false c_2)
   refine HW.exit (thenQ_exit (thenQ_exit (blockQ_exit (thenQ_normal (?_)))))
   refine HW.seq ?_
   refine HW.region ?_
   refine oM (vs) rfl rfl ?_
   refine oM (.int .i64 i_1) rfl rfl ?_
   obtain ⟨ho_7, hM⟩ := hM
   refine oV (cutV 17 vs (i_1).toNat ((l_1.length : Int)).toNat) (q_slL ts_29 (hS.own 0 rfl).slice rfl rfl ho_7) rfl ?_
   obtain ⟨ho_8, hM⟩ := hM
   refine HO.eff (want_none) rfl (st_clearS (lo := i_1) (hi := (l_1.length : Int)) (z := .agg #[.bool false, .int .u8 0, .int .u8 0, .int .u8 0, .int .u8 0, .int .u8 0, .int .u8 0, .int .u8 0, .int .u8 0, .int .u8 0, .int .u8 0, .int .u8 0, .int .u8 0, .int .u8 0, .int .u8 0, .int .u8 0, .int .u8 0]) hS (i := 0) rfl te_29 tz_28 rfl (by intro u hu; simp [e_api_Addr, encI, encN, encB, encT, default] at hu; rcases hu with rfl | rfl | rfl | rfl | rfl | rfl | rfl | rfl | rfl | rfl | rfl | rfl | rfl | rfl | rfl | rfl | rfl <;> rfl) rfl ho_8 rfl) ?_
   rintro _ h_7 ⟨rfl, hS, hk⟩
   replace hK := hK.trans hk
   replace hF_cf_del := hF_cf_del.kp hk
   refine HO.nil (thenQ_normal (?_))
   refine HW.seq ?_
   refine HW.region ?_
   refine oM (vs) rfl rfl ?_
   refine oM (.int .i64 i_1) rfl rfl ?_
   obtain ⟨ho_9, hM⟩ := hM
   refine oV (cutV 17 vs (0 : Int).toNat (i_1).toNat) (q_slH ts_29 (hS.own 0 rfl).slice rfl rfl ho_9) rfl ?_
   refine oA (cutV 17 vs (0 : Int).toNat (i_1).toNat) rfl rfl ?_
   refine HO.nil (thenQ_normal (?_))
   refine HW.ret (?_)
   refine ⟨.inr rfl, cutV 17 vs (0 : Int).toNat (i_1).toNat, res1 rfl (rt rfl), ?_⟩
   replace hS := hS.shrink 0 rfl i_1 ho_9.1 ho_9.2
   exact ⟨F_3, cut (clr l_1 i_1 (l_1.length : Int)) 0 i_1, cutV 17 vs (0 : Int).toNat (i_1).toNat, rfl, hK, hS, hF_cf_del, hM⟩
def srcs_Of_1_W (a : T_api_Addr) (Q : Bool → Prop) : Prop :=
 addr_Good_W a (fun r_2 => Q (!r_2))
theorem srcs_Of_1_walk {F : Fz} {fr : List Ow} {h0 : Heap} (a : T_api_Addr) (hS : St F (fr) h0)  {Q : Bool → Prop} (hM : srcs_Of_1_W a Q) :
  HC Tryz.prog 163 #[.agg (e_api_Addr a).toArray] h0 fun u h' => ∃ (F' : Fz) (r_1 : Bool), u = .bool r_1 ∧ Kp F h0 F' h' ∧ St F' (fr) h' ∧ Q r_1 := by
 unfold srcs_Of_1_W at hM
 have hK := Kp.refl F h0
 refine HC.of_HW (n := 6) Tryz.func163 rfl rfl (Nat.le_of_ble_eq_true rfl) ?_
 refine HW.seq ?_
 refine HW.region ?_
 refine HO.eff (want_none) rfl (st_box (c := (e_api_Addr a).toArray) (k' := 17) hS rfl rfl) ?_
 rintro _ h_1 ⟨b_1, rfl, hS, hk⟩
 replace hK := hK.trans hk
 refine oA (.bool false) rfl rfl ?_
 refine HO.nil (thenQ_normal (?_))
 refine HW.seq ?_
 refine HW.region ?_
 refine oV (.agg (e_api_Addr a).toArray) (q_loadAgg (cs := (e_api_Addr a)) ta_28 rfl rfl (Blk.cells (k := 17) (hS.box 0 rfl) rfl)) rfl ?_
 refine HO.call (want_none) rfl (ec en_48 rfl rfl) (addr_Good_walk (fr := (Ow.box b_1 28 (e_api_Addr a).toArray :: fr)) a hS hM) ?_
 rintro _ h_2 ⟨F_1, r_2, rfl, hk, hS, hM⟩
 replace hK := hK.trans hk
 refine oV (.bool (!r_2)) (q_not rfl) rfl ?_
 refine oA (.bool (!r_2)) rfl rfl ?_
 refine HO.nil (thenQ_normal (?_))
 refine HW.ret (?_)
 refine ⟨.inr rfl, .bool (!r_2), res1 rfl (rt rfl), ?_⟩
 replace hS : St F_1 (fr) h_2 := hS.perm2 [] 1 rfl rfl
 exact ⟨F_1, !r_2, rfl, hK, hS, hM⟩
def slices_Compact_s_api_Addr_api_Addr_l3 (s1 : List T_api_Addr) (Q : (List T_api_Addr) → Prop) (k_1 : Int) (K_2 : (List T_api_Addr) → Int → Int → Prop) (l_2 : List T_api_Addr) (k_2 : Int) (k2_1 : Int) : Prop :=
 ((0 : Int) ≤ k_1 ∧ k_1 ≤ (s1.length : Int) ∧ (s1.length : Int) ≤ (l_2.length : Int)) ∧ ((k2_1 < ((cut l_2 k_1 (s1.length : Int)).length : Int) → ((0 : Int) ≤ k2_1 ∧ k2_1 < ((cut l_2 k_1 (s1.length : Int)).length : Int)) ∧ ((I64 (k2_1 - 1)) ∧ (((0 : Int) ≤ k2_1 - 1 ∧ k2_1 - 1 < ((cut l_2 k_1 (s1.length : Int)).length : Int)) ∧ ((¬ ((((gi (cut l_2 k_1 (s1.length : Int)) k2_1).1, ((gi (cut l_2 k_1 (s1.length : Int)) k2_1).2)) : T_api_Addr) = ((gi (cut l_2 k_1 (s1.length : Int)) (k2_1 - 1)).1, ((gi (cut l_2 k_1 (s1.length : Int)) (k2_1 - 1)).2))) → ((0 : Int) ≤ k_2 ∧ k_2 < (l_2.length : Int)) ∧ ((I64 (k_2 + 1)) ∧ ((I64 (k2_1 + 1)) ∧ (K_2 (l_2.set (k_2).toNat ((gi (cut l_2 k_1 (s1.length : Int)) k2_1).1, ((gi (cut l_2 k_1 (s1.length : Int)) k2_1).2))) (k_2 + 1) (k2_1 + 1))))) ∧ ((((gi (cut l_2 k_1 (s1.length : Int)) k2_1).1, ((gi (cut l_2 k_1 (s1.length : Int)) k2_1).2)) : T_api_Addr) = ((gi (cut l_2 k_1 (s1.length : Int)) (k2_1 - 1)).1, ((gi (cut l_2 k_1 (s1.length : Int)) (k2_1 - 1)).2)) → (I64 (k2_1 + 1)) ∧ (K_2 l_2 k_2 (k2_1 + 1))))))) ∧ (¬ (k2_1 < ((cut l_2 k_1 (s1.length : Int)).length : Int)) → ((0 : Int) ≤ k_2 ∧ k_2 ≤ (l_2.length : Int)) ∧ (((0 : Int) ≤ k_2 ∧ k_2 ≤ (l_2.length : Int) ∧ (l_2.length : Int) ≤ (l_2.length : Int)) ∧ (((0 : Int) ≤ k_2 ∧ k_2 ≤ ((clr l_2 k_2 (l_2.length : Int)).length : Int)) ∧ (Q (cut (clr l_2 k_2 (l_2.length : Int)) 0 k_2))))))
def slices_Compact_s_api_Addr_api_Addr_l1 (s1 : List T_api_Addr) (Q : (List T_api_Addr) → Prop) (K_1 : Int → Prop) (k_1 : Int) : Prop :=
 (k_1 < (s1.length : Int) → ((0 : Int) ≤ k_1 ∧ k_1 < (s1.length : Int)) ∧ ((I64 (k_1 - 1)) ∧ (((0 : Int) ≤ k_1 - 1 ∧ k_1 - 1 < (s1.length : Int)) ∧ ((((gi s1 k_1) : T_api_Addr) = (gi s1 (k_1 - 1)) → ((0 : Int) ≤ k_1 ∧ k_1 ≤ (s1.length : Int)) ∧ (loopW (fun (K_2 : (List T_api_Addr × Int × Int) → Prop) (s : List T_api_Addr × Int × Int) => slices_Compact_s_api_Addr_api_Addr_l3 s1 Q k_1 (fun l_2 k_2 k2_1 => K_2 (l_2, k_2, k2_1)) s.1 s.2.1 s.2.2) (s1, k_1, 1))) ∧ (¬ (((gi s1 k_1) : T_api_Addr) = (gi s1 (k_1 - 1))) → (I64 (k_1 + 1)) ∧ (K_1 (k_1 + 1))))))) ∧ (¬ (k_1 < (s1.length : Int)) → Q s1)
def slices_Compact_s_api_Addr_api_Addr_W (s1 : List T_api_Addr) (Q : (List T_api_Addr) → Prop) : Prop :=
 ((s1.length : Int) < 2 → Q s1) ∧ (¬ ((s1.length : Int) < 2) → loopW (fun (K_1 : Int → Prop) (s : Int) => slices_Compact_s_api_Addr_api_Addr_l1 s1 Q K_1 s) 1)
theorem slices_Compact_s_api_Addr_api_Addr_walk {F : Fz} {fr : List Ow} {h0 : Heap} (s1 : List T_api_Addr) (vs : Value) (hS : St F (Ow.own 28 17 e_api_Addr vs s1 :: fr) h0)  {Q : (List T_api_Addr) → Prop} (hM : slices_Compact_s_api_Addr_api_Addr_W s1 Q) :
  HC Tryz.prog 164 #[vs] h0 fun u h' => ∃ (F' : Fz) (r_1 : List T_api_Addr) (vr_1 : Value), u = vr_1 ∧ Kp F h0 F' h' ∧ St F' (Ow.own 28 17 e_api_Addr vr_1 r_1 :: fr) h' ∧ Q r_1 := by
 unfold slices_Compact_s_api_Addr_api_Addr_W at hM
 have hK := Kp.refl F h0
 refine HC.of_HW (n := 61) Tryz.func164 rfl rfl (Nat.le_of_ble_eq_true rfl) ?_
 refine HW.seq ?_
 refine HW.region ?_
 refine oA (.slice none 0 0) rfl rfl ?_
 refine HO.nil (thenQ_normal (?_))
 refine HW.seq ?_
 refine HW.seq ?_
 refine HW.region ?_
 refine oM (vs) rfl rfl ?_
 refine oV (.int .i64 (s1.length : Int)) (q_len ts_29 (shp (hS.own 0 rfl).slice) rfl rfl) rfl ?_
 refine oV (.bool (decide ((s1.length : Int) < 2))) (q_lss rfl rfl) rfl ?_
 refine HO.nil (thenQ_normal (?_))
 refine HW.cond (decide ((s1.length : Int) < 2)) rfl (fun c_1 => ?_) (fun c_1 => ?_)
 ·
  replace hM := hM.1 (of_decide_eq_true c_1)
  refine HW.seq ?_
  refine HW.region ?_
  refine oM (vs) rfl rfl ?_
  refine oA (vs) rfl rfl ?_
  refine HO.nil (thenQ_normal (?_))
  refine HW.ret (thenQ_ret (?_))
  refine ⟨.inr rfl, vs, res1 rfl (rt rfl), ?_⟩
  exact ⟨F, s1, vs, rfl, hK, hS, hM⟩
 ·
  replace hM := hM.2 (of_decide_eq_false c_1)
  refine HW.skip (thenQ_normal (?_))
  refine HW.seq ?_
  refine HW.seq ?_
  refine HW.region ?_
  refine oA (.int .i64 1) rfl rfl ?_
  refine HO.nil (thenQ_normal (?_))
  refine HW.block ?_
  obtain ⟨I_1, m_1, hI_1, hR_1⟩ := hM
  refine HW.loop (S := Int) (fun k_1 f h => ∃ (F' : Fz), f 0 = vs ∧ f 2 = .slice none 0 0 ∧ f 3 = .int .i64 k_1 ∧ Kp F h0 F' h ∧ St F' (Ow.own 28 17 e_api_Addr vs s1 :: fr) h ∧ I_1 k_1) m_1 1 ⟨F, rfl, rfl, rfl, hK, hS, hI_1⟩ ?_
  rintro k_1 f_1 h_1 ⟨F_1, e0, e2, e3, hK, hS, hI0⟩
  obtain ⟨K_1, hKe_1⟩ : ∃ K : Int → Prop, K = fun k_1' => I_1 k_1' ∧ m_1 k_1' < m_1 k_1 := ⟨_, rfl⟩
  have hM : slices_Compact_s_api_Addr_api_Addr_l1 s1 Q K_1 k_1 := by rw [hKe_1]; exact hR_1 k_1 hI0
  unfold slices_Compact_s_api_Addr_api_Addr_l1 at hM
  refine HW.fr [(0, vs), (2, .slice none 0 0), (3, .int .i64 k_1)] ⟨e0, e2, e3, trivial⟩ ?_
  refine HW.seq ?_
  refine HW.seq ?_
  refine HW.region ?_
  refine oM (.int .i64 k_1) rfl rfl ?_
  refine oM (vs) rfl rfl ?_
  refine oV (.int .i64 (s1.length : Int)) (q_len ts_29 (shp (hS.own 0 rfl).slice) rfl rfl) rfl ?_
  refine oV (.bool (decide (k_1 < (s1.length : Int)))) (q_lss rfl rfl) rfl ?_
  refine HO.nil (thenQ_normal (?_))
  refine HW.cond (decide (k_1 < (s1.length : Int))) rfl (fun c_2 => ?_) (fun c_2 => ?_)
  ·
   replace hM := hM.1 (of_decide_eq_true c_2)
   refine HW.skip (thenQ_normal (?_))
   refine HW.seq ?_
   refine HW.block ?_
   refine HW.seq ?_
   refine HW.regionA 10 mixed (fun h => (OwnIs h 0 28 17 e_api_Addr vs s1)) [] (by kernel_rfl) ?_
   refine HA.val (k := 0) (v := vs) rfl rfl (by kernel_rfl) (by kernel_rfl) (want_none) rfl (fun _ c303 => q_move rfl) ?_
   refine HA.val (k := 1) (v := .int .i64 k_1) rfl rfl (by kernel_rfl) (by kernel_rfl) (want_none) rfl (fun _ c303 => q_move rfl) ?_
   obtain ⟨ho_1, hM⟩ := hM
   refine HA.val (k := 2) (v := elemPtr 17 vs (k_1).toNat) rfl rfl (by kernel_rfl) (by kernel_rfl) (want_none) rfl (fun _ c303 => q_idx ts_29 c303.slice rfl rfl ho_1) ?_
   refine HA.val (k := 3) (v := .agg (e_api_Addr (gi s1 k_1)).toArray) rfl rfl (by kernel_rfl) (by kernel_rfl) (want_none) rfl (fun _ c303 => q_ldElemAgg (cs := (e_api_Addr (gi s1 k_1))) ta_28 c303.slice rfl ho_1 rfl) ?_
   refine HA.val (k := 4) (v := vs) rfl rfl (by kernel_rfl) (by kernel_rfl) (want_none) rfl (fun _ c303 => q_move rfl) ?_
   refine HA.val (k := 5) (v := .int .i64 k_1) rfl rfl (by kernel_rfl) (by kernel_rfl) (want_none) rfl (fun _ c303 => q_move rfl) ?_
   obtain ⟨ho_2, hM⟩ := hM
   refine HA.val (k := 6) (v := .int .i64 (k_1 - 1)) rfl rfl (by kernel_rfl) (by kernel_rfl) (want_none) rfl (fun _ c303 => q_subN _ rfl rfl rfl ho_2.1 ho_2.2) ?_
   obtain ⟨ho_3, hM⟩ := hM
   refine HA.val (k := 7) (v := elemPtr 17 vs (k_1 - 1).toNat) rfl rfl (by kernel_rfl) (by kernel_rfl) (want_none) rfl (fun _ c303 => q_idx ts_29 c303.slice rfl rfl ho_3) ?_
   refine HA.val (k := 8) (v := .agg (e_api_Addr (gi s1 (k_1 - 1))).toArray) rfl rfl (by kernel_rfl) (by kernel_rfl) (want_none) rfl (fun _ c303 => q_ldElemAgg (cs := (e_api_Addr (gi s1 (k_1 - 1)))) ta_28 c303.slice rfl ho_3 rfl) ?_
   refine HA.val (k := 9) (v := .bool (decide (((gi s1 k_1) : T_api_Addr) = (gi s1 (k_1 - 1))))) rfl rfl (by kernel_rfl) (by kernel_rfl) (want_none) rfl (fun _ c303 => q_eqlAgg (a := (gi s1 k_1)) (b := (gi s1 (k_1 - 1))) (fun a b w => teq_28 9997 a b w) (by kernel_rfl) rfl rfl rfl rfl) ?_
   refine HA.nil ⟨(hS.own 0 rfl), (Go.Wk.at_nil _ _)⟩ (by kernel_rfl) (thenQ_normal (?_))
   refine HW.cond (decide (((gi s1 k_1) : T_api_Addr) = (gi s1 (k_1 - 1)))) rfl (fun c_3 => ?_) (fun c_3 => ?_)
   ·
    replace hM := hM.1 (of_decide_eq_true c_3)
    refine HW.seq ?_
    refine HW.region ?_
    refine oM (vs) rfl rfl ?_
    refine oM (.int .i64 k_1) rfl rfl ?_
    obtain ⟨ho_4, hM⟩ := hM
    refine oV (cutV 17 vs (k_1).toNat ((s1.length : Int)).toNat) (q_slL ts_29 (hS.own 0 rfl).slice rfl rfl ho_4) rfl ?_
    refine oA (cutV 17 vs (k_1).toNat ((s1.length : Int)).toNat) rfl rfl ?_
    refine HO.nil (thenQ_normal (?_))
    refine HW.seq ?_
    refine HW.seq ?_
    refine HW.region ?_
    refine oA (.int .i64 1) rfl rfl ?_
    refine HO.nil (thenQ_normal (?_))
    refine HW.block ?_
    obtain ⟨I_2, m_2, hI_2, hR_2⟩ := hM
    refine HW.loop (S := List T_api_Addr × Int × Int) (fun s f h => match s with | (l_2, k_2, k2_1) => ∃ (F' : Fz), f 0 = vs ∧ f 2 = .slice none 0 0 ∧ f 3 = .int .i64 k_2 ∧ f 4 = cutV 17 vs (k_1).toNat ((s1.length : Int)).toNat ∧ f 5 = .int .i64 k2_1 ∧ Kp F h0 F' h ∧ St F' (Ow.own 28 17 e_api_Addr vs l_2 :: fr) h ∧ I_2 (l_2, k_2, k2_1)) m_2 (s1, k_1, 1) ⟨F_1, rfl, rfl, rfl, rfl, rfl, hK, hS, hI_2⟩ ?_
    rintro ⟨l_2, k_2, k2_1⟩ f_2 h_2 ⟨F_2, e0, e2, e3, e4, e5, hK, hS, hI0⟩
    obtain ⟨K_2, hKe_2⟩ : ∃ K : (List T_api_Addr) → Int → Int → Prop, K = fun l_2' k_2' k2_1' => I_2 (l_2', k_2', k2_1') ∧ m_2 (l_2', k_2', k2_1') < m_2 (l_2, k_2, k2_1) := ⟨_, rfl⟩
    have hM : slices_Compact_s_api_Addr_api_Addr_l3 s1 Q k_1 K_2 l_2 k_2 k2_1 := by rw [hKe_2]; exact hR_2 (l_2, k_2, k2_1) hI0
    unfold slices_Compact_s_api_Addr_api_Addr_l3 at hM
    refine HW.fr [(0, vs), (2, .slice none 0 0), (3, .int .i64 k_2), (4, cutV 17 vs (k_1).toNat ((s1.length : Int)).toNat), (5, .int .i64 k2_1)] ⟨e0, e2, e3, e4, e5, trivial⟩ ?_
    refine HW.seq ?_
    refine HW.seq ?_
    refine HW.region ?_
    refine oM (.int .i64 k2_1) rfl rfl ?_
    refine oM (cutV 17 vs (k_1).toNat ((s1.length : Int)).toNat) rfl rfl ?_
    obtain ⟨ho_5, hM⟩ := hM
    refine oV (.int .i64 ((cut l_2 k_1 (s1.length : Int)).length : Int)) (q_len ts_29 (shp (cutIs (hS.own 0 rfl).slice k_1 (s1.length : Int) ho_5.1 ho_5.2.1 ho_5.2.2)) rfl rfl) rfl ?_
    refine oV (.bool (decide (k2_1 < ((cut l_2 k_1 (s1.length : Int)).length : Int)))) (q_lss rfl rfl) rfl ?_
    refine HO.nil (thenQ_normal (?_))
    refine HW.cond (decide (k2_1 < ((cut l_2 k_1 (s1.length : Int)).length : Int))) rfl (fun c_4 => ?_) (fun c_4 => ?_)
    ·
     replace hM := hM.1 (of_decide_eq_true c_4)
     refine HW.skip (thenQ_normal (?_))
     refine HW.seq ?_
     refine HW.block ?_
     refine HW.seq ?_
     refine HW.regionA 10 mixed (fun h => (OwnIs h 0 28 17 e_api_Addr vs l_2)) [] (by kernel_rfl) ?_
     refine HA.val (k := 0) (v := cutV 17 vs (k_1).toNat ((s1.length : Int)).toNat) rfl rfl (by kernel_rfl) (by kernel_rfl) (want_none) rfl (fun _ c520 => q_move rfl) ?_
     refine HA.val (k := 1) (v := .int .i64 k2_1) rfl rfl (by kernel_rfl) (by kernel_rfl) (want_none) rfl (fun _ c520 => q_move rfl) ?_
     obtain ⟨ho_6, hM⟩ := hM
     refine HA.val (k := 2) (v := elemPtr 17 (cutV 17 vs (k_1).toNat ((s1.length : Int)).toNat) (k2_1).toNat) rfl rfl (by kernel_rfl) (by kernel_rfl) (want_none) rfl (fun _ c520 => q_idx ts_29 (cutIs c520.slice k_1 (s1.length : Int) ho_5.1 ho_5.2.1 ho_5.2.2) rfl rfl ho_6) ?_
     refine HA.val (k := 3) (v := .agg (e_api_Addr ((gi (cut l_2 k_1 (s1.length : Int)) k2_1).1, ((gi (cut l_2 k_1 (s1.length : Int)) k2_1).2))).toArray) rfl rfl (by kernel_rfl) (by kernel_rfl) (want_none) rfl (fun _ c520 => q_ldElemAgg (cs := (e_api_Addr ((gi (cut l_2 k_1 (s1.length : Int)) k2_1).1, ((gi (cut l_2 k_1 (s1.length : Int)) k2_1).2)))) ta_28 (cutIs c520.slice k_1 (s1.length : Int) ho_5.1 ho_5.2.1 ho_5.2.2) rfl ho_6 rfl) ?_
     refine HA.val (k := 4) (v := cutV 17 vs (k_1).toNat ((s1.length : Int)).toNat) rfl rfl (by kernel_rfl) (by kernel_rfl) (want_none) rfl (fun _ c520 => q_move rfl) ?_
     refine HA.val (k := 5) (v := .int .i64 k2_1) rfl rfl (by kernel_rfl) (by kernel_rfl) (want_none) rfl (fun _ c520 => q_move rfl) ?_
     obtain ⟨ho_7, hM⟩ := hM
     refine HA.val (k := 6) (v := .int .i64 (k2_1 - 1)) rfl rfl (by kernel_rfl) (by kernel_rfl) (want_none) rfl (fun _ c520 => q_subN _ rfl rfl rfl ho_7.1 ho_7.2) ?_
     obtain ⟨ho_8, hM⟩ := hM
     refine HA.val (k := 7) (v := elemPtr 17 (cutV 17 vs (k_1).toNat ((s1.length : Int)).toNat) (k2_1 - 1).toNat) rfl rfl (by kernel_rfl) (by kernel_rfl) (want_none) rfl (fun _ c520 => q_idx ts_29 (cutIs c520.slice k_1 (s1.length : Int) ho_5.1 ho_5.2.1 ho_5.2.2) rfl rfl ho_8) ?_
     refine HA.val (k := 8) (v := .agg (e_api_Addr ((gi (cut l_2 k_1 (s1.length : Int)) (k2_1 - 1)).1, ((gi (cut l_2 k_1 (s1.length : Int)) (k2_1 - 1)).2))).toArray) rfl rfl (by kernel_rfl) (by kernel_rfl) (want_none) rfl (fun _ c520 => q_ldElemAgg (cs := (e_api_Addr ((gi (cut l_2 k_1 (s1.length : Int)) (k2_1 - 1)).1, ((gi (cut l_2 k_1 (s1.length : Int)) (k2_1 - 1)).2)))) ta_28 (cutIs c520.slice k_1 (s1.length : Int) ho_5.1 ho_5.2.1 ho_5.2.2) rfl ho_8 rfl) ?_
     refine HA.val (k := 9) (v := .bool (!decide ((((gi (cut l_2 k_1 (s1.length : Int)) k2_1).1, ((gi (cut l_2 k_1 (s1.length : Int)) k2_1).2)) : T_api_Addr) = ((gi (cut l_2 k_1 (s1.length : Int)) (k2_1 - 1)).1, ((gi (cut l_2 k_1 (s1.length : Int)) (k2_1 - 1)).2))))) rfl rfl (by kernel_rfl) (by kernel_rfl) (want_none) rfl (fun _ c520 => q_neqAgg (a := ((gi (cut l_2 k_1 (s1.length : Int)) k2_1).1, ((gi (cut l_2 k_1 (s1.length : Int)) k2_1).2))) (b := ((gi (cut l_2 k_1 (s1.length : Int)) (k2_1 - 1)).1, ((gi (cut l_2 k_1 (s1.length : Int)) (k2_1 - 1)).2))) (fun a b w => teq_28 9997 a b w) (by kernel_rfl) rfl rfl rfl rfl) ?_
     refine HA.nil ⟨(hS.own 0 rfl), (Go.Wk.at_nil _ _)⟩ (by kernel_rfl) (thenQ_normal (?_))
     refine HW.cond (!decide ((((gi (cut l_2 k_1 (s1.length : Int)) k2_1).1, ((gi (cut l_2 k_1 (s1.length : Int)) k2_1).2)) : T_api_Addr) = ((gi (cut l_2 k_1 (s1.length : Int)) (k2_1 - 1)).1, ((gi (cut l_2 k_1 (s1.length : Int)) (k2_1 - 1)).2)))) rfl (fun c_5 => ?_) (fun c_5 => ?_)
     ·
      replace hM := hM.1 (nd_true c_5)
      refine HW.seq ?_
      refine HW.region ?_
      refine oM (vs) rfl rfl ?_
      refine oM (.int .i64 k_2) rfl rfl ?_
      refine oM (cutV 17 vs (k_1).toNat ((s1.length : Int)).toNat) rfl rfl ?_
      refine oM (.int .i64 k2_1) rfl rfl ?_
      refine oV (elemPtr 17 (cutV 17 vs (k_1).toNat ((s1.length : Int)).toNat) (k2_1).toNat) (q_idx ts_29 (cutIs (hS.own 0 rfl).slice k_1 (s1.length : Int) ho_5.1 ho_5.2.1 ho_5.2.2) rfl rfl ho_6) rfl ?_
      refine oV (.agg (e_api_Addr ((gi (cut l_2 k_1 (s1.length : Int)) k2_1).1, ((gi (cut l_2 k_1 (s1.length : Int)) k2_1).2))).toArray) (q_ldElemAgg (cs := (e_api_Addr ((gi (cut l_2 k_1 (s1.length : Int)) k2_1).1, ((gi (cut l_2 k_1 (s1.length : Int)) k2_1).2)))) ta_28 (cutIs (hS.own 0 rfl).slice k_1 (s1.length : Int) ho_5.1 ho_5.2.1 ho_5.2.2) rfl ho_6 rfl) rfl ?_
      obtain ⟨ho_9, hM⟩ := hM
      refine oV (elemPtr 17 vs (k_2).toNat) (q_idx ts_29 (hS.own 0 rfl).slice rfl rfl ho_9) rfl ?_
      refine HO.sto (want_none) rfl (st_storeElem (a := ((gi (cut l_2 k_1 (s1.length : Int)) k2_1).1, ((gi (cut l_2 k_1 (s1.length : Int)) k2_1).2))) (t := k_2) hS (i := 0) rfl ta_28 rfl ho_9 rfl rfl rfl (one_e_api_Addr _)) ?_
      rintro h_3 ⟨hS, hk⟩
      replace hK := hK.trans hk
      refine HO.nil (thenQ_normal (?_))
      refine HW.region ?_
      refine oM (.int .i64 k_2) rfl rfl ?_
      obtain ⟨ho_10, hM⟩ := hM
      refine oV (.int .i64 (k_2 + 1)) (q_addN _ rfl rfl rfl ho_10.1 ho_10.2) rfl ?_
      refine oA (.int .i64 (k_2 + 1)) rfl rfl ?_
      refine HO.nil (blockQ_normal (thenQ_normal (?_)))
      refine HW.region ?_
      refine oM (.int .i64 k2_1) rfl rfl ?_
      obtain ⟨ho_11, hM⟩ := hM
      refine oV (.int .i64 (k2_1 + 1)) (q_addN _ rfl rfl rfl ho_11.1 ho_11.2) rfl ?_
      refine oA (.int .i64 (k2_1 + 1)) rfl rfl ?_
      refine HO.nil (thenQ_normal (?_))
      rw [hKe_2] at hM
      exact ⟨(l_2.set (k_2).toNat ((gi (cut l_2 k_1 (s1.length : Int)) k2_1).1, ((gi (cut l_2 k_1 (s1.length : Int)) k2_1).2)), k_2 + 1, k2_1 + 1), ⟨F_2, rfl, rfl, rfl, rfl, rfl, hK, hS, hM.1⟩, hM.2⟩
     ·
      replace hM := hM.2 (nd_false c_5)
      refine HW.skip (blockQ_normal (thenQ_normal (?_)))
      refine HW.region ?_
      refine oM (.int .i64 k2_1) rfl rfl ?_
      obtain ⟨ho_12, hM⟩ := hM
      refine oV (.int .i64 (k2_1 + 1)) (q_addN _ rfl rfl rfl ho_12.1 ho_12.2) rfl ?_
      refine oA (.int .i64 (k2_1 + 1)) rfl rfl ?_
      refine HO.nil (thenQ_normal (?_))
      rw [hKe_2] at hM
      exact ⟨(l_2, k_2, k2_1 + 1), ⟨F_2, rfl, rfl, rfl, rfl, rfl, hK, hS, hM.1⟩, hM.2⟩
    ·
     replace hM := hM.2 (of_decide_eq_false c_4)
     refine HW.exit (thenQ_exit (thenQ_exit (blockQ_exit (thenQ_normal (?_)))))
     refine HW.seq ?_
     refine HW.region ?_
     refine oM (vs) rfl rfl ?_
     refine oM (.int .i64 k_2) rfl rfl ?_
     obtain ⟨ho_13, hM⟩ := hM
     refine oV (cutV 17 vs (k_2).toNat ((l_2.length : Int)).toNat) (q_slL ts_29 (hS.own 0 rfl).slice rfl rfl ho_13) rfl ?_
     obtain ⟨ho_14, hM⟩ := hM
     refine HO.eff (want_none) rfl (st_clearS (lo := k_2) (hi := (l_2.length : Int)) (z := .agg #[.bool false, .int .u8 0, .int .u8 0, .int .u8 0, .int .u8 0, .int .u8 0, .int .u8 0, .int .u8 0, .int .u8 0, .int .u8 0, .int .u8 0, .int .u8 0, .int .u8 0, .int .u8 0, .int .u8 0, .int .u8 0, .int .u8 0]) hS (i := 0) rfl te_29 tz_28 rfl (by intro u hu; simp [e_api_Addr, encI, encN, encB, encT, default] at hu; rcases hu with rfl | rfl | rfl | rfl | rfl | rfl | rfl | rfl | rfl | rfl | rfl | rfl | rfl | rfl | rfl | rfl | rfl <;> rfl) rfl ho_14 rfl) ?_
     rintro _ h_4 ⟨rfl, hS, hk⟩
     replace hK := hK.trans hk
     refine HO.nil (thenQ_normal (?_))
     refine HW.seq ?_
     refine HW.region ?_
     refine oM (vs) rfl rfl ?_
     refine oM (.int .i64 k_2) rfl rfl ?_
     obtain ⟨ho_15, hM⟩ := hM
     refine oV (cutV 17 vs (0 : Int).toNat (k_2).toNat) (q_slH ts_29 (hS.own 0 rfl).slice rfl rfl ho_15) rfl ?_
     refine oA (cutV 17 vs (0 : Int).toNat (k_2).toNat) rfl rfl ?_
     refine HO.nil (thenQ_normal (?_))
     refine HW.ret (blockQ_ret (thenQ_ret (thenQ_ret (blockQ_ret (thenQ_ret (?_))))))
     refine ⟨.inr rfl, cutV 17 vs (0 : Int).toNat (k_2).toNat, res1 rfl (rt rfl), ?_⟩
     replace hS := hS.shrink 0 rfl k_2 ho_15.1 ho_15.2
     exact ⟨F_2, cut (clr l_2 k_2 (l_2.length : Int)) 0 k_2, cutV 17 vs (0 : Int).toNat (k_2).toNat, rfl, hK, hS, hM⟩
   ·
    replace hM := hM.2 (of_decide_eq_false c_3)
    refine HW.skip (blockQ_normal (thenQ_normal (?_)))
    refine HW.region ?_
    refine oM (.int .i64 k_1) rfl rfl ?_
    obtain ⟨ho_16, hM⟩ := hM
    refine oV (.int .i64 (k_1 + 1)) (q_addN _ rfl rfl rfl ho_16.1 ho_16.2) rfl ?_
    refine oA (.int .i64 (k_1 + 1)) rfl rfl ?_
    refine HO.nil (thenQ_normal (?_))
    rw [hKe_1] at hM
    exact ⟨k_1 + 1, ⟨F_1, rfl, rfl, rfl, hK, hS, hM.1⟩, hM.2⟩
  ·
   replace hM := hM.2 (of_decide_eq_false c_2)
   refine HW.exit (thenQ_exit (thenQ_exit (blockQ_exit (thenQ_normal (?_)))))
   refine HW.seq ?_
   refine HW.region ?_
   refine oM (vs) rfl rfl ?_
   refine oA (vs) rfl rfl ?_
   refine HO.nil (thenQ_normal (?_))
   refine HW.ret (?_)
   refine ⟨.inr rfl, vs, res1 rfl (rt rfl), ?_⟩
   exact ⟨F_1, s1, vs, rfl, hK, hS, hM⟩
def srcs_Of_W (l : List T_api_Addr) (Q : (List T_api_Addr) → Prop) : Prop :=
 slices_Clone_s_api_Addr_api_Addr_W l (fun r_2 => ∃ cf_1 : T_api_Addr → Bool, (∀ x0, srcs_Of_1_W x0 (fun r => r = cf_1 x0)) ∧ (slices_DeleteFunc_s_api_Addr_api_Addr_W r_2 cf_1 (fun r_3 => ∃ cf_2 : T_api_Addr → T_api_Addr → Int, Swo cf_2 ∧ (∀ x y, addr_Cmp_W x y (fun r => r = cf_2 x y)) ∧ (r_3).length < 4611686018427387904 ∧ ∀ l_1 : List T_api_Addr, List.Perm l_1 r_3 → List.Pairwise (fun x y => ¬ cf_2 y x < 0) l_1 → (slices_Compact_s_api_Addr_api_Addr_W l_1 (fun r_4 => Q r_4)))))
theorem srcs_Of_walk {F : Fz} {fr : List Ow} {h0 : Heap} (l : List T_api_Addr) (vl : Value) (hS : St F (fr) h0) (hL_l : SliceF F h0 17 e_api_Addr vl l) {Q : (List T_api_Addr) → Prop} (hM : srcs_Of_W l Q) :
  HC Tryz.prog 147 #[vl] h0 fun u h' => ∃ (F' : Fz) (r_1 : List T_api_Addr) (vr_1 : Value), u = vr_1 ∧ Kp F h0 F' h' ∧ St F' (Ow.own 28 17 e_api_Addr vr_1 r_1 :: fr) h' ∧ (SliceF F' h' 17 e_api_Addr vl l) ∧ Q r_1 := by
 unfold srcs_Of_W at hM
 have hK := Kp.refl F h0
 refine HC.of_HW (n := 11) Tryz.func147 rfl rfl (Nat.le_of_ble_eq_true rfl) ?_
 refine HW.seq ?_
 refine HW.region ?_
 refine oA (.slice none 0 0) rfl rfl ?_
 refine HO.nil (thenQ_normal (?_))
 refine HW.seq ?_
 refine HW.region ?_
 refine oM (vl) rfl rfl ?_
 refine HO.call (want_none) rfl (ec en_100 rfl rfl) (slices_Clone_s_api_Addr_api_Addr_walk (fr := (fr)) l vl hS hL_l hM) ?_
 rintro vr_2 h_1 ⟨F_1, r_2, _, rfl, hk, hS, _, hM⟩
 replace hK := hK.trans hk
 replace hL_l := hL_l.kp hk
 obtain ⟨cf_1, hc_1, hM⟩ := hM
 have hF_1 : FnP Tryz.prog F_1 h_1 163 #[] #[] (fun x : T_api_Addr => [.agg (e_api_Addr x).toArray]) (fun x => .bool (cf_1 x)) := FnP.of en_163 (fun x h' hk_ => @HC.mono ⟨true⟩ _ _ _ _ _ _ (@srcs_Of_1_walk ⟨true⟩ (allF h') [] h' x  (St.init h')  (fun r => r = cf_1 x) (hc_1 x)) (fun u h'' ⟨F', r, hu, k_, _, hr⟩ => ⟨by rw [hu, hr], F', k_⟩))
 refine HO.call (want_none) rfl (ec en_162 rfl rfl) (slices_DeleteFunc_s_api_Addr_api_Addr_walk (fr := (fr)) r_2 cf_1 vr_2 163 (#[]) (#[]) hS hF_1 hM) ?_
 rintro vr_3 h_2 ⟨F_2, r_3, _, rfl, hk, hS, _, hM⟩
 replace hK := hK.trans hk
 replace hL_l := hL_l.kp hk
 refine oA (vr_3) rfl rfl ?_
 refine HO.nil (thenQ_normal (?_))
 refine HW.seq ?_
 refine HW.region ?_
 refine oM (vr_3) rfl rfl ?_
 obtain ⟨cf_2, ho_1, hc_2, hM⟩ := hM
 obtain ⟨ho_2, hM⟩ := hM
 refine HO.call (want_none) rfl (ec en_145 rfl rfl) (sortFunc_own Tryz.sortAddr (by decide) (fun w => by kernel_rfl) (fun w => by kernel_rfl) (enc := e_api_Addr) (fun _ => rfl) (by intro a u hu; simp [e_api_Addr, encI, encN, encB, encT] at hu; rcases hu with rfl | rfl | rfl | rfl | rfl | rfl | rfl | rfl | rfl | rfl | rfl | rfl | rfl | rfl | rfl | rfl | rfl <;> rfl) ho_1 hS (fnP2 (enc := e_api_Addr) en_106 (fun x y h' => @addr_Cmp_walk ⟨true⟩ (allF h') [] h' x y (St.init h') (fun r => r = cf_2 x y) (hc_2 x y))) ho_2) ?_
 rintro _ h_3 ⟨l_1, rfl, hk, hS, hp_1, hs_1⟩
 replace hM := hM l_1 hp_1 hs_1
 replace hK := hK.trans hk
 replace hL_l := hL_l.kp hk
 refine HO.nil (thenQ_normal (?_))
 refine HW.seq ?_
 refine HW.region ?_
 refine oM (vr_3) rfl rfl ?_
 refine HO.call (want_none) rfl (ec en_164 rfl rfl) (slices_Compact_s_api_Addr_api_Addr_walk (fr := (fr)) l_1 vr_3 hS hM) ?_
 rintro vr_4 h_4 ⟨F_3, r_4, _, rfl, hk, hS, hM⟩
 replace hK := hK.trans hk
 replace hL_l := hL_l.kp hk
 refine oA (vr_4) rfl rfl ?_
 refine HO.nil (thenQ_normal (?_))
 refine HW.ret (?_)
 refine ⟨.inr rfl, vr_4, res1 rfl (rt rfl), ?_⟩
 exact ⟨F_3, r_4, vr_4, rfl, hK, hS, hL_l, hM⟩
def srcs_And_W (a : List T_api_Addr) (b : List T_api_Addr) (Q : (List T_api_Addr) → Prop) : Prop :=
 ∃ cf_1 : T_api_Addr → T_api_Addr → Int, (∀ x0 x1, addr_Cmp_W x0 x1 (fun r => r = cf_1 x0 x1)) ∧ (srcs_walk_api_Addr_W a b cf_1 false true false (fun r_2 => Q r_2))
theorem srcs_And_walk {F : Fz} {fr : List Ow} {h0 : Heap} (a : List T_api_Addr) (b : List T_api_Addr) (va : Value) (vb : Value) (hS : St F (fr) h0) (hL_a : SliceF F h0 17 e_api_Addr va a) (hL_b : SliceF F h0 17 e_api_Addr vb b) {Q : (List T_api_Addr) → Prop} (hM : srcs_And_W a b Q) :
  HC Tryz.prog 148 #[va, vb] h0 fun u h' => ∃ (F' : Fz) (r_1 : List T_api_Addr) (vr_1 : Value), u = vr_1 ∧ Kp F h0 F' h' ∧ St F' (Ow.own 28 17 e_api_Addr vr_1 r_1 :: fr) h' ∧ (SliceF F' h' 17 e_api_Addr va a) ∧ (SliceF F' h' 17 e_api_Addr vb b) ∧ Q r_1 := by
 unfold srcs_And_W at hM
 have hK := Kp.refl F h0
 refine HC.of_HW (n := 8) Tryz.func148 rfl rfl (Nat.le_of_ble_eq_true rfl) ?_
 refine HW.seq ?_
 refine HW.region ?_
 refine oA (.slice none 0 0) rfl rfl ?_
 refine HO.nil (thenQ_normal (?_))
 refine HW.seq ?_
 refine HW.region ?_
 refine oM (va) rfl rfl ?_
 refine oM (vb) rfl rfl ?_
 obtain ⟨cf_1, hc_1, hM⟩ := hM
 have hF_1 : FnP Tryz.prog F h0 106 #[] #[] (fun x : T_api_Addr × T_api_Addr => [.agg (e_api_Addr x.1).toArray, .agg (e_api_Addr x.2).toArray]) (fun x => .int .i64 (cf_1 x.1 x.2)) := FnP.of en_106 (fun x h' hk_ => @HC.mono ⟨true⟩ _ _ _ _ _ _ (@addr_Cmp_walk ⟨true⟩ (allF h') [] h' x.1 x.2  (St.init h')  (fun r => r = cf_1 x.1 x.2) (hc_1 x.1 x.2)) (fun u h'' ⟨F', r, hu, k_, _, hr⟩ => ⟨by rw [hu, hr], F', k_⟩))
 refine HO.call (want_none) rfl (ec en_165 rfl rfl) (srcs_walk_api_Addr_walk (fr := (fr)) a b cf_1 false true false va vb 106 (#[]) (#[]) hS hL_a hL_b hF_1 hM) ?_
 rintro vr_2 h_1 ⟨F_1, r_2, _, rfl, hk, hS, _, _, _, hM⟩
 replace hK := hK.trans hk
 replace hL_a := hL_a.kp hk
 replace hL_b := hL_b.kp hk
 refine oA (vr_2) rfl rfl ?_
 refine HO.nil (thenQ_normal (?_))
 refine HW.ret (?_)
 refine ⟨.inr rfl, vr_2, res1 rfl (rt rfl), ?_⟩
 exact ⟨F_1, r_2, vr_2, rfl, hK, hS, hL_a, hL_b, hM⟩
def merge_Answer_W (f_Exclude : Bool) (f_Sources : List T_api_Addr) (l : List T_api_Addr) (Q : (List T_api_Addr) → Prop) : Prop :=
 srcs_Of_W l (fun r_2 => (f_Exclude = true → srcs_Minus_W r_2 f_Sources (fun r_3 => Q r_3)) ∧ (f_Exclude = false → srcs_And_W f_Sources r_2 (fun r_4 => Q r_4)))
theorem merge_Answer_walk {F : Fz} {fr : List Ow} {h0 : Heap} (f_Exclude : Bool) (f_Sources : List T_api_Addr) (l : List T_api_Addr) (vf_Sources : Value) (vl : Value) (hS : St F (fr) h0) (hL_f_Sources : SliceF F h0 17 e_api_Addr vf_Sources f_Sources) (hL_l : SliceF F h0 17 e_api_Addr vl l) {Q : (List T_api_Addr) → Prop} (hM : merge_Answer_W f_Exclude f_Sources l Q) :
  HC Tryz.prog 116 #[.agg #[.bool f_Exclude, vf_Sources], vl] h0 fun u h' => ∃ (F' : Fz) (r_1 : List T_api_Addr) (vr_1 : Value), u = vr_1 ∧ Kp F h0 F' h' ∧ St F' (Ow.own 28 17 e_api_Addr vr_1 r_1 :: fr) h' ∧ (SliceF F' h' 17 e_api_Addr vf_Sources f_Sources) ∧ (SliceF F' h' 17 e_api_Addr vl l) ∧ Q r_1 := by
 unfold merge_Answer_W at hM
 have hK := Kp.refl F h0
 refine HC.of_HW (n := 18) Tryz.func116 rfl rfl (Nat.le_of_ble_eq_true rfl) ?_
 refine HW.seq ?_
 refine HW.region ?_
 refine HO.eff (want_none) rfl (st_box (c := #[.bool f_Exclude, vf_Sources]) (k' := 2) hS rfl rfl) ?_
 rintro _ h_1 ⟨b_1, rfl, hS, hk⟩
 replace hK := hK.trans hk
 replace hL_f_Sources := hL_f_Sources.kp hk
 replace hL_l := hL_l.kp hk
 refine oA (.slice none 0 0) rfl rfl ?_
 refine HO.nil (thenQ_normal (?_))
 refine HW.seq ?_
 refine HW.region ?_
 refine oM (vl) rfl rfl ?_
 refine HO.call (want_none) rfl (ec en_147 rfl rfl) (srcs_Of_walk (fr := (Ow.box b_1 50 #[.bool f_Exclude, vf_Sources] :: fr)) l vl hS hL_l hM) ?_
 rintro vr_2 h_2 ⟨F_1, r_2, _, rfl, hk, hS, _, hM⟩
 replace hK := hK.trans hk
 replace hL_f_Sources := hL_f_Sources.kp hk
 replace hL_l := hL_l.kp hk
 refine oA (vr_2) rfl rfl ?_
 refine HO.nil (thenQ_normal (?_))
 refine HW.seq ?_
 refine HW.seq ?_
 refine HW.region ?_
 refine oV (.pointer (some ⟨b_1, 0, none⟩)) (q_fieldAddr fa_50_0 rfl rfl) rfl ?_
 refine oV (.bool f_Exclude) (q_load to_4 rfl (Blk.cell (hS.box 1 rfl) rfl)) rfl ?_
 refine HO.nil (thenQ_normal (?_))
 refine HW.cond f_Exclude rfl (fun c_1 => ?_) (fun c_1 => ?_)
 ·
  replace hM := hM.1 c_1
  refine HW.seq ?_
  refine HW.region ?_
  refine oM (vr_2) rfl rfl ?_
  refine oV (.pointer (some ⟨b_1, 1, none⟩)) (q_fieldAddr fa_50_1 rfl rfl) rfl ?_
  refine oV (vf_Sources) (q_load to_29 rfl (Blk.cell (hS.box 1 rfl) rfl)) rfl ?_
  replace hS : St F_1 (Ow.own 28 17 e_api_Addr vr_2 r_2 :: Ow.box b_1 50 #[.bool f_Exclude, vf_Sources] :: fr) h_2 := hS
  have hZ_1 := hS
  have hkz_1 := (hS.freeze).2
  replace hS := hS.freeze.1
  have hL_1 : SliceF (fun bz_ => F_1 bz_ ∨ (Ow.own 28 17 e_api_Addr vr_2 r_2).foot bz_) h_2 17 e_api_Addr vr_2 r_2 := ⟨(hZ_1.own 0 rfl).slice, fun _ b hb => .inr hb⟩
  refine HO.call (want_none) rfl (ec en_142 rfl rfl) (srcs_Minus_walk (fr := (Ow.box b_1 50 #[.bool f_Exclude, vf_Sources] :: fr)) r_2 f_Sources vr_2 vf_Sources hS hL_1 (hL_f_Sources.kp hkz_1) hM) ?_
  rintro vr_3 h_3 ⟨F_2, r_3, _, rfl, hk, hS, _, _, hM⟩
  obtain ⟨hS, hk⟩ := hZ_1.back hk hS
  generalize (fun bz_ => F_2 bz_ ∧ ¬ (Ow.own 28 17 e_api_Addr vr_2 r_2).foot bz_) = F_3 at hS hk
  replace hK := hK.trans hk
  replace hL_f_Sources := hL_f_Sources.kp hk
  replace hL_l := hL_l.kp hk
  refine oA (vr_3) rfl rfl ?_
  refine HO.nil (thenQ_normal (?_))
  refine HW.ret (thenQ_ret (?_))
  refine ⟨.inr rfl, vr_3, res1 rfl (rt rfl), ?_⟩
  replace hS : St F_3 (Ow.own 28 17 e_api_Addr vr_3 r_3 :: fr) h_3 := hS.perm2 [1] 3 rfl rfl
  exact ⟨F_3, r_3, vr_3, rfl, hK, hS, hL_f_Sources, hL_l, hM⟩
 ·
  replace hM := hM.2 c_1
  refine HW.skip (thenQ_normal (?_))
  refine HW.seq ?_
  refine HW.region ?_
  refine oV (.pointer (some ⟨b_1, 1, none⟩)) (q_fieldAddr fa_50_1 rfl rfl) rfl ?_
  refine oV (vf_Sources) (q_load to_29 rfl (Blk.cell (hS.box 1 rfl) rfl)) rfl ?_
  refine oM (vr_2) rfl rfl ?_
  replace hS : St F_1 (Ow.own 28 17 e_api_Addr vr_2 r_2 :: Ow.box b_1 50 #[.bool f_Exclude, vf_Sources] :: fr) h_2 := hS
  have hZ_2 := hS
  have hkz_2 := (hS.freeze).2
  replace hS := hS.freeze.1
  have hL_2 : SliceF (fun bz_ => F_1 bz_ ∨ (Ow.own 28 17 e_api_Addr vr_2 r_2).foot bz_) h_2 17 e_api_Addr vr_2 r_2 := ⟨(hZ_2.own 0 rfl).slice, fun _ b hb => .inr hb⟩
  refine HO.call (want_none) rfl (ec en_148 rfl rfl) (srcs_And_walk (fr := (Ow.box b_1 50 #[.bool f_Exclude, vf_Sources] :: fr)) f_Sources r_2 vf_Sources vr_2 hS (hL_f_Sources.kp hkz_2) hL_2 hM) ?_
  rintro vr_4 h_4 ⟨F_4, r_4, _, rfl, hk, hS, _, _, hM⟩
  obtain ⟨hS, hk⟩ := hZ_2.back hk hS
  generalize (fun bz_ => F_4 bz_ ∧ ¬ (Ow.own 28 17 e_api_Addr vr_2 r_2).foot bz_) = F_5 at hS hk
  replace hK := hK.trans hk
  replace hL_f_Sources := hL_f_Sources.kp hk
  replace hL_l := hL_l.kp hk
  refine oA (vr_4) rfl rfl ?_
  refine HO.nil (thenQ_normal (?_))
  refine HW.ret (?_)
  refine ⟨.inr rfl, vr_4, res1 rfl (rt rfl), ?_⟩
  replace hS : St F_5 (Ow.own 28 17 e_api_Addr vr_4 r_4 :: fr) h_4 := hS.perm2 [1] 3 rfl rfl
  exact ⟨F_5, r_4, vr_4, rfl, hK, hS, hL_f_Sources, hL_l, hM⟩
def host_answer_j1 (g : T_api_Addr) (f_Exclude : Bool) (f_Sources : List T_api_Addr) (q_Sources : List T_api_Addr) (Q : Int → Bool → (Ba 16) → (List T_api_Addr) → Bool → Prop) (b_5 : Bool) : Prop :=
 (b_5 = true → merge_Current_W g f_Exclude f_Sources (fun r0_0_2 r0_1_2 r0_2_2 r0_18_2 r1_2 => Q r0_0_2 r0_1_2 r0_2_2 r0_18_2 r1_2)) ∧ (b_5 = false → merge_Answer_W f_Exclude f_Sources q_Sources (fun r_2 => Q 1 g.1 g.2 r_2 (decide (0 < (r_2.length : Int)))))
def host_answer_W (g : T_api_Addr) (f_Exclude : Bool) (f_Sources : List T_api_Addr) (q_V6 : Bool) (q_Version : Int) (q_Kind : Int) (q_Resp : Int) (q_Group : T_api_Addr) (q_Quiet : Bool) (q_Robust : Int) (q_Every : Int) (q_Sources : List T_api_Addr) (q_Records : List T_api_Record) (Q : Int → Bool → (Ba 16) → (List T_api_Addr) → Bool → Prop) : Prop :=
 addr_Zero_W q_Group (fun r_1 => (r_1 = true → host_answer_j1 g f_Exclude f_Sources q_Sources Q true) ∧ (r_1 = false → host_answer_j1 g f_Exclude f_Sources q_Sources Q (decide ((q_Sources.length : Int) = 0))))
theorem host_answer_walk {F : Fz} {fr : List Ow} {h0 : Heap} (g : T_api_Addr) (f_Exclude : Bool) (f_Sources : List T_api_Addr) (q_V6 : Bool) (q_Version : Int) (q_Kind : Int) (q_Resp : Int) (q_Group : T_api_Addr) (q_Quiet : Bool) (q_Robust : Int) (q_Every : Int) (q_Sources : List T_api_Addr) (q_Records : List T_api_Record) (vf_Sources : Value) (vq_Sources : Value) (vq_Records : Value) (hS : St F (fr) h0) (hL_f_Sources : SliceF F h0 17 e_api_Addr vf_Sources f_Sources) (hL_q_Sources : SliceF F h0 17 e_api_Addr vq_Sources q_Sources) (hN_q_Records : NfL nf_api_Record F h0 q_Records) (hL_q_Records : SliceF F h0 19 e_api_Record vq_Records q_Records) {Q : Int → Bool → (Ba 16) → (List T_api_Addr) → Bool → Prop} (hM : host_answer_W g f_Exclude f_Sources q_V6 q_Version q_Kind q_Resp q_Group q_Quiet q_Robust q_Every q_Sources q_Records Q) :
  HC Tryz.prog 63 #[.agg (e_api_Addr g).toArray, .agg #[.bool f_Exclude, vf_Sources], .agg (c_api_Talk (.bool q_V6) (.int .i64 q_Version) (.int .i64 q_Kind) (.int .i64 q_Resp) q_Group (.bool q_Quiet) (.int .i64 q_Robust) (.int .i64 q_Every) vq_Sources vq_Records).toArray] h0 fun u h' => ∃ (F' : Fz) (r0_0_1 : Int) (r0_1_1 : Bool) (r0_2_1 : Ba 16) (r0_18_1 : List T_api_Addr) (r1_1 : Bool) (vr0_18_1 : Value), u = .tuple #[.agg (c_api_Record (.int .i64 r0_0_1) (r0_1_1, r0_2_1) vr0_18_1).toArray, .bool r1_1] ∧ Kp F h0 F' h' ∧ St F' (Ow.own 28 17 e_api_Addr vr0_18_1 r0_18_1 :: fr) h' ∧ (SliceF F' h' 17 e_api_Addr vf_Sources f_Sources) ∧ (SliceF F' h' 17 e_api_Addr vq_Sources q_Sources) ∧ (NfL nf_api_Record F' h' q_Records) ∧ (SliceF F' h' 19 e_api_Record vq_Records q_Records) ∧ Q r0_0_1 r0_1_1 r0_2_1 r0_18_1 r1_1 := by
 unfold host_answer_W at hM
 have hK := Kp.refl F h0
 refine HC.of_HW (n := 33) Tryz.func63 rfl rfl (Nat.le_of_ble_eq_true rfl) ?_
 refine HW.seq ?_
 refine HW.region ?_
 refine HO.eff (want_none) rfl (st_box (c := (e_api_Addr g).toArray) (k' := 17) hS rfl rfl) ?_
 rintro _ h_1 ⟨b_1, rfl, hS, hk⟩
 replace hK := hK.trans hk
 replace hL_f_Sources := hL_f_Sources.kp hk
 replace hL_q_Sources := hL_q_Sources.kp hk
 replace hN_q_Records := hN_q_Records.kp hk
 replace hL_q_Records := hL_q_Records.kp hk
 refine HO.eff (want_none) rfl (st_box (c := #[.bool f_Exclude, vf_Sources]) (k' := 2) hS rfl rfl) ?_
 rintro _ h_2 ⟨b_2, rfl, hS, hk⟩
 replace hK := hK.trans hk
 replace hL_f_Sources := hL_f_Sources.kp hk
 replace hL_q_Sources := hL_q_Sources.kp hk
 replace hN_q_Records := hN_q_Records.kp hk
 replace hL_q_Records := hL_q_Records.kp hk
 refine HO.eff (want_none) rfl (st_box (c := (c_api_Talk (.bool q_V6) (.int .i64 q_Version) (.int .i64 q_Kind) (.int .i64 q_Resp) q_Group (.bool q_Quiet) (.int .i64 q_Robust) (.int .i64 q_Every) vq_Sources vq_Records).toArray) (k' := 26) hS rfl rfl) ?_
 rintro _ h_3 ⟨b_3, rfl, hS, hk⟩
 replace hK := hK.trans hk
 replace hL_f_Sources := hL_f_Sources.kp hk
 replace hL_q_Sources := hL_q_Sources.kp hk
 replace hN_q_Records := hN_q_Records.kp hk
 replace hL_q_Records := hL_q_Records.kp hk
 refine HO.eff (want_none) rfl (st_alloc (c := (c_api_Record (.int .i64 0) (false, (default : Ba 16)) (.slice none 0 0)).toArray) hS tz_89 rfl) ?_
 rintro _ h_4 ⟨b_4, rfl, hS, hk⟩
 replace hK := hK.trans hk
 replace hL_f_Sources := hL_f_Sources.kp hk
 replace hL_q_Sources := hL_q_Sources.kp hk
 replace hN_q_Records := hN_q_Records.kp hk
 replace hL_q_Records := hL_q_Records.kp hk
 refine oA (.bool false) rfl rfl ?_
 refine HO.nil (thenQ_normal (?_))
 refine HW.seq ?_
 refine HW.seq_mid (fun f h => ∃ (F' : Fz) (b_5 : Bool), f 3 = .pointer (some ⟨b_1, 0, none⟩) ∧ f 4 = .pointer (some ⟨b_2, 0, none⟩) ∧ f 5 = .pointer (some ⟨b_3, 0, none⟩) ∧ f 6 = .pointer (some ⟨b_4, 0, none⟩) ∧ f 7 = .bool false ∧ f 17 = .bool b_5 ∧ Kp F h0 F' h ∧ St F' (Ow.box b_1 28 (e_api_Addr g).toArray :: Ow.box b_2 50 #[.bool f_Exclude, vf_Sources] :: Ow.box b_3 31 (c_api_Talk (.bool q_V6) (.int .i64 q_Version) (.int .i64 q_Kind) (.int .i64 q_Resp) q_Group (.bool q_Quiet) (.int .i64 q_Robust) (.int .i64 q_Every) vq_Sources vq_Records).toArray :: Ow.box b_4 89 (c_api_Record (.int .i64 0) (false, (default : Ba 16)) (.slice none 0 0)).toArray :: fr) h ∧ (SliceF F' h 17 e_api_Addr vf_Sources f_Sources) ∧ (SliceF F' h 17 e_api_Addr vq_Sources q_Sources) ∧ (NfL nf_api_Record F' h q_Records) ∧ (SliceF F' h 19 e_api_Record vq_Records q_Records) ∧ host_answer_j1 g f_Exclude f_Sources q_Sources Q b_5) ?_ ?_
 ·
  refine HW.region ?_
  refine oV (.pointer (some ⟨b_3, 4, none⟩)) (q_fieldAddr fa_31_4 rfl rfl) rfl ?_
  refine oV (.agg (e_api_Addr q_Group).toArray) (q_loadAgg (cs := (e_api_Addr q_Group)) ta_28 rfl rfl (Blk.cells (k := 17) (hS.box 1 rfl) rfl)) rfl ?_
  refine HO.call (want_none) rfl (ec en_59 rfl rfl) (addr_Zero_walk (fr := (Ow.box b_4 89 (c_api_Record (.int .i64 0) (false, (default : Ba 16)) (.slice none 0 0)).toArray :: Ow.box b_3 31 (c_api_Talk (.bool q_V6) (.int .i64 q_Version) (.int .i64 q_Kind) (.int .i64 q_Resp) q_Group (.bool q_Quiet) (.int .i64 q_Robust) (.int .i64 q_Every) vq_Sources vq_Records).toArray :: Ow.box b_2 50 #[.bool f_Exclude, vf_Sources] :: Ow.box b_1 28 (e_api_Addr g).toArray :: fr)) q_Group hS hM) ?_
  rintro _ h_5 ⟨F_1, r_1, rfl, hk, hS, hM⟩
  replace hK := hK.trans hk
  replace hL_f_Sources := hL_f_Sources.kp hk
  replace hL_q_Sources := hL_q_Sources.kp hk
  replace hN_q_Records := hN_q_Records.kp hk
  replace hL_q_Records := hL_q_Records.kp hk
  refine oM (.bool r_1) rfl rfl ?_
  rcases Bool.eq_false_or_eq_true r_1 with c_1 | c_1
  ·
   replace hM := hM.1 c_1
   refine HO.past (past_by rfl rfl c_1) rfl ?_
   refine HO.past (past_by rfl rfl c_1) rfl ?_
   refine HO.past (past_by rfl rfl c_1) rfl ?_
   refine HO.past (past_by rfl rfl c_1) rfl ?_
   refine oV (.bool true) (q_pickK true rfl c_1 rfl) rfl ?_
   refine HO.nil (thenQ_normal (?_))
   replace hS : St F_1 (Ow.box b_1 28 (e_api_Addr g).toArray :: Ow.box b_2 50 #[.bool f_Exclude, vf_Sources] :: Ow.box b_3 31 (c_api_Talk (.bool q_V6) (.int .i64 q_Version) (.int .i64 q_Kind) (.int .i64 q_Resp) q_Group (.bool q_Quiet) (.int .i64 q_Robust) (.int .i64 q_Every) vq_Sources vq_Records).toArray :: Ow.box b_4 89 (c_api_Record (.int .i64 0) (false, (default : Ba 16)) (.slice none 0 0)).toArray :: fr) h_5 := hS.perm2 [3, 2, 1, 0] 4 rfl rfl
   exact ⟨F_1, true, rfl, rfl, rfl, rfl, rfl, rfl, hK, hS, hL_f_Sources, hL_q_Sources, hN_q_Records, hL_q_Records, hM⟩
  ·
   replace hM := hM.2 c_1
   refine HO.val (v := .pointer (some ⟨b_3, 24, none⟩)) (want_by rfl rfl c_1) rfl (q_fieldAddr fa_31_8 rfl rfl) ?_
   refine HO.val (v := vq_Sources) (want_by rfl rfl c_1) rfl (q_load to_29 rfl (Blk.cell (hS.box 1 rfl) rfl)) ?_
   refine HO.val (v := .int .i64 (q_Sources.length : Int)) (want_by rfl rfl c_1) rfl (q_len ts_29 (shp hL_q_Sources.is) rfl rfl) ?_
   refine HO.val (v := .bool (decide ((q_Sources.length : Int) = 0))) (want_by rfl rfl c_1) rfl (q_eql rfl rfl) ?_
   refine oV (.bool (decide ((q_Sources.length : Int) = 0))) (q_pickK false rfl c_1 rfl) rfl ?_
   refine HO.nil (thenQ_normal (?_))
   replace hS : St F_1 (Ow.box b_1 28 (e_api_Addr g).toArray :: Ow.box b_2 50 #[.bool f_Exclude, vf_Sources] :: Ow.box b_3 31 (c_api_Talk (.bool q_V6) (.int .i64 q_Version) (.int .i64 q_Kind) (.int .i64 q_Resp) q_Group (.bool q_Quiet) (.int .i64 q_Robust) (.int .i64 q_Every) vq_Sources vq_Records).toArray :: Ow.box b_4 89 (c_api_Record (.int .i64 0) (false, (default : Ba 16)) (.slice none 0 0)).toArray :: fr) h_5 := hS.perm2 [3, 2, 1, 0] 4 rfl rfl
   exact ⟨F_1, decide ((q_Sources.length : Int) = 0), rfl, rfl, rfl, rfl, rfl, rfl, hK, hS, hL_f_Sources, hL_q_Sources, hN_q_Records, hL_q_Records, hM⟩
 ·
  rintro f_1 h_6 ⟨F_2, b_5, e3, e4, e5, e6, e7, e17, hK, hS, hL_f_Sources, hL_q_Sources, hN_q_Records, hL_q_Records, hM⟩
  unfold host_answer_j1 at hM
  refine HW.fr [(3, .pointer (some ⟨b_1, 0, none⟩)), (4, .pointer (some ⟨b_2, 0, none⟩)), (5, .pointer (some ⟨b_3, 0, none⟩)), (6, .pointer (some ⟨b_4, 0, none⟩)), (7, .bool false), (17, .bool b_5)] ⟨e3, e4, e5, e6, e7, e17, trivial⟩ ?_
  refine HW.cond b_5 rfl (fun c_2 => ?_) (fun c_2 => ?_)
  ·
   replace hM := hM.1 c_2
   refine HW.seq ?_
   refine HW.region ?_
   refine oV (.agg (e_api_Addr g).toArray) (q_loadAgg (cs := (e_api_Addr g)) ta_28 rfl rfl (Blk.cells (k := 17) (hS.box 0 rfl) rfl)) rfl ?_
   refine oV (.agg #[.bool f_Exclude, vf_Sources]) (q_loadAgg (cs := [.bool f_Exclude, vf_Sources]) ta_50 rfl rfl (Blk.cells (k := 2) (hS.box 1 rfl) rfl)) rfl ?_
   refine HO.call (want_none) rfl (ec en_115 rfl rfl) (merge_Current_walk (fr := (Ow.box b_1 28 (e_api_Addr g).toArray :: Ow.box b_2 50 #[.bool f_Exclude, vf_Sources] :: Ow.box b_3 31 (c_api_Talk (.bool q_V6) (.int .i64 q_Version) (.int .i64 q_Kind) (.int .i64 q_Resp) q_Group (.bool q_Quiet) (.int .i64 q_Robust) (.int .i64 q_Every) vq_Sources vq_Records).toArray :: Ow.box b_4 89 (c_api_Record (.int .i64 0) (false, (default : Ba 16)) (.slice none 0 0)).toArray :: fr)) g f_Exclude f_Sources vf_Sources hS hL_f_Sources hM) ?_
   rintro _ h_7 ⟨F_3, r0_0_2, r0_1_2, r0_2_2, r0_18_2, r1_2, vr0_18_2, rfl, hk, hS, _, hM⟩
   replace hK := hK.trans hk
   replace hL_f_Sources := hL_f_Sources.kp hk
   replace hL_q_Sources := hL_q_Sources.kp hk
   replace hN_q_Records := hN_q_Records.kp hk
   replace hL_q_Records := hL_q_Records.kp hk
   refine oV (.agg (c_api_Record (.int .i64 r0_0_2) (r0_1_2, r0_2_2) vr0_18_2).toArray) (q_extract rfl rfl) rfl ?_
   refine oV (.bool r1_2) (q_extract rfl rfl) rfl ?_
   refine HO.sto (want_none) rfl (st_storeAgg (c' := (c_api_Record (.int .i64 r0_0_2) (r0_1_2, r0_2_2) vr0_18_2).toArray) hS (i := 4) rfl ta_89 rfl rfl rfl (List.forall_mem_cons.2 ⟨rfl, (List.forall_mem_cons.2 ⟨rfl, (List.forall_mem_cons.2 ⟨rfl, (List.forall_mem_cons.2 ⟨rfl, (List.forall_mem_cons.2 ⟨rfl, (List.forall_mem_cons.2 ⟨rfl, (List.forall_mem_cons.2 ⟨rfl, (List.forall_mem_cons.2 ⟨rfl, (List.forall_mem_cons.2 ⟨rfl, (List.forall_mem_cons.2 ⟨rfl, (List.forall_mem_cons.2 ⟨rfl, (List.forall_mem_cons.2 ⟨rfl, (List.forall_mem_cons.2 ⟨rfl, (List.forall_mem_cons.2 ⟨rfl, (List.forall_mem_cons.2 ⟨rfl, (List.forall_mem_cons.2 ⟨rfl, (List.forall_mem_cons.2 ⟨rfl, (List.forall_mem_cons.2 ⟨rfl, (List.forall_mem_cons.2 ⟨(shp (hS.own 0 rfl).slice).one, (fun _ h => by cases h)⟩)⟩)⟩)⟩)⟩)⟩)⟩)⟩)⟩)⟩)⟩)⟩)⟩)⟩)⟩)⟩)⟩)⟩)⟩) (Nat.le_of_ble_eq_true rfl) rfl) ?_
   rintro h_8 ⟨hS, hk⟩
   replace hK := hK.trans hk
   replace hL_f_Sources := hL_f_Sources.kp hk
   replace hL_q_Sources := hL_q_Sources.kp hk
   replace hN_q_Records := hN_q_Records.kp hk
   replace hL_q_Records := hL_q_Records.kp hk
   refine oA (.bool r1_2) rfl rfl ?_
   refine HO.nil (thenQ_normal (?_))
   refine HW.ret (thenQ_ret (?_))
   refine ⟨.inr rfl, .tuple #[.agg (c_api_Record (.int .i64 r0_0_2) (r0_1_2, r0_2_2) vr0_18_2).toArray, .bool r1_2], res2 rfl (rca (cs := (c_api_Record (.int .i64 r0_0_2) (r0_1_2, r0_2_2) vr0_18_2)) ta_89 rfl rfl (Blk.cells (k := 19) (hS.box 4 rfl) rfl)) (rt rfl), ?_⟩
   replace hS : St F_3 (Ow.own 28 17 e_api_Addr vr0_18_2 r0_18_2 :: fr) h_8 := hS.perm2 [0] 5 rfl rfl
   exact ⟨F_3, r0_0_2, r0_1_2, r0_2_2, r0_18_2, r1_2, vr0_18_2, rfl, hK, hS, hL_f_Sources, hL_q_Sources, hN_q_Records, hL_q_Records, hM⟩
  ·
   replace hM := hM.2 c_2
   refine HW.skip (thenQ_normal (?_))
   refine HW.seq ?_
   refine HW.region ?_
   refine oV (.agg #[.bool f_Exclude, vf_Sources]) (q_loadAgg (cs := [.bool f_Exclude, vf_Sources]) ta_50 rfl rfl (Blk.cells (k := 2) (hS.box 1 rfl) rfl)) rfl ?_
   refine oV (.pointer (some ⟨b_3, 24, none⟩)) (q_fieldAddr fa_31_8 rfl rfl) rfl ?_
   refine oV (vq_Sources) (q_load to_29 rfl (Blk.cell (hS.box 2 rfl) rfl)) rfl ?_
   refine HO.call (want_none) rfl (ec en_116 rfl rfl) (merge_Answer_walk (fr := (Ow.box b_1 28 (e_api_Addr g).toArray :: Ow.box b_2 50 #[.bool f_Exclude, vf_Sources] :: Ow.box b_3 31 (c_api_Talk (.bool q_V6) (.int .i64 q_Version) (.int .i64 q_Kind) (.int .i64 q_Resp) q_Group (.bool q_Quiet) (.int .i64 q_Robust) (.int .i64 q_Every) vq_Sources vq_Records).toArray :: Ow.box b_4 89 (c_api_Record (.int .i64 0) (false, (default : Ba 16)) (.slice none 0 0)).toArray :: fr)) f_Exclude f_Sources q_Sources vf_Sources vq_Sources hS hL_f_Sources hL_q_Sources hM) ?_
   rintro vr_1 h_9 ⟨F_4, r_2, _, rfl, hk, hS, _, _, hM⟩
   replace hK := hK.trans hk
   replace hL_f_Sources := hL_f_Sources.kp hk
   replace hL_q_Sources := hL_q_Sources.kp hk
   replace hN_q_Records := hN_q_Records.kp hk
   replace hL_q_Records := hL_q_Records.kp hk
   refine oA (vr_1) rfl rfl ?_
   refine HO.nil (thenQ_normal (?_))
   refine HW.seq ?_
   refine HW.region ?_
   refine oV (.agg (e_api_Addr g).toArray) (q_loadAgg (cs := (e_api_Addr g)) ta_28 rfl rfl (Blk.cells (k := 17) (hS.box 1 rfl) rfl)) rfl ?_
   refine oM (vr_1) rfl rfl ?_
   refine oV (.agg (c_api_Record (.int .i64 1) g vr_1).toArray) (q_build tp_89 (fill_cons (cs' := (c_api_Record (.int .i64 1) (false, (default : Ba 16)) (.slice none 0 0)).toArray) (vc := #[.int .i64 1]) rfl rfl rfl (Nat.le_of_ble_eq_true rfl) rfl (fill_cons (cs' := (c_api_Record (.int .i64 1) g (.slice none 0 0)).toArray) (vc := (e_api_Addr g).toArray) rfl rfl rfl (Nat.le_of_ble_eq_true rfl) rfl (fill_cons (cs' := (c_api_Record (.int .i64 1) g vr_1).toArray) (vc := #[vr_1]) rfl (shp (hS.own 0 rfl).slice).cells rfl (Nat.le_of_ble_eq_true rfl) rfl rfl)))) rfl ?_
   refine oM (vr_1) rfl rfl ?_
   refine oV (.int .i64 (r_2.length : Int)) (q_len ts_29 (shp (hS.own 0 rfl).slice) rfl rfl) rfl ?_
   refine oV (.bool (decide (0 < (r_2.length : Int)))) (q_gtr rfl rfl) rfl ?_
   refine HO.sto (want_none) rfl (st_storeAgg (c' := (c_api_Record (.int .i64 1) g vr_1).toArray) hS (i := 4) rfl ta_89 rfl rfl rfl (List.forall_mem_cons.2 ⟨rfl, (List.forall_mem_cons.2 ⟨rfl, (List.forall_mem_cons.2 ⟨rfl, (List.forall_mem_cons.2 ⟨rfl, (List.forall_mem_cons.2 ⟨rfl, (List.forall_mem_cons.2 ⟨rfl, (List.forall_mem_cons.2 ⟨rfl, (List.forall_mem_cons.2 ⟨rfl, (List.forall_mem_cons.2 ⟨rfl, (List.forall_mem_cons.2 ⟨rfl, (List.forall_mem_cons.2 ⟨rfl, (List.forall_mem_cons.2 ⟨rfl, (List.forall_mem_cons.2 ⟨rfl, (List.forall_mem_cons.2 ⟨rfl, (List.forall_mem_cons.2 ⟨rfl, (List.forall_mem_cons.2 ⟨rfl, (List.forall_mem_cons.2 ⟨rfl, (List.forall_mem_cons.2 ⟨rfl, (List.forall_mem_cons.2 ⟨(shp (hS.own 0 rfl).slice).one, (fun _ h => by cases h)⟩)⟩)⟩)⟩)⟩)⟩)⟩)⟩)⟩)⟩)⟩)⟩)⟩)⟩)⟩)⟩)⟩)⟩)⟩) (Nat.le_of_ble_eq_true rfl) rfl) ?_
   rintro h_10 ⟨hS, hk⟩
   replace hK := hK.trans hk
   replace hL_f_Sources := hL_f_Sources.kp hk
   replace hL_q_Sources := hL_q_Sources.kp hk
   replace hN_q_Records := hN_q_Records.kp hk
   replace hL_q_Records := hL_q_Records.kp hk
   refine oA (.bool (decide (0 < (r_2.length : Int)))) rfl rfl ?_
   refine HO.nil (thenQ_normal (?_))
   refine HW.ret (?_)
   refine ⟨.inr rfl, .tuple #[.agg (c_api_Record (.int .i64 1) g vr_1).toArray, .bool (decide (0 < (r_2.length : Int)))], res2 rfl (rca (cs := (c_api_Record (.int .i64 1) g vr_1)) ta_89 rfl rfl (Blk.cells (k := 19) (hS.box 4 rfl) rfl)) (rt rfl), ?_⟩
   replace hS : St F_4 (Ow.own 28 17 e_api_Addr vr_1 r_2 :: fr) h_10 := hS.perm2 [0] 5 rfl rfl
   exact ⟨F_4, 1, g.1, g.2, r_2, decide (0 < (r_2.length : Int)), vr_1, rfl, hK, hS, hL_f_Sources, hL_q_Sources, hN_q_Records, hL_q_Records, hM⟩
def host_Host_Hear_j5 (a0_0_2 : Bool) (a0_1_2 : Int) (a0_2_2 : List (T_api_Addr × T_api_Filter)) (a0_3_3 : Int) (a0_4_3 : Int) (out_1 : List T_api_Talk) (records_1 : List T_api_Record) (n_1 : Int) (K_1 : Bool → Int → (List (T_api_Addr × T_api_Filter)) → Int → Int → (List T_api_Talk) → (List T_api_Record) → Int → Prop) (r_0_1 : Int) (r_1_1 : Bool) (r_2_1 : Ba 16) (r_18_1 : List T_api_Addr) (ok_1 : Bool) : Prop :=
 (ok_1 = true → ∀ vr_18_1 : Value, (((records_1.length + ([(r_0_1, (r_1_1, r_2_1), (vr_18_1, r_18_1))] : List T_api_Record).length) * 56 ≤ 140737488355328) ∧ ((I64 (n_1 + 1)) ∧ (K_1 a0_0_2 a0_1_2 a0_2_2 a0_3_3 a0_4_3 out_1 (records_1 ++ ([(r_0_1, (r_1_1, r_2_1), (vr_18_1, r_18_1))] : List T_api_Record)) (n_1 + 1))))) ∧ (ok_1 = false → (I64 (n_1 + 1)) ∧ (K_1 a0_0_2 a0_1_2 a0_2_2 a0_3_3 a0_4_3 out_1 records_1 (n_1 + 1)))
def host_Host_Hear_j4 (q_V6 : Bool) (q_Version : Int) (q_Kind : Int) (q_Resp : Int) (q_Group : T_api_Addr) (q_Quiet : Bool) (q_Robust : Int) (q_Every : Int) (q_Sources : List T_api_Addr) (q_Records : List T_api_Record) (r_5 : List T_api_Addr) (a0_0_2 : Bool) (a0_1_2 : Int) (a0_2_2 : List (T_api_Addr × T_api_Filter)) (a0_3_3 : Int) (a0_4_3 : Int) (out_1 : List T_api_Talk) (records_1 : List T_api_Record) (n_1 : Int) (K_1 : Bool → Int → (List (T_api_Addr × T_api_Filter)) → Int → Int → (List T_api_Talk) → (List T_api_Record) → Int → Prop) (b_6 : Bool) : Prop :=
 (b_6 = true → (I64 (n_1 + 1)) ∧ (K_1 a0_0_2 a0_1_2 a0_2_2 a0_3_3 a0_4_3 out_1 records_1 (n_1 + 1))) ∧ (b_6 = false → host_Host_mode_W a0_0_2 a0_1_2 a0_2_2 a0_3_3 a0_4_3 (fun r_7 => compat_Last_W a0_0_2 (fun r_8 => (r_7 < r_8 → host_Host_older_W a0_0_2 a0_1_2 a0_2_2 a0_3_3 a0_4_3 (gi r_5 n_1) 2 (fun r_9 a0_v6_3 a0_now_3 a0m_3 a0_one_3 a0_two_3 => ((out_1.length + r_9.length) * 120 ≤ 140737488355328) ∧ ((I64 (n_1 + 1)) ∧ (K_1 a0_v6_3 a0_now_3 a0m_3 a0_one_3 a0_two_3 (out_1 ++ r_9) records_1 (n_1 + 1))))) ∧ (¬ (r_7 < r_8) → host_answer_W (gi r_5 n_1) ((mgetD z_api_Filter a0_2_2 (gi r_5 n_1)).1) (((mgetD z_api_Filter a0_2_2 (gi r_5 n_1)).2).2) q_V6 q_Version q_Kind q_Resp q_Group q_Quiet q_Robust q_Every q_Sources q_Records (fun r0_0_1 r0_1_1 r0_2_1 r0_18_1 r1_1 => host_Host_Hear_j5 a0_0_2 a0_1_2 a0_2_2 a0_3_3 a0_4_3 out_1 records_1 n_1 K_1 r0_0_1 r0_1_1 r0_2_1 r0_18_1 r1_1)))))
def host_Host_Hear_l1 (q_V6 : Bool) (q_Version : Int) (q_Kind : Int) (q_Resp : Int) (q_Group : T_api_Addr) (q_Quiet : Bool) (q_Robust : Int) (q_Every : Int) (q_Sources : List T_api_Addr) (q_Records : List T_api_Record) (Q : (List T_api_Talk) → Bool → Int → (List (T_api_Addr × T_api_Filter)) → Int → Int → Prop) (r_5 : List T_api_Addr) (K_1 : Bool → Int → (List (T_api_Addr × T_api_Filter)) → Int → Int → (List T_api_Talk) → (List T_api_Record) → Int → Prop) (a0_0_2 : Bool) (a0_1_2 : Int) (a0_2_2 : List (T_api_Addr × T_api_Filter)) (a0_3_3 : Int) (a0_4_3 : Int) (out_1 : List T_api_Talk) (records_1 : List T_api_Record) (n_1 : Int) : Prop :=
 (n_1 < (r_5.length : Int) → ((0 : Int) ≤ n_1 ∧ n_1 < (r_5.length : Int)) ∧ (addr_Zero_W q_Group (fun r_6 => ((!r_6) = true → host_Host_Hear_j4 q_V6 q_Version q_Kind q_Resp q_Group q_Quiet q_Robust q_Every q_Sources q_Records r_5 a0_0_2 a0_1_2 a0_2_2 a0_3_3 a0_4_3 out_1 records_1 n_1 K_1 (!decide ((q_Group : T_api_Addr) = (gi r_5 n_1)))) ∧ ((!r_6) = false → host_Host_Hear_j4 q_V6 q_Version q_Kind q_Resp q_Group q_Quiet q_Robust q_Every q_Sources q_Records r_5 a0_0_2 a0_1_2 a0_2_2 a0_3_3 a0_4_3 out_1 records_1 n_1 K_1 false)))) ∧ (¬ (n_1 < (r_5.length : Int)) → host_pack_W a0_0_2 records_1 (fun r_10 => ((out_1.length + r_10.length) * 120 ≤ 140737488355328) ∧ (Q (out_1 ++ r_10) a0_0_2 a0_1_2 a0_2_2 a0_3_3 a0_4_3)))
def host_Host_Hear_j2 (q_V6 : Bool) (q_Version : Int) (q_Kind : Int) (q_Resp : Int) (q_Group : T_api_Addr) (q_Quiet : Bool) (q_Robust : Int) (q_Every : Int) (q_Sources : List T_api_Addr) (q_Records : List T_api_Record) (Q : (List T_api_Talk) → Bool → Int → (List (T_api_Addr × T_api_Filter)) → Int → Int → Prop) (a0_v6_2 : Bool) (a0_now_2 : Int) (a0m_2 : List (T_api_Addr × T_api_Filter)) (a0_3_2 : Int) (a0_4_2 : Int) : Prop :=
 host_Host_groups_W a0_v6_2 a0_now_2 a0m_2 a0_3_2 a0_4_2 (fun r_5 => loopW (fun (K_1 : (Bool × Int × (List (T_api_Addr × T_api_Filter)) × Int × Int × List T_api_Talk × List T_api_Record × Int) → Prop) (s : Bool × Int × (List (T_api_Addr × T_api_Filter)) × Int × Int × List T_api_Talk × List T_api_Record × Int) => host_Host_Hear_l1 q_V6 q_Version q_Kind q_Resp q_Group q_Quiet q_Robust q_Every q_Sources q_Records Q r_5 (fun a0_0_2 a0_1_2 a0_2_2 a0_3_3 a0_4_3 out_1 records_1 n_1 => K_1 (a0_0_2, a0_1_2, a0_2_2, a0_3_3, a0_4_3, out_1, records_1, n_1)) s.1 s.2.1 s.2.2.1 s.2.2.2.1 s.2.2.2.2.1 s.2.2.2.2.2.1 s.2.2.2.2.2.2.1 s.2.2.2.2.2.2.2) (a0_v6_2, a0_now_2, a0m_2, a0_3_2, a0_4_2, [], [], 0))
def host_Host_Hear_j3 (t : T_api_Tune) (q_V6 : Bool) (q_Version : Int) (q_Kind : Int) (q_Resp : Int) (q_Group : T_api_Addr) (q_Quiet : Bool) (q_Robust : Int) (q_Every : Int) (q_Sources : List T_api_Addr) (q_Records : List T_api_Record) (Q : (List T_api_Talk) → Bool → Int → (List (T_api_Addr × T_api_Filter)) → Int → Int → Prop) (a0_v6_2 : Bool) (a0_now_2 : Int) (a0m_2 : List (T_api_Addr × T_api_Filter)) (a0_one_2 : Int) (a0_two_2 : Int) (b_4 : Bool) : Prop :=
 (b_4 = true → tune_Older_W t (fun r_4 => (I64 (a0_now_2 + r_4)) ∧ (host_Host_Hear_j2 q_V6 q_Version q_Kind q_Resp q_Group q_Quiet q_Robust q_Every q_Sources q_Records Q a0_v6_2 a0_now_2 a0m_2 a0_one_2 (a0_now_2 + r_4)))) ∧ (b_4 = false → host_Host_Hear_j2 q_V6 q_Version q_Kind q_Resp q_Group q_Quiet q_Robust q_Every q_Sources q_Records Q a0_v6_2 a0_now_2 a0m_2 a0_one_2 a0_two_2)
def host_Host_Hear_j1 (t : T_api_Tune) (q_V6 : Bool) (q_Version : Int) (q_Kind : Int) (q_Resp : Int) (q_Group : T_api_Addr) (q_Quiet : Bool) (q_Robust : Int) (q_Every : Int) (q_Sources : List T_api_Addr) (q_Records : List T_api_Record) (Q : (List T_api_Talk) → Bool → Int → (List (T_api_Addr × T_api_Filter)) → Int → Int → Prop) (a0_v6_2 : Bool) (a0_now_2 : Int) (a0m_2 : List (T_api_Addr × T_api_Filter)) (a0_one_2 : Int) (a0_two_2 : Int) (b_3 : Bool) : Prop :=
 (b_3 = true → Q [] a0_v6_2 a0_now_2 a0m_2 a0_one_2 a0_two_2) ∧ (b_3 = false → (q_Version = 1 → tune_Older_W t (fun r_3 => (I64 (a0_now_2 + r_3)) ∧ (host_Host_Hear_j2 q_V6 q_Version q_Kind q_Resp q_Group q_Quiet q_Robust q_Every q_Sources q_Records Q a0_v6_2 a0_now_2 a0m_2 (a0_now_2 + r_3) a0_two_2))) ∧ (¬ (q_Version = 1) → (q_Version = 2 → host_Host_Hear_j3 t q_V6 q_Version q_Kind q_Resp q_Group q_Quiet q_Robust q_Every q_Sources q_Records Q a0_v6_2 a0_now_2 a0m_2 a0_one_2 a0_two_2 (!a0_v6_2)) ∧ (¬ (q_Version = 2) → host_Host_Hear_j3 t q_V6 q_Version q_Kind q_Resp q_Group q_Quiet q_Robust q_Every q_Sources q_Records Q a0_v6_2 a0_now_2 a0m_2 a0_one_2 a0_two_2 false)))
def host_Host_Hear_W (h_v6 : Bool) (h_now : Int) (h_want : List (T_api_Addr × T_api_Filter)) (h_one : Int) (h_two : Int) (now : Int) (t : T_api_Tune) (q_V6 : Bool) (q_Version : Int) (q_Kind : Int) (q_Resp : Int) (q_Group : T_api_Addr) (q_Quiet : Bool) (q_Robust : Int) (q_Every : Int) (q_Sources : List T_api_Addr) (q_Records : List T_api_Record) (Q : (List T_api_Talk) → Bool → Int → (List (T_api_Addr × T_api_Filter)) → Int → Int → Prop) : Prop :=
 host_Host_settle_W h_v6 h_now h_want h_one h_two now (fun r_2 a0_v6_2 a0_now_2 a0m_2 a0_one_2 a0_two_2 => (¬ (q_Kind = 1) → host_Host_Hear_j1 t q_V6 q_Version q_Kind q_Resp q_Group q_Quiet q_Robust q_Every q_Sources q_Records Q a0_v6_2 a0_now_2 a0m_2 a0_one_2 a0_two_2 true) ∧ (q_Kind = 1 → host_Host_Hear_j1 t q_V6 q_Version q_Kind q_Resp q_Group q_Quiet q_Robust q_Every q_Sources q_Records Q a0_v6_2 a0_now_2 a0m_2 a0_one_2 a0_two_2 (!(q_V6 == a0_v6_2))))
theorem host_Host_Hear_walk {F : Fz} {fr : List Ow} {h0 : Heap} (h_v6 : Bool) (h_now : Int) (h_want : List (T_api_Addr × T_api_Filter)) (h_one : Int) (h_two : Int) (now : Int) (t : T_api_Tune) (q_V6 : Bool) (q_Version : Int) (q_Kind : Int) (q_Resp : Int) (q_Group : T_api_Addr) (q_Quiet : Bool) (q_Robust : Int) (q_Every : Int) (q_Sources : List T_api_Addr) (q_Records : List T_api_Record) (bh : Nat) (rh_want : Nat) (vq_Sources : Value) (vq_Records : Value) (hS : St F (Ow.box bh 97 #[.bool h_v6, .int .i64 h_now, .map (some rh_want), .int .i64 h_one, .int .i64 h_two] :: Ow.map rh_want (fun (x : T_api_Addr) => .agg (e_api_Addr x).toArray) (fun (x : T_api_Filter) => .agg #[.bool x.1, x.2.1]) h_want :: fr) h0) (hN_h_want : NfL nf_api_Filter F h0 (h_want.map (·.2))) (hL_q_Sources : SliceF F h0 17 e_api_Addr vq_Sources q_Sources) (hN_q_Records : NfL nf_api_Record F h0 q_Records) (hL_q_Records : SliceF F h0 19 e_api_Record vq_Records q_Records) {Q : (List T_api_Talk) → Bool → Int → (List (T_api_Addr × T_api_Filter)) → Int → Int → Prop} (hM : host_Host_Hear_W h_v6 h_now h_want h_one h_two now t q_V6 q_Version q_Kind q_Resp q_Group q_Quiet q_Robust q_Every q_Sources q_Records Q) :
  HC Tryz.prog 19 #[.pointer (some ⟨bh, 0, none⟩), .int .i64 now, .agg (e_api_Tune t).toArray, .agg (c_api_Talk (.bool q_V6) (.int .i64 q_Version) (.int .i64 q_Kind) (.int .i64 q_Resp) q_Group (.bool q_Quiet) (.int .i64 q_Robust) (.int .i64 q_Every) vq_Sources vq_Records).toArray] h0 fun u h' => ∃ (F' : Fz) (r_1 : List T_api_Talk) (a0_v6_1 : Bool) (a0_now_1 : Int) (a0m_1 : List (T_api_Addr × T_api_Filter)) (a0_one_1 : Int) (a0_two_1 : Int) (vr_1 : Value), u = vr_1 ∧ Kp F h0 F' h' ∧ St F' (Ow.own 31 26 e_api_Talk vr_1 r_1 :: Ow.box bh 97 #[.bool a0_v6_1, .int .i64 a0_now_1, .map (some rh_want), .int .i64 a0_one_1, .int .i64 a0_two_1] :: Ow.map rh_want (fun (x : T_api_Addr) => .agg (e_api_Addr x).toArray) (fun (x : T_api_Filter) => .agg #[.bool x.1, x.2.1]) a0m_1 :: fr) h' ∧ (NfL nf_api_Filter F' h' (h_want.map (·.2))) ∧ (SliceF F' h' 17 e_api_Addr vq_Sources q_Sources) ∧ (NfL nf_api_Record F' h' q_Records) ∧ (SliceF F' h' 19 e_api_Record vq_Records q_Records) ∧ (NfL nf_api_Talk F' h' r_1) ∧ (NfL nf_api_Filter F' h' (a0m_1.map (·.2))) ∧ Q r_1 a0_v6_1 a0_now_1 a0m_1 a0_one_1 a0_two_1 := by
 unfold host_Host_Hear_W at hM
 have hK := Kp.refl F h0
 refine HC.of_HW (n := 125) Tryz.func19 rfl rfl (Nat.le_of_ble_eq_true rfl) ?_
 refine HW.seq ?_
 refine HW.region ?_
 refine HO.eff (want_none) rfl (st_box (c := (e_api_Tune t).toArray) (k' := 5) hS rfl rfl) ?_
 rintro _ h_1 ⟨b_1, rfl, hS, hk⟩
 replace hK := hK.trans hk
 replace hN_h_want := hN_h_want.kp hk
 replace hL_q_Sources := hL_q_Sources.kp hk
 replace hN_q_Records := hN_q_Records.kp hk
 replace hL_q_Records := hL_q_Records.kp hk
 refine HO.eff (want_none) rfl (st_box (c := (c_api_Talk (.bool q_V6) (.int .i64 q_Version) (.int .i64 q_Kind) (.int .i64 q_Resp) q_Group (.bool q_Quiet) (.int .i64 q_Robust) (.int .i64 q_Every) vq_Sources vq_Records).toArray) (k' := 26) hS rfl rfl) ?_
 rintro _ h_2 ⟨b_2, rfl, hS, hk⟩
 replace hK := hK.trans hk
 replace hN_h_want := hN_h_want.kp hk
 replace hL_q_Sources := hL_q_Sources.kp hk
 replace hN_q_Records := hN_q_Records.kp hk
 replace hL_q_Records := hL_q_Records.kp hk
 refine oA (.slice none 0 0) rfl rfl ?_
 refine HO.nil (thenQ_normal (?_))
 refine HW.seq ?_
 refine HW.seq ?_
 refine HW.region ?_
 refine oM (.pointer (some ⟨bh, 0, none⟩)) rfl rfl ?_
 refine oV (.bool false) (q_eqlPnil Tryz.underlying42 rfl rfl rfl) rfl ?_
 refine HO.nil (thenQ_normal (?_))
 refine HW.condF rfl ?_
 refine HW.skip (thenQ_normal (?_))
 refine HW.seq ?_
 refine HW.region ?_
 refine oM (.pointer (some ⟨bh, 0, none⟩)) rfl rfl ?_
 refine oM (.int .i64 now) rfl rfl ?_
 replace hS : St F (Ow.box bh 97 #[.bool h_v6, .int .i64 h_now, .map (some rh_want), .int .i64 h_one, .int .i64 h_two] :: Ow.map rh_want (fun (x : T_api_Addr) => .agg (e_api_Addr x).toArray) (fun (x : T_api_Filter) => .agg #[.bool x.1, x.2.1]) h_want :: Ow.box b_2 31 (c_api_Talk (.bool q_V6) (.int .i64 q_Version) (.int .i64 q_Kind) (.int .i64 q_Resp) q_Group (.bool q_Quiet) (.int .i64 q_Robust) (.int .i64 q_Every) vq_Sources vq_Records).toArray :: Ow.box b_1 56 (e_api_Tune t).toArray :: fr) h_2 := hS.perm2 [2, 3, 0, 1] 4 rfl rfl
 refine HO.call (want_none) rfl (ec en_47 rfl rfl) (host_Host_settle_walk (fr := (Ow.box b_2 31 (c_api_Talk (.bool q_V6) (.int .i64 q_Version) (.int .i64 q_Kind) (.int .i64 q_Resp) q_Group (.bool q_Quiet) (.int .i64 q_Robust) (.int .i64 q_Every) vq_Sources vq_Records).toArray :: Ow.box b_1 56 (e_api_Tune t).toArray :: fr)) h_v6 h_now h_want h_one h_two now bh rh_want hS hN_h_want hM) ?_
 rintro _ h_3 ⟨F_1, r_2, a0_v6_2, a0_now_2, a0m_2, a0_one_2, a0_two_2, rfl, hk, hS, _, hL_1, hM⟩
 replace hK := hK.trans hk
 replace hN_h_want := hN_h_want.kp hk
 replace hL_q_Sources := hL_q_Sources.kp hk
 replace hN_q_Records := hN_q_Records.kp hk
 replace hL_q_Records := hL_q_Records.kp hk
 refine HO.nil (thenQ_normal (?_))
 refine HW.seq ?_
 refine HW.seq_mid (fun f h => ∃ (F' : Fz) (b_3 : Bool), f 0 = .pointer (some ⟨bh, 0, none⟩) ∧ f 6 = .pointer (some ⟨b_1, 0, none⟩) ∧ f 7 = .pointer (some ⟨b_2, 0, none⟩) ∧ f 8 = .slice none 0 0 ∧ f 31 = .bool b_3 ∧ Kp F h0 F' h ∧ St F' (Ow.box bh 97 #[.bool a0_v6_2, .int .i64 a0_now_2, .map (some rh_want), .int .i64 a0_one_2, .int .i64 a0_two_2] :: Ow.map rh_want (fun (x : T_api_Addr) => .agg (e_api_Addr x).toArray) (fun (x : T_api_Filter) => .agg #[.bool x.1, x.2.1]) a0m_2 :: Ow.box b_1 56 (e_api_Tune t).toArray :: Ow.box b_2 31 (c_api_Talk (.bool q_V6) (.int .i64 q_Version) (.int .i64 q_Kind) (.int .i64 q_Resp) q_Group (.bool q_Quiet) (.int .i64 q_Robust) (.int .i64 q_Every) vq_Sources vq_Records).toArray :: fr) h ∧ (NfL nf_api_Filter F' h (h_want.map (·.2))) ∧ (SliceF F' h 17 e_api_Addr vq_Sources q_Sources) ∧ (NfL nf_api_Record F' h q_Records) ∧ (SliceF F' h 19 e_api_Record vq_Records q_Records) ∧ (NfL nf_api_Filter F' h (a0m_2.map (·.2))) ∧ host_Host_Hear_j1 t q_V6 q_Version q_Kind q_Resp q_Group q_Quiet q_Robust q_Every q_Sources q_Records Q a0_v6_2 a0_now_2 a0m_2 a0_one_2 a0_two_2 b_3) ?_ ?_
 ·
  refine HW.regionA 12 mixed (fun h => (NfI nf_api_Filter h (h_want.map (·.2))) ∧ (SliceIs h 17 e_api_Addr vq_Sources q_Sources) ∧ (NfI nf_api_Record h q_Records) ∧ (SliceIs h 19 e_api_Record vq_Records q_Records) ∧ (NfI nf_api_Filter h (a0m_2.map (·.2))) ∧ (Blk h bh (.cells #[.bool a0_v6_2, .int .i64 a0_now_2, .map (some rh_want), .int .i64 a0_one_2, .int .i64 a0_two_2] 97 (0, 0))) ∧ (MapIs h rh_want (fun (x : T_api_Addr) => .agg (e_api_Addr x).toArray) (fun (x : T_api_Filter) => .agg #[.bool x.1, x.2.1]) a0m_2) ∧ (Blk h b_2 (.cells (c_api_Talk (.bool q_V6) (.int .i64 q_Version) (.int .i64 q_Kind) (.int .i64 q_Resp) q_Group (.bool q_Quiet) (.int .i64 q_Robust) (.int .i64 q_Every) vq_Sources vq_Records).toArray 31 (0, 0))) ∧ (Blk h b_1 (.cells (e_api_Tune t).toArray 56 (0, 0)))) [] (by kernel_rfl) ?_
  refine HA.val (k := 0) (v := .pointer (some ⟨b_2, 2, none⟩)) rfl rfl (by kernel_rfl) (by kernel_rfl) (want_none) rfl (fun _ ⟨hN_h_want, hL_q_Sources, hN_q_Records, hL_q_Records, hL_1, c1, c2, c209, c208⟩ => q_fieldAddr fa_31_2 rfl rfl) ?_
  refine HA.val (k := 1) (v := .int .i64 q_Kind) rfl rfl (by kernel_rfl) (by kernel_rfl) (want_none) rfl (fun _ ⟨hN_h_want, hL_q_Sources, hN_q_Records, hL_q_Records, hL_1, c1, c2, c209, c208⟩ => q_load to_3 rfl (Blk.cell c209 rfl)) ?_
  refine HA.val (k := 2) (v := .bool (!decide (q_Kind = 1))) rfl rfl (by kernel_rfl) (by kernel_rfl) (want_none) rfl (fun _ ⟨hN_h_want, hL_q_Sources, hN_q_Records, hL_q_Records, hL_1, c1, c2, c209, c208⟩ => q_neq rfl rfl) ?_
  refine HA.val (k := 3) (v := .bool (!decide (q_Kind = 1))) rfl rfl (by kernel_rfl) (by kernel_rfl) (want_none) rfl (fun _ ⟨hN_h_want, hL_q_Sources, hN_q_Records, hL_q_Records, hL_1, c1, c2, c209, c208⟩ => q_move rfl) ?_
  rcases Bool.eq_false_or_eq_true (!decide (q_Kind = 1)) with c_1 | c_1
  ·
   replace hM := hM.1 (nd_true c_1)
   refine HA.past (k := 4) rfl rfl (by kernel_rfl) (by kernel_rfl) (past_by rfl rfl c_1) rfl ?_
   refine HA.past (k := 5) rfl rfl (by kernel_rfl) (by kernel_rfl) (past_by rfl rfl c_1) rfl ?_
   refine HA.past (k := 6) rfl rfl (by kernel_rfl) (by kernel_rfl) (past_by rfl rfl c_1) rfl ?_
   refine HA.past (k := 7) rfl rfl (by kernel_rfl) (by kernel_rfl) (past_by rfl rfl c_1) rfl ?_
   refine HA.past (k := 8) rfl rfl (by kernel_rfl) (by kernel_rfl) (past_by rfl rfl c_1) rfl ?_
   refine HA.past (k := 9) rfl rfl (by kernel_rfl) (by kernel_rfl) (past_by rfl rfl c_1) rfl ?_
   refine HA.past (k := 10) rfl rfl (by kernel_rfl) (by kernel_rfl) (past_by rfl rfl c_1) rfl ?_
   refine HA.val (k := 11) (v := .bool true) rfl rfl (by kernel_rfl) (by kernel_rfl) (want_none) rfl (fun _ ⟨hN_h_want, hL_q_Sources, hN_q_Records, hL_q_Records, hL_1, c1, c2, c209, c208⟩ => q_pickK true rfl c_1 rfl) ?_
   refine HA.nil ⟨⟨hN_h_want.is, hL_q_Sources.is, hN_q_Records.is, hL_q_Records.is, hL_1.is, (hS.box 0 rfl), (hS.mp 1 rfl), (hS.box 2 rfl), (hS.box 3 rfl)⟩, (Go.Wk.at_nil _ _)⟩ (by kernel_rfl) (thenQ_normal (?_))
   replace hS : St F_1 (Ow.box bh 97 #[.bool a0_v6_2, .int .i64 a0_now_2, .map (some rh_want), .int .i64 a0_one_2, .int .i64 a0_two_2] :: Ow.map rh_want (fun (x : T_api_Addr) => .agg (e_api_Addr x).toArray) (fun (x : T_api_Filter) => .agg #[.bool x.1, x.2.1]) a0m_2 :: Ow.box b_1 56 (e_api_Tune t).toArray :: Ow.box b_2 31 (c_api_Talk (.bool q_V6) (.int .i64 q_Version) (.int .i64 q_Kind) (.int .i64 q_Resp) q_Group (.bool q_Quiet) (.int .i64 q_Robust) (.int .i64 q_Every) vq_Sources vq_Records).toArray :: fr) h_3 := hS.perm2 [0, 1, 3, 2] 4 rfl rfl
   exact ⟨F_1, true, rfl, rfl, rfl, rfl, rfl, hK, hS, hN_h_want, hL_q_Sources, hN_q_Records, hL_q_Records, hL_1, hM⟩
  ·
   replace hM := hM.2 (nd_false c_1)
   refine HA.val (k := 4) (v := .pointer (some ⟨b_2, 0, none⟩)) rfl rfl (by kernel_rfl) (by kernel_rfl) (want_by rfl rfl c_1) rfl (fun _ ⟨hN_h_want, hL_q_Sources, hN_q_Records, hL_q_Records, hL_1, c1, c2, c209, c208⟩ => q_fieldAddr fa_31_0 rfl rfl) ?_
   refine HA.val (k := 5) (v := .bool q_V6) rfl rfl (by kernel_rfl) (by kernel_rfl) (want_by rfl rfl c_1) rfl (fun _ ⟨hN_h_want, hL_q_Sources, hN_q_Records, hL_q_Records, hL_1, c1, c2, c209, c208⟩ => q_load to_4 rfl (Blk.cell c209 rfl)) ?_
   refine HA.val (k := 6) (v := .pointer (some ⟨bh, 0, none⟩)) rfl rfl (by kernel_rfl) (by kernel_rfl) (want_by rfl rfl c_1) rfl (fun _ ⟨hN_h_want, hL_q_Sources, hN_q_Records, hL_q_Records, hL_1, c1, c2, c209, c208⟩ => q_move rfl) ?_
   refine HA.val (k := 7) (v := .pointer (some ⟨bh, 0, none⟩)) rfl rfl (by kernel_rfl) (by kernel_rfl) (want_by rfl rfl c_1) rfl (fun _ ⟨hN_h_want, hL_q_Sources, hN_q_Records, hL_q_Records, hL_1, c1, c2, c209, c208⟩ => q_nilCheck rfl) ?_
   refine HA.val (k := 8) (v := .pointer (some ⟨bh, 0, none⟩)) rfl rfl (by kernel_rfl) (by kernel_rfl) (want_by rfl rfl c_1) rfl (fun _ ⟨hN_h_want, hL_q_Sources, hN_q_Records, hL_q_Records, hL_1, c1, c2, c209, c208⟩ => q_fieldAddr fa_97_0 rfl rfl) ?_
   refine HA.val (k := 9) (v := .bool a0_v6_2) rfl rfl (by kernel_rfl) (by kernel_rfl) (want_by rfl rfl c_1) rfl (fun _ ⟨hN_h_want, hL_q_Sources, hN_q_Records, hL_q_Records, hL_1, c1, c2, c209, c208⟩ => q_load to_4 rfl (Blk.cell c1 rfl)) ?_
   refine HA.val (k := 10) (v := .bool (!(q_V6 == a0_v6_2))) rfl rfl (by kernel_rfl) (by kernel_rfl) (want_by rfl rfl c_1) rfl (fun _ ⟨hN_h_want, hL_q_Sources, hN_q_Records, hL_q_Records, hL_1, c1, c2, c209, c208⟩ => q_neqB Tryz.underlying4 rfl rfl) ?_
   refine HA.val (k := 11) (v := .bool (!(q_V6 == a0_v6_2))) rfl rfl (by kernel_rfl) (by kernel_rfl) (want_none) rfl (fun _ ⟨hN_h_want, hL_q_Sources, hN_q_Records, hL_q_Records, hL_1, c1, c2, c209, c208⟩ => q_pickK false rfl c_1 rfl) ?_
   refine HA.nil ⟨⟨hN_h_want.is, hL_q_Sources.is, hN_q_Records.is, hL_q_Records.is, hL_1.is, (hS.box 0 rfl), (hS.mp 1 rfl), (hS.box 2 rfl), (hS.box 3 rfl)⟩, (Go.Wk.at_nil _ _)⟩ (by kernel_rfl) (thenQ_normal (?_))
   replace hS : St F_1 (Ow.box bh 97 #[.bool a0_v6_2, .int .i64 a0_now_2, .map (some rh_want), .int .i64 a0_one_2, .int .i64 a0_two_2] :: Ow.map rh_want (fun (x : T_api_Addr) => .agg (e_api_Addr x).toArray) (fun (x : T_api_Filter) => .agg #[.bool x.1, x.2.1]) a0m_2 :: Ow.box b_1 56 (e_api_Tune t).toArray :: Ow.box b_2 31 (c_api_Talk (.bool q_V6) (.int .i64 q_Version) (.int .i64 q_Kind) (.int .i64 q_Resp) q_Group (.bool q_Quiet) (.int .i64 q_Robust) (.int .i64 q_Every) vq_Sources vq_Records).toArray :: fr) h_3 := hS.perm2 [0, 1, 3, 2] 4 rfl rfl
   exact ⟨F_1, !(q_V6 == a0_v6_2), rfl, rfl, rfl, rfl, rfl, hK, hS, hN_h_want, hL_q_Sources, hN_q_Records, hL_q_Records, hL_1, hM⟩
 ·
  rintro f_1 h_4 ⟨F_2, b_3, e0, e6, e7, e8, e31, hK, hS, hN_h_want, hL_q_Sources, hN_q_Records, hL_q_Records, hL_1, hM⟩
  unfold host_Host_Hear_j1 at hM
  refine HW.fr [(0, .pointer (some ⟨bh, 0, none⟩)), (6, .pointer (some ⟨b_1, 0, none⟩)), (7, .pointer (some ⟨b_2, 0, none⟩)), (8, .slice none 0 0), (31, .bool b_3)] ⟨e0, e6, e7, e8, e31, trivial⟩ ?_
  refine HW.cond b_3 rfl (fun c_2 => ?_) (fun c_2 => ?_)
  ·
   replace hM := hM.1 c_2
   refine HW.seq ?_
   refine HW.region ?_
   refine oA (.slice none 0 0) rfl rfl ?_
   refine HO.nil (thenQ_normal (?_))
   refine HW.ret (thenQ_ret (?_))
   refine ⟨.inr rfl, .slice none 0 0, res1 rfl (rt rfl), ?_⟩
   replace hS := hS.nilOwn 31 26 e_api_Talk
   have hN_4 : NfL nf_api_Talk F_2 h_4 ([] : List T_api_Talk) := NfL.nil _ _ _
   replace hS : St F_2 (Ow.own 31 26 e_api_Talk (.slice none 0 0) ([] : List T_api_Talk) :: Ow.box bh 97 #[.bool a0_v6_2, .int .i64 a0_now_2, .map (some rh_want), .int .i64 a0_one_2, .int .i64 a0_two_2] :: Ow.map rh_want (fun (x : T_api_Addr) => .agg (e_api_Addr x).toArray) (fun (x : T_api_Filter) => .agg #[.bool x.1, x.2.1]) a0m_2 :: fr) h_4 := hS.perm2 [0, 1, 2] 5 rfl rfl
   exact ⟨F_2, [], a0_v6_2, a0_now_2, a0m_2, a0_one_2, a0_two_2, .slice none 0 0, rfl, hK, hS, hN_h_want, hL_q_Sources, hN_q_Records, hL_q_Records, hN_4, hL_1, hM⟩
  ·
   replace hM := hM.2 c_2
   refine HW.skip (thenQ_normal (?_))
   refine HW.seq_mid (fun f h => ∃ (F' : Fz) (a0_3_2 : Int) (a0_4_2 : Int), f 0 = .pointer (some ⟨bh, 0, none⟩) ∧ f 7 = .pointer (some ⟨b_2, 0, none⟩) ∧ f 8 = .slice none 0 0 ∧ Kp F h0 F' h ∧ St F' (Ow.box bh 97 #[.bool a0_v6_2, .int .i64 a0_now_2, .map (some rh_want), .int .i64 a0_3_2, .int .i64 a0_4_2] :: Ow.map rh_want (fun (x : T_api_Addr) => .agg (e_api_Addr x).toArray) (fun (x : T_api_Filter) => .agg #[.bool x.1, x.2.1]) a0m_2 :: Ow.box b_2 31 (c_api_Talk (.bool q_V6) (.int .i64 q_Version) (.int .i64 q_Kind) (.int .i64 q_Resp) q_Group (.bool q_Quiet) (.int .i64 q_Robust) (.int .i64 q_Every) vq_Sources vq_Records).toArray :: fr) h ∧ (NfL nf_api_Filter F' h (h_want.map (·.2))) ∧ (SliceF F' h 17 e_api_Addr vq_Sources q_Sources) ∧ (NfL nf_api_Record F' h q_Records) ∧ (SliceF F' h 19 e_api_Record vq_Records q_Records) ∧ (NfL nf_api_Filter F' h (a0m_2.map (·.2))) ∧ host_Host_Hear_j2 q_V6 q_Version q_Kind q_Resp q_Group q_Quiet q_Robust q_Every q_Sources q_Records Q a0_v6_2 a0_now_2 a0m_2 a0_3_2 a0_4_2) ?_ ?_
   ·
    refine HW.block ?_
    refine HW.seq ?_
    refine HW.region ?_
    refine oV (.pointer (some ⟨b_2, 1, none⟩)) (q_fieldAddr fa_31_1 rfl rfl) rfl ?_
    refine oV (.int .i64 q_Version) (q_load to_3 rfl (Blk.cell (hS.box 3 rfl) rfl)) rfl ?_
    refine oV (.bool (decide (q_Version = 1))) (q_eql rfl rfl) rfl ?_
    refine oA (.bool (decide (q_Version = 1))) rfl rfl ?_
    refine HO.nil (thenQ_normal (?_))
    refine HW.cond (decide (q_Version = 1)) rfl (fun c_3 => ?_) (fun c_3 => ?_)
    ·
     replace hM := hM.1 (of_decide_eq_true c_3)
     refine HW.regionA 11 mixed (fun h => (Blk h b_1 (.cells (e_api_Tune t).toArray 56 (0, 0)))) [(10, fun h => (Blk h bh (.cells #[.bool a0_v6_2, .int .i64 a0_now_2, .map (some rh_want), .int .i64 a0_one_2, .int .i64 a0_two_2] 97 (0, 0))))] (by kernel_rfl) ?_
     refine HA.val (k := 0) (v := .pointer (some ⟨bh, 0, none⟩)) rfl rfl (by kernel_rfl) (by kernel_rfl) (want_none) rfl (fun _ c212 => q_move rfl) ?_
     refine HA.val (k := 1) (v := .pointer (some ⟨bh, 0, none⟩)) rfl rfl (by kernel_rfl) (by kernel_rfl) (want_none) rfl (fun _ c212 => q_move rfl) ?_
     refine HA.val (k := 2) (v := .pointer (some ⟨bh, 0, none⟩)) rfl rfl (by kernel_rfl) (by kernel_rfl) (want_none) rfl (fun _ c212 => q_nilCheck rfl) ?_
     refine HA.val (k := 3) (v := .pointer (some ⟨bh, 1, none⟩)) rfl rfl (by kernel_rfl) (by kernel_rfl) (want_none) rfl (fun _ c212 => q_fieldAddr fa_97_1 rfl rfl) ?_
     refine Go.Wk.HA.valN (k := 4) (v := .int .i64 a0_now_2) 0 10 (fun h => (Blk h bh (.cells #[.bool a0_v6_2, .int .i64 a0_now_2, .map (some rh_want), .int .i64 a0_one_2, .int .i64 a0_two_2] 97 (0, 0)))) rfl rfl (by kernel_rfl) (by kernel_rfl) (want_none) rfl rfl (by kernel_rfl) (fun _ c212 c210 => q_load to_3 rfl (Blk.cell c210 rfl)) ?_
     refine HA.val (k := 5) (v := .agg (e_api_Tune t).toArray) rfl rfl (by kernel_rfl) (by kernel_rfl) (want_none) rfl (fun _ c212 => q_loadAgg (cs := (e_api_Tune t)) ta_56 rfl rfl (Blk.cells (k := 5) c212 rfl)) ?_
     refine HA.one (k := 6) ⟨(hS.box 2 rfl), (at_now (hS.box 0 rfl) (Go.Wk.at_nil _ _))⟩ (by kernel_rfl) ?_
     refine HS.call rfl (want_none) rfl (ec en_57 rfl rfl) (tune_Older_walk (fr := (Ow.box bh 97 #[.bool a0_v6_2, .int .i64 a0_now_2, .map (some rh_want), .int .i64 a0_one_2, .int .i64 a0_two_2] :: Ow.map rh_want (fun (x : T_api_Addr) => .agg (e_api_Addr x).toArray) (fun (x : T_api_Filter) => .agg #[.bool x.1, x.2.1]) a0m_2 :: Ow.box b_1 56 (e_api_Tune t).toArray :: Ow.box b_2 31 (c_api_Talk (.bool q_V6) (.int .i64 q_Version) (.int .i64 q_Kind) (.int .i64 q_Resp) q_Group (.bool q_Quiet) (.int .i64 q_Robust) (.int .i64 q_Every) vq_Sources vq_Records).toArray :: fr)) t hS hM) ?_
     rintro _ h_5 ⟨F_3, r_3, rfl, hk, hS, hM⟩
     replace hK := hK.trans hk
     replace hN_h_want := hN_h_want.kp hk
     replace hL_q_Sources := hL_q_Sources.kp hk
     replace hN_q_Records := hN_q_Records.kp hk
     replace hL_q_Records := hL_q_Records.kp hk
     replace hL_1 := hL_1.kp hk
     obtain ⟨ho_1, hM⟩ := hM
     refine HA.val (k := 7) (v := .int .i64 (a0_now_2 + r_3)) rfl rfl (by kernel_rfl) (by kernel_rfl) (want_none) rfl (fun _ c212 => q_addN _ rfl rfl rfl ho_1.1 ho_1.2) ?_
     refine HA.val (k := 8) (v := .pointer (some ⟨bh, 0, none⟩)) rfl rfl (by kernel_rfl) (by kernel_rfl) (want_none) rfl (fun _ c212 => q_nilCheck rfl) ?_
     refine HA.val (k := 9) (v := .pointer (some ⟨bh, 3, none⟩)) rfl rfl (by kernel_rfl) (by kernel_rfl) (want_none) rfl (fun _ c212 => q_fieldAddr fa_97_3 rfl rfl) ?_
     refine HA.one (k := 10) ⟨(hS.box 2 rfl), (at_now (hS.box 0 rfl) (Go.Wk.at_nil _ _))⟩ (by kernel_rfl) ?_
     refine HS.sto rfl (want_none) rfl (st_store (c' := #[.bool a0_v6_2, .int .i64 a0_now_2, .map (some rh_want), .int .i64 (a0_now_2 + r_3), .int .i64 a0_two_2]) hS (i := 0) rfl to_3 rfl rfl rfl rfl (Nat.le_of_ble_eq_true rfl) rfl) ?_
     rintro h_6 ⟨hS, hk⟩
     replace hK := hK.trans hk
     replace hN_h_want := hN_h_want.kp hk
     replace hL_q_Sources := hL_q_Sources.kp hk
     replace hN_q_Records := hN_q_Records.kp hk
     replace hL_q_Records := hL_q_Records.kp hk
     replace hL_1 := hL_1.kp hk
     refine HA.nil ⟨(hS.box 2 rfl), (at_done (by kernel_rfl) (Go.Wk.at_nil _ _))⟩ (by kernel_rfl) (blockQ_normal (thenQ_normal (?_)))
     replace hS : St F_3 (Ow.box bh 97 #[.bool a0_v6_2, .int .i64 a0_now_2, .map (some rh_want), .int .i64 (a0_now_2 + r_3), .int .i64 a0_two_2] :: Ow.map rh_want (fun (x : T_api_Addr) => .agg (e_api_Addr x).toArray) (fun (x : T_api_Filter) => .agg #[.bool x.1, x.2.1]) a0m_2 :: Ow.box b_2 31 (c_api_Talk (.bool q_V6) (.int .i64 q_Version) (.int .i64 q_Kind) (.int .i64 q_Resp) q_Group (.bool q_Quiet) (.int .i64 q_Robust) (.int .i64 q_Every) vq_Sources vq_Records).toArray :: fr) h_6 := hS.perm2 [0, 1, 3] 4 rfl rfl
     exact ⟨F_3, a0_now_2 + r_3, a0_two_2, rfl, rfl, rfl, hK, hS, hN_h_want, hL_q_Sources, hN_q_Records, hL_q_Records, hL_1, hM⟩
    ·
     replace hM := hM.2 (of_decide_eq_false c_3)
     refine HW.seq_mid (fun f h => ∃ (F' : Fz) (b_4 : Bool), f 0 = .pointer (some ⟨bh, 0, none⟩) ∧ f 6 = .pointer (some ⟨b_1, 0, none⟩) ∧ f 7 = .pointer (some ⟨b_2, 0, none⟩) ∧ f 8 = .slice none 0 0 ∧ f 46 = .bool b_4 ∧ Kp F h0 F' h ∧ St F' (Ow.box bh 97 #[.bool a0_v6_2, .int .i64 a0_now_2, .map (some rh_want), .int .i64 a0_one_2, .int .i64 a0_two_2] :: Ow.map rh_want (fun (x : T_api_Addr) => .agg (e_api_Addr x).toArray) (fun (x : T_api_Filter) => .agg #[.bool x.1, x.2.1]) a0m_2 :: Ow.box b_1 56 (e_api_Tune t).toArray :: Ow.box b_2 31 (c_api_Talk (.bool q_V6) (.int .i64 q_Version) (.int .i64 q_Kind) (.int .i64 q_Resp) q_Group (.bool q_Quiet) (.int .i64 q_Robust) (.int .i64 q_Every) vq_Sources vq_Records).toArray :: fr) h ∧ (NfL nf_api_Filter F' h (h_want.map (·.2))) ∧ (SliceF F' h 17 e_api_Addr vq_Sources q_Sources) ∧ (NfL nf_api_Record F' h q_Records) ∧ (SliceF F' h 19 e_api_Record vq_Records q_Records) ∧ (NfL nf_api_Filter F' h (a0m_2.map (·.2))) ∧ host_Host_Hear_j3 t q_V6 q_Version q_Kind q_Resp q_Group q_Quiet q_Robust q_Every q_Sources q_Records Q a0_v6_2 a0_now_2 a0m_2 a0_one_2 a0_two_2 b_4) ?_ ?_
     ·
      refine HW.region ?_
      refine oV (.pointer (some ⟨b_2, 1, none⟩)) (q_fieldAddr fa_31_1 rfl rfl) rfl ?_
      refine oV (.int .i64 q_Version) (q_load to_3 rfl (Blk.cell (hS.box 3 rfl) rfl)) rfl ?_
      refine oV (.bool (decide (q_Version = 2))) (q_eql rfl rfl) rfl ?_
      refine oM (.bool (decide (q_Version = 2))) rfl rfl ?_
      rcases Bool.eq_false_or_eq_true (decide (q_Version = 2)) with c_4 | c_4
      ·
       replace hM := hM.1 (of_decide_eq_true c_4)
       refine HO.val (v := .pointer (some ⟨bh, 0, none⟩)) (want_by rfl rfl c_4) rfl (q_move rfl) ?_
       refine HO.val (v := .pointer (some ⟨bh, 0, none⟩)) (want_by rfl rfl c_4) rfl (q_nilCheck rfl) ?_
       refine HO.val (v := .pointer (some ⟨bh, 0, none⟩)) (want_by rfl rfl c_4) rfl (q_fieldAddr fa_97_0 rfl rfl) ?_
       refine HO.val (v := .bool a0_v6_2) (want_by rfl rfl c_4) rfl (q_load to_4 rfl (Blk.cell (hS.box 0 rfl) rfl)) ?_
       refine HO.val (v := .bool (!a0_v6_2)) (want_by rfl rfl c_4) rfl (q_not rfl) ?_
       refine oV (.bool (!a0_v6_2)) (q_pickK true rfl c_4 rfl) rfl ?_
       refine oA (.bool (!a0_v6_2)) rfl rfl ?_
       refine HO.nil (thenQ_normal (?_))
       exact ⟨F_2, !a0_v6_2, rfl, rfl, rfl, rfl, rfl, hK, hS, hN_h_want, hL_q_Sources, hN_q_Records, hL_q_Records, hL_1, hM⟩
      ·
       replace hM := hM.2 (of_decide_eq_false c_4)
       refine HO.past (past_by rfl rfl c_4) rfl ?_
       refine HO.past (past_by rfl rfl c_4) rfl ?_
       refine HO.past (past_by rfl rfl c_4) rfl ?_
       refine HO.past (past_by rfl rfl c_4) rfl ?_
       refine HO.past (past_by rfl rfl c_4) rfl ?_
       refine oV (.bool false) (q_pickK false rfl c_4 rfl) rfl ?_
       refine oA (.bool false) rfl rfl ?_
       refine HO.nil (thenQ_normal (?_))
       exact ⟨F_2, false, rfl, rfl, rfl, rfl, rfl, hK, hS, hN_h_want, hL_q_Sources, hN_q_Records, hL_q_Records, hL_1, hM⟩
     ·
      rintro f_2 h_7 ⟨F_4, b_4, e0, e6, e7, e8, e46, hK, hS, hN_h_want, hL_q_Sources, hN_q_Records, hL_q_Records, hL_1, hM⟩
      unfold host_Host_Hear_j3 at hM
      refine HW.fr [(0, .pointer (some ⟨bh, 0, none⟩)), (6, .pointer (some ⟨b_1, 0, none⟩)), (7, .pointer (some ⟨b_2, 0, none⟩)), (8, .slice none 0 0), (46, .bool b_4)] ⟨e0, e6, e7, e8, e46, trivial⟩ ?_
      refine HW.cond b_4 rfl (fun c_5 => ?_) (fun c_5 => ?_)
      ·
       replace hM := hM.1 c_5
       refine HW.regionA 11 mixed (fun h => (Blk h b_1 (.cells (e_api_Tune t).toArray 56 (0, 0)))) [(10, fun h => (Blk h bh (.cells #[.bool a0_v6_2, .int .i64 a0_now_2, .map (some rh_want), .int .i64 a0_one_2, .int .i64 a0_two_2] 97 (0, 0))))] (by kernel_rfl) ?_
       refine HA.val (k := 0) (v := .pointer (some ⟨bh, 0, none⟩)) rfl rfl (by kernel_rfl) (by kernel_rfl) (want_none) rfl (fun _ c219 => q_move rfl) ?_
       refine HA.val (k := 1) (v := .pointer (some ⟨bh, 0, none⟩)) rfl rfl (by kernel_rfl) (by kernel_rfl) (want_none) rfl (fun _ c219 => q_move rfl) ?_
       refine HA.val (k := 2) (v := .pointer (some ⟨bh, 0, none⟩)) rfl rfl (by kernel_rfl) (by kernel_rfl) (want_none) rfl (fun _ c219 => q_nilCheck rfl) ?_
       refine HA.val (k := 3) (v := .pointer (some ⟨bh, 1, none⟩)) rfl rfl (by kernel_rfl) (by kernel_rfl) (want_none) rfl (fun _ c219 => q_fieldAddr fa_97_1 rfl rfl) ?_
       refine Go.Wk.HA.valN (k := 4) (v := .int .i64 a0_now_2) 0 10 (fun h => (Blk h bh (.cells #[.bool a0_v6_2, .int .i64 a0_now_2, .map (some rh_want), .int .i64 a0_one_2, .int .i64 a0_two_2] 97 (0, 0)))) rfl rfl (by kernel_rfl) (by kernel_rfl) (want_none) rfl rfl (by kernel_rfl) (fun _ c219 c217 => q_load to_3 rfl (Blk.cell c217 rfl)) ?_
       refine HA.val (k := 5) (v := .agg (e_api_Tune t).toArray) rfl rfl (by kernel_rfl) (by kernel_rfl) (want_none) rfl (fun _ c219 => q_loadAgg (cs := (e_api_Tune t)) ta_56 rfl rfl (Blk.cells (k := 5) c219 rfl)) ?_
       refine HA.one (k := 6) ⟨(hS.box 2 rfl), (at_now (hS.box 0 rfl) (Go.Wk.at_nil _ _))⟩ (by kernel_rfl) ?_
       refine HS.call rfl (want_none) rfl (ec en_57 rfl rfl) (tune_Older_walk (fr := (Ow.box bh 97 #[.bool a0_v6_2, .int .i64 a0_now_2, .map (some rh_want), .int .i64 a0_one_2, .int .i64 a0_two_2] :: Ow.map rh_want (fun (x : T_api_Addr) => .agg (e_api_Addr x).toArray) (fun (x : T_api_Filter) => .agg #[.bool x.1, x.2.1]) a0m_2 :: Ow.box b_1 56 (e_api_Tune t).toArray :: Ow.box b_2 31 (c_api_Talk (.bool q_V6) (.int .i64 q_Version) (.int .i64 q_Kind) (.int .i64 q_Resp) q_Group (.bool q_Quiet) (.int .i64 q_Robust) (.int .i64 q_Every) vq_Sources vq_Records).toArray :: fr)) t hS hM) ?_
       rintro _ h_8 ⟨F_5, r_4, rfl, hk, hS, hM⟩
       replace hK := hK.trans hk
       replace hN_h_want := hN_h_want.kp hk
       replace hL_q_Sources := hL_q_Sources.kp hk
       replace hN_q_Records := hN_q_Records.kp hk
       replace hL_q_Records := hL_q_Records.kp hk
       replace hL_1 := hL_1.kp hk
       obtain ⟨ho_2, hM⟩ := hM
       refine HA.val (k := 7) (v := .int .i64 (a0_now_2 + r_4)) rfl rfl (by kernel_rfl) (by kernel_rfl) (want_none) rfl (fun _ c219 => q_addN _ rfl rfl rfl ho_2.1 ho_2.2) ?_
       refine HA.val (k := 8) (v := .pointer (some ⟨bh, 0, none⟩)) rfl rfl (by kernel_rfl) (by kernel_rfl) (want_none) rfl (fun _ c219 => q_nilCheck rfl) ?_
       refine HA.val (k := 9) (v := .pointer (some ⟨bh, 4, none⟩)) rfl rfl (by kernel_rfl) (by kernel_rfl) (want_none) rfl (fun _ c219 => q_fieldAddr fa_97_4 rfl rfl) ?_
       refine HA.one (k := 10) ⟨(hS.box 2 rfl), (at_now (hS.box 0 rfl) (Go.Wk.at_nil _ _))⟩ (by kernel_rfl) ?_
       refine HS.sto rfl (want_none) rfl (st_store (c' := #[.bool a0_v6_2, .int .i64 a0_now_2, .map (some rh_want), .int .i64 a0_one_2, .int .i64 (a0_now_2 + r_4)]) hS (i := 0) rfl to_3 rfl rfl rfl rfl (Nat.le_of_ble_eq_true rfl) rfl) ?_
       rintro h_9 ⟨hS, hk⟩
       replace hK := hK.trans hk
       replace hN_h_want := hN_h_want.kp hk
       replace hL_q_Sources := hL_q_Sources.kp hk
       replace hN_q_Records := hN_q_Records.kp hk
       replace hL_q_Records := hL_q_Records.kp hk
       replace hL_1 := hL_1.kp hk
       refine HA.nil ⟨(hS.box 2 rfl), (at_done (by kernel_rfl) (Go.Wk.at_nil _ _))⟩ (by kernel_rfl) (blockQ_normal (thenQ_normal (?_)))
       replace hS : St F_5 (Ow.box bh 97 #[.bool a0_v6_2, .int .i64 a0_now_2, .map (some rh_want), .int .i64 a0_one_2, .int .i64 (a0_now_2 + r_4)] :: Ow.map rh_want (fun (x : T_api_Addr) => .agg (e_api_Addr x).toArray) (fun (x : T_api_Filter) => .agg #[.bool x.1, x.2.1]) a0m_2 :: Ow.box b_2 31 (c_api_Talk (.bool q_V6) (.int .i64 q_Version) (.int .i64 q_Kind) (.int .i64 q_Resp) q_Group (.bool q_Quiet) (.int .i64 q_Robust) (.int .i64 q_Every) vq_Sources vq_Records).toArray :: fr) h_9 := hS.perm2 [0, 1, 3] 4 rfl rfl
       exact ⟨F_5, a0_one_2, a0_now_2 + r_4, rfl, rfl, rfl, hK, hS, hN_h_want, hL_q_Sources, hN_q_Records, hL_q_Records, hL_1, hM⟩
      ·
       replace hM := hM.2 c_5
       refine HW.skip (blockQ_normal (thenQ_normal (?_)))
       replace hS : St F_4 (Ow.box bh 97 #[.bool a0_v6_2, .int .i64 a0_now_2, .map (some rh_want), .int .i64 a0_one_2, .int .i64 a0_two_2] :: Ow.map rh_want (fun (x : T_api_Addr) => .agg (e_api_Addr x).toArray) (fun (x : T_api_Filter) => .agg #[.bool x.1, x.2.1]) a0m_2 :: Ow.box b_2 31 (c_api_Talk (.bool q_V6) (.int .i64 q_Version) (.int .i64 q_Kind) (.int .i64 q_Resp) q_Group (.bool q_Quiet) (.int .i64 q_Robust) (.int .i64 q_Every) vq_Sources vq_Records).toArray :: fr) h_7 := hS.perm2 [0, 1, 3] 4 rfl rfl
       exact ⟨F_4, a0_one_2, a0_two_2, rfl, rfl, rfl, hK, hS, hN_h_want, hL_q_Sources, hN_q_Records, hL_q_Records, hL_1, hM⟩
   ·
    rintro f_3 h_10 ⟨F_6, a0_3_2, a0_4_2, e0, e7, e8, hK, hS, hN_h_want, hL_q_Sources, hN_q_Records, hL_q_Records, hL_1, hM⟩
    unfold host_Host_Hear_j2 at hM
    refine HW.fr [(0, .pointer (some ⟨bh, 0, none⟩)), (7, .pointer (some ⟨b_2, 0, none⟩)), (8, .slice none 0 0)] ⟨e0, e7, e8, trivial⟩ ?_
    refine HW.seq ?_
    refine HW.region ?_
    refine oA (.slice none 0 0) rfl rfl ?_
    refine HO.nil (thenQ_normal (?_))
    refine HW.seq ?_
    refine HW.region ?_
    refine oA (.slice none 0 0) rfl rfl ?_
    refine HO.nil (thenQ_normal (?_))
    refine HW.seq ?_
    refine HW.seq ?_
    refine HW.region ?_
    refine oM (.pointer (some ⟨bh, 0, none⟩)) rfl rfl ?_
    replace hS : St F_6 (Ow.box bh 97 #[.bool a0_v6_2, .int .i64 a0_now_2, .map (some rh_want), .int .i64 a0_3_2, .int .i64 a0_4_2] :: Ow.map rh_want (fun (x : T_api_Addr) => .agg (e_api_Addr x).toArray) (fun (x : T_api_Filter) => .agg #[.bool x.1, x.2.1]) a0m_2 :: Ow.box b_2 31 (c_api_Talk (.bool q_V6) (.int .i64 q_Version) (.int .i64 q_Kind) (.int .i64 q_Resp) q_Group (.bool q_Quiet) (.int .i64 q_Robust) (.int .i64 q_Every) vq_Sources vq_Records).toArray :: fr) h_10 := hS
    have hZ_1 := hS
    have hkz_1 := (hS.freeze).2
    replace hS := hS.freeze.1
    have hL_2 := hZ_1.lent
    replace hS : St (fun bz_ => F_6 bz_ ∨ (Ow.box bh 97 #[.bool a0_v6_2, .int .i64 a0_now_2, .map (some rh_want), .int .i64 a0_3_2, .int .i64 a0_4_2]).foot bz_) (Ow.map rh_want (fun (x : T_api_Addr) => .agg (e_api_Addr x).toArray) (fun (x : T_api_Filter) => .agg #[.bool x.1, x.2.1]) a0m_2 :: Ow.box b_2 31 (c_api_Talk (.bool q_V6) (.int .i64 q_Version) (.int .i64 q_Kind) (.int .i64 q_Resp) q_Group (.bool q_Quiet) (.int .i64 q_Robust) (.int .i64 q_Every) vq_Sources vq_Records).toArray :: fr) h_10 := hS
    have hZ_2 := hS
    have hkz_2 := (hS.freeze).2
    replace hS := hS.freeze.1
    have hL_3 := hZ_2.lent
    refine HO.call (want_none) rfl (ec en_58 rfl rfl) (host_Host_groups_walk (fr := (Ow.box b_2 31 (c_api_Talk (.bool q_V6) (.int .i64 q_Version) (.int .i64 q_Kind) (.int .i64 q_Resp) q_Group (.bool q_Quiet) (.int .i64 q_Robust) (.int .i64 q_Every) vq_Sources vq_Records).toArray :: fr)) a0_v6_2 a0_now_2 a0m_2 a0_3_2 a0_4_2 bh rh_want hS (NfL.kp (NfL.kp hL_1 hkz_1) hkz_2) hL_3 (hL_2.kp hkz_2) hM) ?_
    rintro vr_2 h_11 ⟨F_7, r_5, _, rfl, hk, hS, _, _, _, hM⟩
    obtain ⟨hS, hk⟩ := hZ_2.back hk hS
    obtain ⟨hS, hk⟩ := hZ_1.back hk hS
    generalize (fun bz_ => (fun bz_ => F_7 bz_ ∧ ¬ (Ow.map rh_want (fun (x : T_api_Addr) => .agg (e_api_Addr x).toArray) (fun (x : T_api_Filter) => .agg #[.bool x.1, x.2.1]) a0m_2).foot bz_) bz_ ∧ ¬ (Ow.box bh 97 #[.bool a0_v6_2, .int .i64 a0_now_2, .map (some rh_want), .int .i64 a0_3_2, .int .i64 a0_4_2]).foot bz_) = F_8 at hS hk
    replace hK := hK.trans hk
    replace hN_h_want := hN_h_want.kp hk
    replace hL_q_Sources := hL_q_Sources.kp hk
    replace hN_q_Records := hN_q_Records.kp hk
    replace hL_q_Records := hL_q_Records.kp hk
    replace hL_1 := hL_1.kp hk
    refine oV (.int .i64 (r_5.length : Int)) (q_len ts_29 (shp (hS.own 2 rfl).slice) rfl rfl) rfl ?_
    refine oM (.int .i64 0) rfl rfl ?_
    refine HO.nil (thenQ_normal (?_))
    refine HW.block ?_
    obtain ⟨I_1, m_1, hI_1, hR_1⟩ := hM
    replace hS := hS.nilOwn 31 26 e_api_Talk
    have hN_8 : NfL nf_api_Talk F_8 h_11 ([] : List T_api_Talk) := NfL.nil _ _ _
    replace hS := hS.nilOwn 89 19 e_api_Record
    have hN_9 : NfL nf_api_Record F_8 h_11 ([] : List T_api_Record) := NfL.nil _ _ _
    replace hS : St F_8 (Ow.box bh 97 #[.bool a0_v6_2, .int .i64 a0_now_2, .map (some rh_want), .int .i64 a0_3_2, .int .i64 a0_4_2] :: Ow.map rh_want (fun (x : T_api_Addr) => .agg (e_api_Addr x).toArray) (fun (x : T_api_Filter) => .agg #[.bool x.1, x.2.1]) a0m_2 :: Ow.box b_2 31 (c_api_Talk (.bool q_V6) (.int .i64 q_Version) (.int .i64 q_Kind) (.int .i64 q_Resp) q_Group (.bool q_Quiet) (.int .i64 q_Robust) (.int .i64 q_Every) vq_Sources vq_Records).toArray :: Ow.own 31 26 e_api_Talk (.slice none 0 0) ([] : List T_api_Talk) :: Ow.own 89 19 e_api_Record (.slice none 0 0) ([] : List T_api_Record) :: Ow.own 28 17 e_api_Addr vr_2 r_5 :: fr) h_11 := hS.perm2 [2, 3, 5, 1, 0, 4] 6 rfl rfl
    refine HW.loop (S := Bool × Int × (List (T_api_Addr × T_api_Filter)) × Int × Int × List T_api_Talk × List T_api_Record × Int) (fun s f h => match s with | (a0_0_2, a0_1_2, a0_2_2, a0_3_3, a0_4_3, out_1, records_1, n_1) => ∃ (F' : Fz) (vout_1 : Value) (vrecords_1 : Value), f 0 = .pointer (some ⟨bh, 0, none⟩) ∧ f 7 = .pointer (some ⟨b_2, 0, none⟩) ∧ f 8 = .slice none 0 0 ∧ f 9 = vout_1 ∧ f 10 = vrecords_1 ∧ f 68 = vr_2 ∧ f 69 = .int .i64 (r_5.length : Int) ∧ f 70 = .int .i64 n_1 ∧ Kp F h0 F' h ∧ St F' (Ow.box bh 97 #[.bool a0_0_2, .int .i64 a0_1_2, .map (some rh_want), .int .i64 a0_3_3, .int .i64 a0_4_3] :: Ow.map rh_want (fun (x : T_api_Addr) => .agg (e_api_Addr x).toArray) (fun (x : T_api_Filter) => .agg #[.bool x.1, x.2.1]) a0_2_2 :: Ow.box b_2 31 (c_api_Talk (.bool q_V6) (.int .i64 q_Version) (.int .i64 q_Kind) (.int .i64 q_Resp) q_Group (.bool q_Quiet) (.int .i64 q_Robust) (.int .i64 q_Every) vq_Sources vq_Records).toArray :: Ow.own 31 26 e_api_Talk vout_1 out_1 :: Ow.own 89 19 e_api_Record vrecords_1 records_1 :: Ow.own 28 17 e_api_Addr vr_2 r_5 :: fr) h ∧ (NfL nf_api_Filter F' h (h_want.map (·.2))) ∧ (SliceF F' h 17 e_api_Addr vq_Sources q_Sources) ∧ (NfL nf_api_Record F' h q_Records) ∧ (SliceF F' h 19 e_api_Record vq_Records q_Records) ∧ (NfL nf_api_Filter F' h (a0m_2.map (·.2))) ∧ (NfL nf_api_Filter F' h (a0_2_2.map (·.2))) ∧ (NfL nf_api_Talk F' h out_1) ∧ (NfL nf_api_Record F' h records_1) ∧ I_1 (a0_0_2, a0_1_2, a0_2_2, a0_3_3, a0_4_3, out_1, records_1, n_1)) m_1 (a0_v6_2, a0_now_2, a0m_2, a0_3_2, a0_4_2, [], [], 0) ⟨F_8, .slice none 0 0, .slice none 0 0, rfl, rfl, rfl, rfl, rfl, rfl, rfl, rfl, hK, hS, hN_h_want, hL_q_Sources, hN_q_Records, hL_q_Records, hL_1, hL_1, hN_8, hN_9, hI_1⟩ ?_
    rintro ⟨a0_0_2, a0_1_2, a0_2_2, a0_3_3, a0_4_3, out_1, records_1, n_1⟩ f_4 h_12 ⟨F_9, vout_1, vrecords_1, e0, e7, e8, e9, e10, e68, e69, e70, hK, hS, hN_h_want, hL_q_Sources, hN_q_Records, hL_q_Records, hL_1, hN_5, hN_6, hN_7, hI0⟩
    obtain ⟨K_1, hKe_1⟩ : ∃ K : Bool → Int → (List (T_api_Addr × T_api_Filter)) → Int → Int → (List T_api_Talk) → (List T_api_Record) → Int → Prop, K = fun a0_0_2' a0_1_2' a0_2_2' a0_3_3' a0_4_3' out_1' records_1' n_1' => I_1 (a0_0_2', a0_1_2', a0_2_2', a0_3_3', a0_4_3', out_1', records_1', n_1') ∧ m_1 (a0_0_2', a0_1_2', a0_2_2', a0_3_3', a0_4_3', out_1', records_1', n_1') < m_1 (a0_0_2, a0_1_2, a0_2_2, a0_3_3, a0_4_3, out_1, records_1, n_1) := ⟨_, rfl⟩
    have hM : host_Host_Hear_l1 q_V6 q_Version q_Kind q_Resp q_Group q_Quiet q_Robust q_Every q_Sources q_Records Q r_5 K_1 a0_0_2 a0_1_2 a0_2_2 a0_3_3 a0_4_3 out_1 records_1 n_1 := by rw [hKe_1]; exact hR_1 (a0_0_2, a0_1_2, a0_2_2, a0_3_3, a0_4_3, out_1, records_1, n_1) hI0
    unfold host_Host_Hear_l1 at hM
    refine HW.fr [(0, .pointer (some ⟨bh, 0, none⟩)), (7, .pointer (some ⟨b_2, 0, none⟩)), (8, .slice none 0 0), (9, vout_1), (10, vrecords_1), (68, vr_2), (69, .int .i64 (r_5.length : Int)), (70, .int .i64 n_1)] ⟨e0, e7, e8, e9, e10, e68, e69, e70, trivial⟩ ?_
    refine HW.seq ?_
    refine HW.region ?_
    refine oV (.bool (decide (n_1 < (r_5.length : Int)))) (q_lss rfl rfl) rfl ?_
    refine HO.nil (thenQ_normal (?_))
    refine HW.seq ?_
    refine HW.cond (decide (n_1 < (r_5.length : Int))) rfl (fun c_6 => ?_) (fun c_6 => ?_)
    ·
     replace hM := hM.1 (of_decide_eq_true c_6)
     refine HW.skip (thenQ_normal (?_))
     refine HW.seq ?_
     refine HW.block ?_
     refine HW.seq ?_
     refine HW.region ?_
     obtain ⟨ho_3, hM⟩ := hM
     refine oV (elemPtr 17 vr_2 (n_1).toNat) (q_idx ts_29 (hS.own 5 rfl).slice rfl rfl ho_3) rfl ?_
     refine oV (.agg (e_api_Addr (gi r_5 n_1)).toArray) (q_ldElemAgg (cs := (e_api_Addr (gi r_5 n_1))) ta_28 (hS.own 5 rfl).slice rfl ho_3 rfl) rfl ?_
     refine HO.eff (want_none) rfl (st_alloc (c := (e_api_Addr (false, (default : Ba 16))).toArray) hS tz_28 rfl) ?_
     rintro _ h_13 ⟨b_5, rfl, hS, hk⟩
     replace hK := hK.trans hk
     replace hN_h_want := hN_h_want.kp hk
     replace hL_q_Sources := hL_q_Sources.kp hk
     replace hN_q_Records := hN_q_Records.kp hk
     replace hL_q_Records := hL_q_Records.kp hk
     replace hL_1 := hL_1.kp hk
     replace hN_5 := hN_5.kp hk
     replace hN_6 := hN_6.kp hk
     replace hN_7 := hN_7.kp hk
     refine HO.sto (want_none) rfl (st_storeAgg (c' := (e_api_Addr (gi r_5 n_1)).toArray) hS (i := 0) rfl ta_28 rfl rfl rfl (one_e_api_Addr _) (Nat.le_of_ble_eq_true rfl) rfl) ?_
     rintro h_14 ⟨hS, hk⟩
     replace hK := hK.trans hk
     replace hN_h_want := hN_h_want.kp hk
     replace hL_q_Sources := hL_q_Sources.kp hk
     replace hN_q_Records := hN_q_Records.kp hk
     replace hL_q_Records := hL_q_Records.kp hk
     replace hL_1 := hL_1.kp hk
     replace hN_5 := hN_5.kp hk
     replace hN_6 := hN_6.kp hk
     replace hN_7 := hN_7.kp hk
     refine HO.nil (thenQ_normal (?_))
     refine HW.block ?_
     refine HW.seq_mid (fun f h => ∃ (F' : Fz) (b_6 : Bool), f 0 = .pointer (some ⟨bh, 0, none⟩) ∧ f 7 = .pointer (some ⟨b_2, 0, none⟩) ∧ f 8 = .slice none 0 0 ∧ f 9 = vout_1 ∧ f 10 = vrecords_1 ∧ f 12 = .pointer (some ⟨b_5, 0, none⟩) ∧ f 68 = vr_2 ∧ f 69 = .int .i64 (r_5.length : Int) ∧ f 70 = .int .i64 n_1 ∧ f 91 = .bool b_6 ∧ Kp F h0 F' h ∧ St F' (Ow.box bh 97 #[.bool a0_0_2, .int .i64 a0_1_2, .map (some rh_want), .int .i64 a0_3_3, .int .i64 a0_4_3] :: Ow.map rh_want (fun (x : T_api_Addr) => .agg (e_api_Addr x).toArray) (fun (x : T_api_Filter) => .agg #[.bool x.1, x.2.1]) a0_2_2 :: Ow.box b_2 31 (c_api_Talk (.bool q_V6) (.int .i64 q_Version) (.int .i64 q_Kind) (.int .i64 q_Resp) q_Group (.bool q_Quiet) (.int .i64 q_Robust) (.int .i64 q_Every) vq_Sources vq_Records).toArray :: Ow.own 31 26 e_api_Talk vout_1 out_1 :: Ow.own 89 19 e_api_Record vrecords_1 records_1 :: Ow.box b_5 28 (e_api_Addr (gi r_5 n_1)).toArray :: Ow.own 28 17 e_api_Addr vr_2 r_5 :: fr) h ∧ (NfL nf_api_Filter F' h (h_want.map (·.2))) ∧ (SliceF F' h 17 e_api_Addr vq_Sources q_Sources) ∧ (NfL nf_api_Record F' h q_Records) ∧ (SliceF F' h 19 e_api_Record vq_Records q_Records) ∧ (NfL nf_api_Filter F' h (a0m_2.map (·.2))) ∧ (NfL nf_api_Filter F' h (a0_2_2.map (·.2))) ∧ (NfL nf_api_Talk F' h out_1) ∧ (NfL nf_api_Record F' h records_1) ∧ host_Host_Hear_j4 q_V6 q_Version q_Kind q_Resp q_Group q_Quiet q_Robust q_Every q_Sources q_Records r_5 a0_0_2 a0_1_2 a0_2_2 a0_3_3 a0_4_3 out_1 records_1 n_1 K_1 b_6) ?_ ?_
     ·
      refine HW.region ?_
      refine oV (.pointer (some ⟨b_2, 4, none⟩)) (q_fieldAddr fa_31_4 rfl rfl) rfl ?_
      refine oV (.agg (e_api_Addr q_Group).toArray) (q_loadAgg (cs := (e_api_Addr q_Group)) ta_28 rfl rfl (Blk.cells (k := 17) (hS.box 3 rfl) rfl)) rfl ?_
      refine HO.call (want_none) rfl (ec en_59 rfl rfl) (addr_Zero_walk (fr := (Ow.box b_5 28 (e_api_Addr (gi r_5 n_1)).toArray :: Ow.box bh 97 #[.bool a0_0_2, .int .i64 a0_1_2, .map (some rh_want), .int .i64 a0_3_3, .int .i64 a0_4_3] :: Ow.map rh_want (fun (x : T_api_Addr) => .agg (e_api_Addr x).toArray) (fun (x : T_api_Filter) => .agg #[.bool x.1, x.2.1]) a0_2_2 :: Ow.box b_2 31 (c_api_Talk (.bool q_V6) (.int .i64 q_Version) (.int .i64 q_Kind) (.int .i64 q_Resp) q_Group (.bool q_Quiet) (.int .i64 q_Robust) (.int .i64 q_Every) vq_Sources vq_Records).toArray :: Ow.own 31 26 e_api_Talk vout_1 out_1 :: Ow.own 89 19 e_api_Record vrecords_1 records_1 :: Ow.own 28 17 e_api_Addr vr_2 r_5 :: fr)) q_Group hS hM) ?_
      rintro _ h_15 ⟨F_10, r_6, rfl, hk, hS, hM⟩
      replace hK := hK.trans hk
      replace hN_h_want := hN_h_want.kp hk
      replace hL_q_Sources := hL_q_Sources.kp hk
      replace hN_q_Records := hN_q_Records.kp hk
      replace hL_q_Records := hL_q_Records.kp hk
      replace hL_1 := hL_1.kp hk
      replace hN_5 := hN_5.kp hk
      replace hN_6 := hN_6.kp hk
      replace hN_7 := hN_7.kp hk
      refine oV (.bool (!r_6)) (q_not rfl) rfl ?_
      refine oM (.bool (!r_6)) rfl rfl ?_
      rcases Bool.eq_false_or_eq_true (!r_6) with c_7 | c_7
      ·
       replace hM := hM.1 c_7
       refine HO.val (v := .pointer (some ⟨b_2, 4, none⟩)) (want_by rfl rfl c_7) rfl (q_fieldAddr fa_31_4 rfl rfl) ?_
       refine HO.val (v := .agg (e_api_Addr q_Group).toArray) (want_by rfl rfl c_7) rfl (q_loadAgg (cs := (e_api_Addr q_Group)) ta_28 rfl rfl (Blk.cells (k := 17) (hS.box 3 rfl) rfl)) ?_
       refine HO.val (v := .agg (e_api_Addr (gi r_5 n_1)).toArray) (want_by rfl rfl c_7) rfl (q_loadAgg (cs := (e_api_Addr (gi r_5 n_1))) ta_28 rfl rfl (Blk.cells (k := 17) (hS.box 0 rfl) rfl)) ?_
       refine HO.val (v := .bool (!decide ((q_Group : T_api_Addr) = (gi r_5 n_1)))) (want_by rfl rfl c_7) rfl (q_neqAgg (a := q_Group) (b := (gi r_5 n_1)) (fun a b w => teq_28 9997 a b w) (by kernel_rfl) rfl rfl rfl rfl) ?_
       refine oV (.bool (!decide ((q_Group : T_api_Addr) = (gi r_5 n_1)))) (q_pickK true rfl c_7 rfl) rfl ?_
       refine oA (.bool (!decide ((q_Group : T_api_Addr) = (gi r_5 n_1)))) rfl rfl ?_
       refine HO.nil (thenQ_normal (?_))
       replace hS : St F_10 (Ow.box bh 97 #[.bool a0_0_2, .int .i64 a0_1_2, .map (some rh_want), .int .i64 a0_3_3, .int .i64 a0_4_3] :: Ow.map rh_want (fun (x : T_api_Addr) => .agg (e_api_Addr x).toArray) (fun (x : T_api_Filter) => .agg #[.bool x.1, x.2.1]) a0_2_2 :: Ow.box b_2 31 (c_api_Talk (.bool q_V6) (.int .i64 q_Version) (.int .i64 q_Kind) (.int .i64 q_Resp) q_Group (.bool q_Quiet) (.int .i64 q_Robust) (.int .i64 q_Every) vq_Sources vq_Records).toArray :: Ow.own 31 26 e_api_Talk vout_1 out_1 :: Ow.own 89 19 e_api_Record vrecords_1 records_1 :: Ow.box b_5 28 (e_api_Addr (gi r_5 n_1)).toArray :: Ow.own 28 17 e_api_Addr vr_2 r_5 :: fr) h_15 := hS.perm2 [1, 2, 3, 4, 5, 0, 6] 7 rfl rfl
       exact ⟨F_10, !decide ((q_Group : T_api_Addr) = (gi r_5 n_1)), rfl, rfl, rfl, rfl, rfl, rfl, rfl, rfl, rfl, rfl, hK, hS, hN_h_want, hL_q_Sources, hN_q_Records, hL_q_Records, hL_1, hN_5, hN_6, hN_7, hM⟩
      ·
       replace hM := hM.2 c_7
       refine HO.past (past_by rfl rfl c_7) rfl ?_
       refine HO.past (past_by rfl rfl c_7) rfl ?_
       refine HO.past (past_by rfl rfl c_7) rfl ?_
       refine HO.past (past_by rfl rfl c_7) rfl ?_
       refine oV (.bool false) (q_pickK false rfl c_7 rfl) rfl ?_
       refine oA (.bool false) rfl rfl ?_
       refine HO.nil (thenQ_normal (?_))
       replace hS : St F_10 (Ow.box bh 97 #[.bool a0_0_2, .int .i64 a0_1_2, .map (some rh_want), .int .i64 a0_3_3, .int .i64 a0_4_3] :: Ow.map rh_want (fun (x : T_api_Addr) => .agg (e_api_Addr x).toArray) (fun (x : T_api_Filter) => .agg #[.bool x.1, x.2.1]) a0_2_2 :: Ow.box b_2 31 (c_api_Talk (.bool q_V6) (.int .i64 q_Version) (.int .i64 q_Kind) (.int .i64 q_Resp) q_Group (.bool q_Quiet) (.int .i64 q_Robust) (.int .i64 q_Every) vq_Sources vq_Records).toArray :: Ow.own 31 26 e_api_Talk vout_1 out_1 :: Ow.own 89 19 e_api_Record vrecords_1 records_1 :: Ow.box b_5 28 (e_api_Addr (gi r_5 n_1)).toArray :: Ow.own 28 17 e_api_Addr vr_2 r_5 :: fr) h_15 := hS.perm2 [1, 2, 3, 4, 5, 0, 6] 7 rfl rfl
       exact ⟨F_10, false, rfl, rfl, rfl, rfl, rfl, rfl, rfl, rfl, rfl, rfl, hK, hS, hN_h_want, hL_q_Sources, hN_q_Records, hL_q_Records, hL_1, hN_5, hN_6, hN_7, hM⟩
     ·
      rintro f_5 h_16 ⟨F_11, b_6, e0, e7, e8, e9, e10, e12, e68, e69, e70, e91, hK, hS, hN_h_want, hL_q_Sources, hN_q_Records, hL_q_Records, hL_1, hN_5, hN_6, hN_7, hM⟩
      unfold host_Host_Hear_j4 at hM
      refine HW.fr [(0, .pointer (some ⟨bh, 0, none⟩)), (7, .pointer (some ⟨b_2, 0, none⟩)), (8, .slice none 0 0), (9, vout_1), (10, vrecords_1), (12, .pointer (some ⟨b_5, 0, none⟩)), (68, vr_2), (69, .int .i64 (r_5.length : Int)), (70, .int .i64 n_1), (91, .bool b_6)] ⟨e0, e7, e8, e9, e10, e12, e68, e69, e70, e91, trivial⟩ ?_
      refine HW.cond b_6 rfl (fun c_8 => ?_) (fun c_8 => ?_)
      ·
       replace hM := hM.1 c_8
       refine HW.skip (blockQ_normal (blockQ_normal (thenQ_normal (?_))))
       refine HW.region ?_
       obtain ⟨ho_4, hM⟩ := hM
       refine oV (.int .i64 (n_1 + 1)) (q_addN _ rfl rfl rfl ho_4.1 ho_4.2) rfl ?_
       refine oM (.int .i64 (n_1 + 1)) rfl rfl ?_
       refine HO.nil (thenQ_normal (?_))
       replace hS : St F_11 (Ow.box bh 97 #[.bool a0_0_2, .int .i64 a0_1_2, .map (some rh_want), .int .i64 a0_3_3, .int .i64 a0_4_3] :: Ow.map rh_want (fun (x : T_api_Addr) => .agg (e_api_Addr x).toArray) (fun (x : T_api_Filter) => .agg #[.bool x.1, x.2.1]) a0_2_2 :: Ow.box b_2 31 (c_api_Talk (.bool q_V6) (.int .i64 q_Version) (.int .i64 q_Kind) (.int .i64 q_Resp) q_Group (.bool q_Quiet) (.int .i64 q_Robust) (.int .i64 q_Every) vq_Sources vq_Records).toArray :: Ow.own 31 26 e_api_Talk vout_1 out_1 :: Ow.own 89 19 e_api_Record vrecords_1 records_1 :: Ow.own 28 17 e_api_Addr vr_2 r_5 :: fr) h_16 := hS.perm2 [0, 1, 2, 3, 4, 6] 7 rfl rfl
       rw [hKe_1] at hM
       exact ⟨(a0_0_2, a0_1_2, a0_2_2, a0_3_3, a0_4_3, out_1, records_1, n_1 + 1), ⟨F_11, vout_1, vrecords_1, rfl, rfl, rfl, rfl, rfl, rfl, rfl, rfl, hK, hS, hN_h_want, hL_q_Sources, hN_q_Records, hL_q_Records, hL_1, hN_5, hN_6, hN_7, hM.1⟩, hM.2⟩
      ·
       replace hM := hM.2 c_8
       refine HW.seq ?_
       refine HW.regionA 9 mixed (fun h => (Blk h bh (.cells #[.bool a0_0_2, .int .i64 a0_1_2, .map (some rh_want), .int .i64 a0_3_3, .int .i64 a0_4_3] 97 (0, 0)))) [] (by kernel_rfl) ?_
       refine HA.val (k := 0) (v := .pointer (some ⟨bh, 0, none⟩)) rfl rfl (by kernel_rfl) (by kernel_rfl) (want_none) rfl (fun _ c377 => q_move rfl) ?_
       refine HA.val (k := 2) (v := .pointer (some ⟨bh, 0, none⟩)) rfl rfl (by kernel_rfl) (by kernel_rfl) (want_none) rfl (fun _ c377 => q_move rfl) ?_
       refine HA.val (k := 3) (v := .pointer (some ⟨bh, 0, none⟩)) rfl rfl (by kernel_rfl) (by kernel_rfl) (want_none) rfl (fun _ c377 => q_nilCheck rfl) ?_
       refine HA.val (k := 4) (v := .pointer (some ⟨bh, 0, none⟩)) rfl rfl (by kernel_rfl) (by kernel_rfl) (want_none) rfl (fun _ c377 => q_fieldAddr fa_97_0 rfl rfl) ?_
       refine HA.val (k := 5) (v := .bool a0_0_2) rfl rfl (by kernel_rfl) (by kernel_rfl) (want_none) rfl (fun _ c377 => q_load to_4 rfl (Blk.cell c377 rfl)) ?_
       refine HA.one (k := 1) ⟨(hS.box 0 rfl), (Go.Wk.at_nil _ _)⟩ (by kernel_rfl) ?_
       replace hS : St F_11 (Ow.box bh 97 #[.bool a0_0_2, .int .i64 a0_1_2, .map (some rh_want), .int .i64 a0_3_3, .int .i64 a0_4_3] :: Ow.map rh_want (fun (x : T_api_Addr) => .agg (e_api_Addr x).toArray) (fun (x : T_api_Filter) => .agg #[.bool x.1, x.2.1]) a0_2_2 :: Ow.box b_2 31 (c_api_Talk (.bool q_V6) (.int .i64 q_Version) (.int .i64 q_Kind) (.int .i64 q_Resp) q_Group (.bool q_Quiet) (.int .i64 q_Robust) (.int .i64 q_Every) vq_Sources vq_Records).toArray :: Ow.own 31 26 e_api_Talk vout_1 out_1 :: Ow.own 89 19 e_api_Record vrecords_1 records_1 :: Ow.box b_5 28 (e_api_Addr (gi r_5 n_1)).toArray :: Ow.own 28 17 e_api_Addr vr_2 r_5 :: fr) h_16 := hS
       have hZ_3 := hS
       have hkz_3 := (hS.freeze).2
       replace hS := hS.freeze.1
       have hL_4 := hZ_3.lent
       replace hS : St (fun bz_ => F_11 bz_ ∨ (Ow.box bh 97 #[.bool a0_0_2, .int .i64 a0_1_2, .map (some rh_want), .int .i64 a0_3_3, .int .i64 a0_4_3]).foot bz_) (Ow.map rh_want (fun (x : T_api_Addr) => .agg (e_api_Addr x).toArray) (fun (x : T_api_Filter) => .agg #[.bool x.1, x.2.1]) a0_2_2 :: Ow.box b_2 31 (c_api_Talk (.bool q_V6) (.int .i64 q_Version) (.int .i64 q_Kind) (.int .i64 q_Resp) q_Group (.bool q_Quiet) (.int .i64 q_Robust) (.int .i64 q_Every) vq_Sources vq_Records).toArray :: Ow.own 31 26 e_api_Talk vout_1 out_1 :: Ow.own 89 19 e_api_Record vrecords_1 records_1 :: Ow.box b_5 28 (e_api_Addr (gi r_5 n_1)).toArray :: Ow.own 28 17 e_api_Addr vr_2 r_5 :: fr) h_16 := hS
       have hZ_4 := hS
       have hkz_4 := (hS.freeze).2
       replace hS := hS.freeze.1
       have hL_5 := hZ_4.lent
       refine HS.call rfl (want_none) rfl (ec en_60 rfl rfl) (host_Host_mode_walk (fr := (Ow.box b_2 31 (c_api_Talk (.bool q_V6) (.int .i64 q_Version) (.int .i64 q_Kind) (.int .i64 q_Resp) q_Group (.bool q_Quiet) (.int .i64 q_Robust) (.int .i64 q_Every) vq_Sources vq_Records).toArray :: Ow.own 31 26 e_api_Talk vout_1 out_1 :: Ow.own 89 19 e_api_Record vrecords_1 records_1 :: Ow.box b_5 28 (e_api_Addr (gi r_5 n_1)).toArray :: Ow.own 28 17 e_api_Addr vr_2 r_5 :: fr)) a0_0_2 a0_1_2 a0_2_2 a0_3_3 a0_4_3 bh rh_want hS (NfL.kp (NfL.kp hN_5 hkz_3) hkz_4) hL_5 (hL_4.kp hkz_4) hM) ?_
       rintro _ h_17 ⟨F_12, r_7, rfl, hk, hS, _, _, _, hM⟩
       obtain ⟨hS, hk⟩ := hZ_4.back hk hS
       obtain ⟨hS, hk⟩ := hZ_3.back hk hS
       generalize (fun bz_ => (fun bz_ => F_12 bz_ ∧ ¬ (Ow.map rh_want (fun (x : T_api_Addr) => .agg (e_api_Addr x).toArray) (fun (x : T_api_Filter) => .agg #[.bool x.1, x.2.1]) a0_2_2).foot bz_) bz_ ∧ ¬ (Ow.box bh 97 #[.bool a0_0_2, .int .i64 a0_1_2, .map (some rh_want), .int .i64 a0_3_3, .int .i64 a0_4_3]).foot bz_) = F_13 at hS hk
       replace hK := hK.trans hk
       replace hN_h_want := hN_h_want.kp hk
       replace hL_q_Sources := hL_q_Sources.kp hk
       replace hN_q_Records := hN_q_Records.kp hk
       replace hL_q_Records := hL_q_Records.kp hk
       replace hL_1 := hL_1.kp hk
       replace hN_5 := hN_5.kp hk
       replace hN_6 := hN_6.kp hk
       replace hN_7 := hN_7.kp hk
       refine HA.one (k := 6) ⟨(hS.box 0 rfl), (Go.Wk.at_nil _ _)⟩ (by kernel_rfl) ?_
       refine HS.call rfl (want_none) rfl (ec en_61 rfl rfl) (compat_Last_walk (fr := (Ow.box bh 97 #[.bool a0_0_2, .int .i64 a0_1_2, .map (some rh_want), .int .i64 a0_3_3, .int .i64 a0_4_3] :: Ow.map rh_want (fun (x : T_api_Addr) => .agg (e_api_Addr x).toArray) (fun (x : T_api_Filter) => .agg #[.bool x.1, x.2.1]) a0_2_2 :: Ow.box b_2 31 (c_api_Talk (.bool q_V6) (.int .i64 q_Version) (.int .i64 q_Kind) (.int .i64 q_Resp) q_Group (.bool q_Quiet) (.int .i64 q_Robust) (.int .i64 q_Every) vq_Sources vq_Records).toArray :: Ow.own 31 26 e_api_Talk vout_1 out_1 :: Ow.own 89 19 e_api_Record vrecords_1 records_1 :: Ow.box b_5 28 (e_api_Addr (gi r_5 n_1)).toArray :: Ow.own 28 17 e_api_Addr vr_2 r_5 :: fr)) a0_0_2 hS hM) ?_
       rintro _ h_18 ⟨F_14, r_8, rfl, hk, hS, hM⟩
       replace hK := hK.trans hk
       replace hN_h_want := hN_h_want.kp hk
       replace hL_q_Sources := hL_q_Sources.kp hk
       replace hN_q_Records := hN_q_Records.kp hk
       replace hL_q_Records := hL_q_Records.kp hk
       replace hL_1 := hL_1.kp hk
       replace hN_5 := hN_5.kp hk
       replace hN_6 := hN_6.kp hk
       replace hN_7 := hN_7.kp hk
       refine HA.val (k := 7) (v := .bool (decide (r_7 < r_8))) rfl rfl (by kernel_rfl) (by kernel_rfl) (want_none) rfl (fun _ c377 => q_lss rfl rfl) ?_
       refine HA.val (k := 8) (v := .bool (decide (r_7 < r_8))) rfl rfl (by kernel_rfl) (by kernel_rfl) (want_none) rfl (fun _ c377 => q_assign rfl) ?_
       refine HA.nil ⟨(hS.box 0 rfl), (Go.Wk.at_nil _ _)⟩ (by kernel_rfl) (thenQ_normal (?_))
       refine HW.cond (decide (r_7 < r_8)) rfl (fun c_9 => ?_) (fun c_9 => ?_)
       ·
        replace hM := hM.1 (of_decide_eq_true c_9)
        refine HW.region ?_
        refine oM (vout_1) rfl rfl ?_
        refine oM (.pointer (some ⟨bh, 0, none⟩)) rfl rfl ?_
        refine oV (.agg (e_api_Addr (gi r_5 n_1)).toArray) (q_loadAgg (cs := (e_api_Addr (gi r_5 n_1))) ta_28 rfl rfl (Blk.cells (k := 17) (hS.box 5 rfl) rfl)) rfl ?_
        refine HO.call (want_none) rfl (ec en_62 rfl rfl) (host_Host_older_walk (fr := (Ow.box b_2 31 (c_api_Talk (.bool q_V6) (.int .i64 q_Version) (.int .i64 q_Kind) (.int .i64 q_Resp) q_Group (.bool q_Quiet) (.int .i64 q_Robust) (.int .i64 q_Every) vq_Sources vq_Records).toArray :: Ow.own 31 26 e_api_Talk vout_1 out_1 :: Ow.own 89 19 e_api_Record vrecords_1 records_1 :: Ow.box b_5 28 (e_api_Addr (gi r_5 n_1)).toArray :: Ow.own 28 17 e_api_Addr vr_2 r_5 :: fr)) a0_0_2 a0_1_2 a0_2_2 a0_3_3 a0_4_3 (gi r_5 n_1) 2 bh rh_want hS hN_5 hM) ?_
        rintro vr_3 h_19 ⟨F_15, r_9, a0_v6_3, a0_now_3, a0m_3, a0_one_3, a0_two_3, _, rfl, hk, hS, _, hL_6, hL_7, hM⟩
        replace hK := hK.trans hk
        replace hN_h_want := hN_h_want.kp hk
        replace hL_q_Sources := hL_q_Sources.kp hk
        replace hN_q_Records := hN_q_Records.kp hk
        replace hL_q_Records := hL_q_Records.kp hk
        replace hL_1 := hL_1.kp hk
        replace hN_6 := hN_6.kp hk
        replace hN_7 := hN_7.kp hk
        obtain ⟨ho_5, hM⟩ := hM
        refine HO.eff (want_none) rfl (st_append te_33 hS (i := 4) rfl (hS.own 0 rfl).slice rfl rfl rfl (fun a_ ha_ => nfo_api_Talk (hL_6.is.all a_ ha_)) ho_5 (by omega)) ?_
        rintro v_1 h_20 ⟨hS, hk⟩
        replace hK := hK.trans hk
        replace hN_h_want := hN_h_want.kp hk
        replace hL_q_Sources := hL_q_Sources.kp hk
        replace hN_q_Records := hN_q_Records.kp hk
        replace hL_q_Records := hL_q_Records.kp hk
        replace hL_1 := hL_1.kp hk
        replace hN_6 := hN_6.kp hk
        replace hN_7 := hN_7.kp hk
        replace hL_6 := hL_6.kp hk
        replace hL_7 := hL_7.kp hk
        have hN_10 : NfL nf_api_Talk F_15 h_20 (out_1 ++ r_9) := NfL.app hN_6 hL_6
        refine oA (v_1) rfl rfl ?_
        refine HO.nil (blockQ_normal (blockQ_normal (thenQ_normal (?_))))
        refine HW.region ?_
        obtain ⟨ho_6, hM⟩ := hM
        refine oV (.int .i64 (n_1 + 1)) (q_addN _ rfl rfl rfl ho_6.1 ho_6.2) rfl ?_
        refine oM (.int .i64 (n_1 + 1)) rfl rfl ?_
        refine HO.nil (thenQ_normal (?_))
        replace hS : St F_15 (Ow.box bh 97 #[.bool a0_v6_3, .int .i64 a0_now_3, .map (some rh_want), .int .i64 a0_one_3, .int .i64 a0_two_3] :: Ow.map rh_want (fun (x : T_api_Addr) => .agg (e_api_Addr x).toArray) (fun (x : T_api_Filter) => .agg #[.bool x.1, x.2.1]) a0m_3 :: Ow.box b_2 31 (c_api_Talk (.bool q_V6) (.int .i64 q_Version) (.int .i64 q_Kind) (.int .i64 q_Resp) q_Group (.bool q_Quiet) (.int .i64 q_Robust) (.int .i64 q_Every) vq_Sources vq_Records).toArray :: Ow.own 31 26 e_api_Talk v_1 (out_1 ++ r_9) :: Ow.own 89 19 e_api_Record vrecords_1 records_1 :: Ow.own 28 17 e_api_Addr vr_2 r_5 :: fr) h_20 := hS.perm2 [1, 2, 3, 4, 5, 7] 8 rfl rfl
        rw [hKe_1] at hM
        exact ⟨(a0_v6_3, a0_now_3, a0m_3, a0_one_3, a0_two_3, out_1 ++ r_9, records_1, n_1 + 1), ⟨F_15, v_1, vrecords_1, rfl, rfl, rfl, rfl, rfl, rfl, rfl, rfl, hK, hS, hN_h_want, hL_q_Sources, hN_q_Records, hL_q_Records, hL_1, hL_7, hN_10, hN_7, hM.1⟩, hM.2⟩
       ·
        replace hM := hM.2 (of_decide_eq_false c_9)
        refine HW.seq_mid (fun f h => ∃ (F' : Fz) (r_0_1 : Int) (r_1_1 : Bool) (r_2_1 : Ba 16) (r_18_1 : List T_api_Addr) (ok_1 : Bool) (b_7 : Nat) (vr_18_1 : Value), f 0 = .pointer (some ⟨bh, 0, none⟩) ∧ f 7 = .pointer (some ⟨b_2, 0, none⟩) ∧ f 8 = .slice none 0 0 ∧ f 9 = vout_1 ∧ f 10 = vrecords_1 ∧ f 13 = .pointer (some ⟨b_7, 0, none⟩) ∧ f 14 = .bool ok_1 ∧ f 68 = vr_2 ∧ f 69 = .int .i64 (r_5.length : Int) ∧ f 70 = .int .i64 n_1 ∧ Kp F h0 F' h ∧ St F' (Ow.box bh 97 #[.bool a0_0_2, .int .i64 a0_1_2, .map (some rh_want), .int .i64 a0_3_3, .int .i64 a0_4_3] :: Ow.map rh_want (fun (x : T_api_Addr) => .agg (e_api_Addr x).toArray) (fun (x : T_api_Filter) => .agg #[.bool x.1, x.2.1]) a0_2_2 :: Ow.box b_2 31 (c_api_Talk (.bool q_V6) (.int .i64 q_Version) (.int .i64 q_Kind) (.int .i64 q_Resp) q_Group (.bool q_Quiet) (.int .i64 q_Robust) (.int .i64 q_Every) vq_Sources vq_Records).toArray :: Ow.own 31 26 e_api_Talk vout_1 out_1 :: Ow.own 89 19 e_api_Record vrecords_1 records_1 :: Ow.box b_7 89 (c_api_Record (.int .i64 r_0_1) (r_1_1, r_2_1) vr_18_1).toArray :: Ow.own 28 17 e_api_Addr vr_18_1 r_18_1 :: Ow.own 28 17 e_api_Addr vr_2 r_5 :: fr) h ∧ (NfL nf_api_Filter F' h (h_want.map (·.2))) ∧ (SliceF F' h 17 e_api_Addr vq_Sources q_Sources) ∧ (NfL nf_api_Record F' h q_Records) ∧ (SliceF F' h 19 e_api_Record vq_Records q_Records) ∧ (NfL nf_api_Filter F' h (a0m_2.map (·.2))) ∧ (NfL nf_api_Filter F' h (a0_2_2.map (·.2))) ∧ (NfL nf_api_Talk F' h out_1) ∧ (NfL nf_api_Record F' h records_1) ∧ host_Host_Hear_j5 a0_0_2 a0_1_2 a0_2_2 a0_3_3 a0_4_3 out_1 records_1 n_1 K_1 r_0_1 r_1_1 r_2_1 r_18_1 ok_1) ?_ ?_
        ·
         refine HW.regionA 15 mixed (fun h => (Blk h bh (.cells #[.bool a0_0_2, .int .i64 a0_1_2, .map (some rh_want), .int .i64 a0_3_3, .int .i64 a0_4_3] 97 (0, 0))) ∧ (MapIs h rh_want (fun (x : T_api_Addr) => .agg (e_api_Addr x).toArray) (fun (x : T_api_Filter) => .agg #[.bool x.1, x.2.1]) a0_2_2) ∧ (Blk h b_2 (.cells (c_api_Talk (.bool q_V6) (.int .i64 q_Version) (.int .i64 q_Kind) (.int .i64 q_Resp) q_Group (.bool q_Quiet) (.int .i64 q_Robust) (.int .i64 q_Every) vq_Sources vq_Records).toArray 31 (0, 0))) ∧ (Blk h b_5 (.cells (e_api_Addr (gi r_5 n_1)).toArray 28 (0, 0)))) [] (by kernel_rfl) ?_
         refine HA.val (k := 0) (v := .agg (e_api_Addr (gi r_5 n_1)).toArray) rfl rfl (by kernel_rfl) (by kernel_rfl) (want_none) rfl (fun _ ⟨c377, c378, c379, c382⟩ => q_loadAgg (cs := (e_api_Addr (gi r_5 n_1))) ta_28 rfl rfl (Blk.cells (k := 17) c382 rfl)) ?_
         refine HA.val (k := 1) (v := .pointer (some ⟨bh, 0, none⟩)) rfl rfl (by kernel_rfl) (by kernel_rfl) (want_none) rfl (fun _ ⟨c377, c378, c379, c382⟩ => q_move rfl) ?_
         refine HA.val (k := 2) (v := .pointer (some ⟨bh, 0, none⟩)) rfl rfl (by kernel_rfl) (by kernel_rfl) (want_none) rfl (fun _ ⟨c377, c378, c379, c382⟩ => q_nilCheck rfl) ?_
         refine HA.val (k := 3) (v := .pointer (some ⟨bh, 2, none⟩)) rfl rfl (by kernel_rfl) (by kernel_rfl) (want_none) rfl (fun _ ⟨c377, c378, c379, c382⟩ => q_fieldAddr fa_97_2 rfl rfl) ?_
         refine HA.val (k := 4) (v := .map (some rh_want)) rfl rfl (by kernel_rfl) (by kernel_rfl) (want_none) rfl (fun _ ⟨c377, c378, c379, c382⟩ => q_load to_95 rfl (Blk.cell c377 rfl)) ?_
         refine HA.val (k := 5) (v := .agg (e_api_Addr (gi r_5 n_1)).toArray) rfl rfl (by kernel_rfl) (by kernel_rfl) (want_none) rfl (fun _ ⟨c377, c378, c379, c382⟩ => q_loadAgg (cs := (e_api_Addr (gi r_5 n_1))) ta_28 rfl rfl (Blk.cells (k := 17) c382 rfl)) ?_
         have hL_8 : SliceF F_14 h_18 17 e_api_Addr (((mgetD z_api_Filter a0_2_2 (gi r_5 n_1)).2).1) (((mgetD z_api_Filter a0_2_2 (gi r_5 n_1)).2).2) := nff_api_Filter_1 (NfL.mgetD hN_5 (gi r_5 n_1) (nfm_api_Filter z_api_Filter (SliceF.nil _ _ _ _)))
         refine HA.val (k := 6) (v := .agg #[.bool ((mgetD z_api_Filter a0_2_2 (gi r_5 n_1)).1), ((mgetD z_api_Filter a0_2_2 (gi r_5 n_1)).2).1]) rfl rfl (by kernel_rfl) (by kernel_rfl) (want_none) rfl (fun _ ⟨c377, c378, c379, c382⟩ => (q_lookup (k := (gi r_5 n_1)) ka_28 tmk_95 c378 rfl rfl).of_eq (mvalD (z := z_api_Filter) rfl _ _)) ?_
         refine HA.val (k := 7) (v := .agg (c_api_Talk (.bool q_V6) (.int .i64 q_Version) (.int .i64 q_Kind) (.int .i64 q_Resp) q_Group (.bool q_Quiet) (.int .i64 q_Robust) (.int .i64 q_Every) vq_Sources vq_Records).toArray) rfl rfl (by kernel_rfl) (by kernel_rfl) (want_none) rfl (fun _ ⟨c377, c378, c379, c382⟩ => q_loadAgg (cs := (c_api_Talk (.bool q_V6) (.int .i64 q_Version) (.int .i64 q_Kind) (.int .i64 q_Resp) q_Group (.bool q_Quiet) (.int .i64 q_Robust) (.int .i64 q_Every) vq_Sources vq_Records)) ta_31 rfl rfl (Blk.cells (k := 26) c379 rfl)) ?_
         refine HA.two (k := 8) (k' := 12) ⟨⟨(hS.box 0 rfl), (hS.mp 1 rfl), (hS.box 2 rfl), (hS.box 5 rfl)⟩, (Go.Wk.at_nil _ _)⟩ (by kernel_rfl) ?_ ?_
         ·
          refine HS.call rfl (want_none) rfl (ec en_63 rfl rfl) (host_answer_walk (fr := (Ow.box bh 97 #[.bool a0_0_2, .int .i64 a0_1_2, .map (some rh_want), .int .i64 a0_3_3, .int .i64 a0_4_3] :: Ow.map rh_want (fun (x : T_api_Addr) => .agg (e_api_Addr x).toArray) (fun (x : T_api_Filter) => .agg #[.bool x.1, x.2.1]) a0_2_2 :: Ow.box b_2 31 (c_api_Talk (.bool q_V6) (.int .i64 q_Version) (.int .i64 q_Kind) (.int .i64 q_Resp) q_Group (.bool q_Quiet) (.int .i64 q_Robust) (.int .i64 q_Every) vq_Sources vq_Records).toArray :: Ow.own 31 26 e_api_Talk vout_1 out_1 :: Ow.own 89 19 e_api_Record vrecords_1 records_1 :: Ow.box b_5 28 (e_api_Addr (gi r_5 n_1)).toArray :: Ow.own 28 17 e_api_Addr vr_2 r_5 :: fr)) (gi r_5 n_1) ((mgetD z_api_Filter a0_2_2 (gi r_5 n_1)).1) (((mgetD z_api_Filter a0_2_2 (gi r_5 n_1)).2).2) q_V6 q_Version q_Kind q_Resp q_Group q_Quiet q_Robust q_Every q_Sources q_Records (((mgetD z_api_Filter a0_2_2 (gi r_5 n_1)).2).1) vq_Sources vq_Records hS hL_8 hL_q_Sources hN_q_Records hL_q_Records hM) ?_
          rintro _ h_21 ⟨F_16, r0_0_1, r0_1_1, r0_2_1, r0_18_1, r1_1, vr0_18_1, rfl, hk, hS, _, _, _, _, hM⟩
          replace hK := hK.trans hk
          replace hN_h_want := hN_h_want.kp hk
          replace hL_q_Sources := hL_q_Sources.kp hk
          replace hN_q_Records := hN_q_Records.kp hk
          replace hL_q_Records := hL_q_Records.kp hk
          replace hL_1 := hL_1.kp hk
          replace hN_5 := hN_5.kp hk
          replace hN_6 := hN_6.kp hk
          replace hN_7 := hN_7.kp hk
          refine HA.val (k := 9) (v := .tuple #[.agg (c_api_Record (.int .i64 r0_0_1) (r0_1_1, r0_2_1) vr0_18_1).toArray, .bool r1_1]) rfl rfl (by kernel_rfl) (by kernel_rfl) (want_none) rfl (fun _ ⟨c377, c378, c379, c382⟩ => q_move rfl) ?_
          refine HA.val (k := 10) (v := .agg (c_api_Record (.int .i64 r0_0_1) (r0_1_1, r0_2_1) vr0_18_1).toArray) rfl rfl (by kernel_rfl) (by kernel_rfl) (want_none) rfl (fun _ ⟨c377, c378, c379, c382⟩ => q_extract rfl rfl) ?_
          refine HA.val (k := 11) (v := .bool r1_1) rfl rfl (by kernel_rfl) (by kernel_rfl) (want_none) rfl (fun _ ⟨c377, c378, c379, c382⟩ => q_extract rfl rfl) ?_
          refine HA.one (k := 12) ⟨⟨(hS.box 1 rfl), (hS.mp 2 rfl), (hS.box 3 rfl), (hS.box 6 rfl)⟩, (Go.Wk.at_nil _ _)⟩ (by kernel_rfl) ?_
          refine HS.eff rfl (want_none) rfl (st_alloc (c := (c_api_Record (.int .i64 0) (false, (default : Ba 16)) (.slice none 0 0)).toArray) hS tz_89 rfl) ?_
          rintro _ h_22 ⟨b_8, rfl, hS, hk⟩
          replace hK := hK.trans hk
          replace hN_h_want := hN_h_want.kp hk
          replace hL_q_Sources := hL_q_Sources.kp hk
          replace hN_q_Records := hN_q_Records.kp hk
          replace hL_q_Records := hL_q_Records.kp hk
          replace hL_1 := hL_1.kp hk
          replace hN_5 := hN_5.kp hk
          replace hN_6 := hN_6.kp hk
          replace hN_7 := hN_7.kp hk
          refine HA.one (k := 13) ⟨⟨(hS.box 2 rfl), (hS.mp 3 rfl), (hS.box 4 rfl), (hS.box 7 rfl)⟩, (Go.Wk.at_nil _ _)⟩ (by kernel_rfl) ?_
          refine HS.sto rfl (want_none) rfl (st_storeAgg (c' := (c_api_Record (.int .i64 r0_0_1) (r0_1_1, r0_2_1) vr0_18_1).toArray) hS (i := 0) rfl ta_89 rfl rfl rfl (List.forall_mem_cons.2 ⟨rfl, (List.forall_mem_cons.2 ⟨rfl, (List.forall_mem_cons.2 ⟨rfl, (List.forall_mem_cons.2 ⟨rfl, (List.forall_mem_cons.2 ⟨rfl, (List.forall_mem_cons.2 ⟨rfl, (List.forall_mem_cons.2 ⟨rfl, (List.forall_mem_cons.2 ⟨rfl, (List.forall_mem_cons.2 ⟨rfl, (List.forall_mem_cons.2 ⟨rfl, (List.forall_mem_cons.2 ⟨rfl, (List.forall_mem_cons.2 ⟨rfl, (List.forall_mem_cons.2 ⟨rfl, (List.forall_mem_cons.2 ⟨rfl, (List.forall_mem_cons.2 ⟨rfl, (List.forall_mem_cons.2 ⟨rfl, (List.forall_mem_cons.2 ⟨rfl, (List.forall_mem_cons.2 ⟨rfl, (List.forall_mem_cons.2 ⟨(shp (hS.own 1 rfl).slice).one, (fun _ h => by cases h)⟩)⟩)⟩)⟩)⟩)⟩)⟩)⟩)⟩)⟩)⟩)⟩)⟩)⟩)⟩)⟩)⟩)⟩)⟩) (Nat.le_of_ble_eq_true rfl) rfl) ?_
          rintro h_23 ⟨hS, hk⟩
          replace hK := hK.trans hk
          replace hN_h_want := hN_h_want.kp hk
          replace hL_q_Sources := hL_q_Sources.kp hk
          replace hN_q_Records := hN_q_Records.kp hk
          replace hL_q_Records := hL_q_Records.kp hk
          replace hL_1 := hL_1.kp hk
          replace hN_5 := hN_5.kp hk
          replace hN_6 := hN_6.kp hk
          replace hN_7 := hN_7.kp hk
          refine HA.val (k := 14) (v := .bool r1_1) rfl rfl (by kernel_rfl) (by kernel_rfl) (want_none) rfl (fun _ ⟨c377, c378, c379, c382⟩ => q_assign rfl) ?_
          refine HA.nil ⟨⟨(hS.box 2 rfl), (hS.mp 3 rfl), (hS.box 4 rfl), (hS.box 7 rfl)⟩, (Go.Wk.at_nil _ _)⟩ (by kernel_rfl) (thenQ_normal (?_))
          replace hS : St F_16 (Ow.box bh 97 #[.bool a0_0_2, .int .i64 a0_1_2, .map (some rh_want), .int .i64 a0_3_3, .int .i64 a0_4_3] :: Ow.map rh_want (fun (x : T_api_Addr) => .agg (e_api_Addr x).toArray) (fun (x : T_api_Filter) => .agg #[.bool x.1, x.2.1]) a0_2_2 :: Ow.box b_2 31 (c_api_Talk (.bool q_V6) (.int .i64 q_Version) (.int .i64 q_Kind) (.int .i64 q_Resp) q_Group (.bool q_Quiet) (.int .i64 q_Robust) (.int .i64 q_Every) vq_Sources vq_Records).toArray :: Ow.own 31 26 e_api_Talk vout_1 out_1 :: Ow.own 89 19 e_api_Record vrecords_1 records_1 :: Ow.box b_8 89 (c_api_Record (.int .i64 r0_0_1) (r0_1_1, r0_2_1) vr0_18_1).toArray :: Ow.own 28 17 e_api_Addr vr0_18_1 r0_18_1 :: Ow.own 28 17 e_api_Addr vr_2 r_5 :: fr) h_23 := hS.perm2 [2, 3, 4, 5, 6, 0, 1, 8] 9 rfl rfl
          exact ⟨F_16, r0_0_1, r0_1_1, r0_2_1, r0_18_1, r1_1, b_8, vr0_18_1, rfl, rfl, rfl, rfl, rfl, rfl, rfl, rfl, rfl, rfl, hK, hS, hN_h_want, hL_q_Sources, hN_q_Records, hL_q_Records, hL_1, hN_5, hN_6, hN_7, hM⟩
         ·
          refine HS.eff rfl (want_none) rfl (st_alloc (c := (c_api_Record (.int .i64 0) (false, (default : Ba 16)) (.slice none 0 0)).toArray) hS tz_89 rfl) ?_
          rintro _ h_21 ⟨b_8, rfl, hS, hk⟩
          replace hK := hK.trans hk
          replace hN_h_want := hN_h_want.kp hk
          replace hL_q_Sources := hL_q_Sources.kp hk
          replace hN_q_Records := hN_q_Records.kp hk
          replace hL_q_Records := hL_q_Records.kp hk
          replace hL_1 := hL_1.kp hk
          replace hN_5 := hN_5.kp hk
          replace hN_6 := hN_6.kp hk
          replace hN_7 := hN_7.kp hk
          replace hL_8 := hL_8.kp hk
          refine HA.one (k := 8) ⟨⟨(hS.box 1 rfl), (hS.mp 2 rfl), (hS.box 3 rfl), (hS.box 6 rfl)⟩, (Go.Wk.at_nil _ _)⟩ (by kernel_rfl) ?_
          refine HS.call rfl (want_none) rfl (ec en_63 rfl rfl) (host_answer_walk (fr := (Ow.box b_8 89 (c_api_Record (.int .i64 0) (false, (default : Ba 16)) (.slice none 0 0)).toArray :: Ow.box bh 97 #[.bool a0_0_2, .int .i64 a0_1_2, .map (some rh_want), .int .i64 a0_3_3, .int .i64 a0_4_3] :: Ow.map rh_want (fun (x : T_api_Addr) => .agg (e_api_Addr x).toArray) (fun (x : T_api_Filter) => .agg #[.bool x.1, x.2.1]) a0_2_2 :: Ow.box b_2 31 (c_api_Talk (.bool q_V6) (.int .i64 q_Version) (.int .i64 q_Kind) (.int .i64 q_Resp) q_Group (.bool q_Quiet) (.int .i64 q_Robust) (.int .i64 q_Every) vq_Sources vq_Records).toArray :: Ow.own 31 26 e_api_Talk vout_1 out_1 :: Ow.own 89 19 e_api_Record vrecords_1 records_1 :: Ow.box b_5 28 (e_api_Addr (gi r_5 n_1)).toArray :: Ow.own 28 17 e_api_Addr vr_2 r_5 :: fr)) (gi r_5 n_1) ((mgetD z_api_Filter a0_2_2 (gi r_5 n_1)).1) (((mgetD z_api_Filter a0_2_2 (gi r_5 n_1)).2).2) q_V6 q_Version q_Kind q_Resp q_Group q_Quiet q_Robust q_Every q_Sources q_Records (((mgetD z_api_Filter a0_2_2 (gi r_5 n_1)).2).1) vq_Sources vq_Records hS hL_8 hL_q_Sources hN_q_Records hL_q_Records hM) ?_
          rintro _ h_22 ⟨F_16, r0_0_1, r0_1_1, r0_2_1, r0_18_1, r1_1, vr0_18_1, rfl, hk, hS, _, _, _, _, hM⟩
          replace hK := hK.trans hk
          replace hN_h_want := hN_h_want.kp hk
          replace hL_q_Sources := hL_q_Sources.kp hk
          replace hN_q_Records := hN_q_Records.kp hk
          replace hL_q_Records := hL_q_Records.kp hk
          replace hL_1 := hL_1.kp hk
          replace hN_5 := hN_5.kp hk
          replace hN_6 := hN_6.kp hk
          replace hN_7 := hN_7.kp hk
          refine HA.val (k := 9) (v := .tuple #[.agg (c_api_Record (.int .i64 r0_0_1) (r0_1_1, r0_2_1) vr0_18_1).toArray, .bool r1_1]) rfl rfl (by kernel_rfl) (by kernel_rfl) (want_none) rfl (fun _ ⟨c377, c378, c379, c382⟩ => q_move rfl) ?_
          refine HA.val (k := 10) (v := .agg (c_api_Record (.int .i64 r0_0_1) (r0_1_1, r0_2_1) vr0_18_1).toArray) rfl rfl (by kernel_rfl) (by kernel_rfl) (want_none) rfl (fun _ ⟨c377, c378, c379, c382⟩ => q_extract rfl rfl) ?_
          refine HA.val (k := 11) (v := .bool r1_1) rfl rfl (by kernel_rfl) (by kernel_rfl) (want_none) rfl (fun _ ⟨c377, c378, c379, c382⟩ => q_extract rfl rfl) ?_
          refine HA.one (k := 13) ⟨⟨(hS.box 2 rfl), (hS.mp 3 rfl), (hS.box 4 rfl), (hS.box 7 rfl)⟩, (Go.Wk.at_nil _ _)⟩ (by kernel_rfl) ?_
          refine HS.sto rfl (want_none) rfl (st_storeAgg (c' := (c_api_Record (.int .i64 r0_0_1) (r0_1_1, r0_2_1) vr0_18_1).toArray) hS (i := 1) rfl ta_89 rfl rfl rfl (List.forall_mem_cons.2 ⟨rfl, (List.forall_mem_cons.2 ⟨rfl, (List.forall_mem_cons.2 ⟨rfl, (List.forall_mem_cons.2 ⟨rfl, (List.forall_mem_cons.2 ⟨rfl, (List.forall_mem_cons.2 ⟨rfl, (List.forall_mem_cons.2 ⟨rfl, (List.forall_mem_cons.2 ⟨rfl, (List.forall_mem_cons.2 ⟨rfl, (List.forall_mem_cons.2 ⟨rfl, (List.forall_mem_cons.2 ⟨rfl, (List.forall_mem_cons.2 ⟨rfl, (List.forall_mem_cons.2 ⟨rfl, (List.forall_mem_cons.2 ⟨rfl, (List.forall_mem_cons.2 ⟨rfl, (List.forall_mem_cons.2 ⟨rfl, (List.forall_mem_cons.2 ⟨rfl, (List.forall_mem_cons.2 ⟨rfl, (List.forall_mem_cons.2 ⟨(shp (hS.own 0 rfl).slice).one, (fun _ h => by cases h)⟩)⟩)⟩)⟩)⟩)⟩)⟩)⟩)⟩)⟩)⟩)⟩)⟩)⟩)⟩)⟩)⟩)⟩)⟩) (Nat.le_of_ble_eq_true rfl) rfl) ?_
          rintro h_23 ⟨hS, hk⟩
          replace hK := hK.trans hk
          replace hN_h_want := hN_h_want.kp hk
          replace hL_q_Sources := hL_q_Sources.kp hk
          replace hN_q_Records := hN_q_Records.kp hk
          replace hL_q_Records := hL_q_Records.kp hk
          replace hL_1 := hL_1.kp hk
          replace hN_5 := hN_5.kp hk
          replace hN_6 := hN_6.kp hk
          replace hN_7 := hN_7.kp hk
          refine HA.val (k := 14) (v := .bool r1_1) rfl rfl (by kernel_rfl) (by kernel_rfl) (want_none) rfl (fun _ ⟨c377, c378, c379, c382⟩ => q_assign rfl) ?_
          refine HA.nil ⟨⟨(hS.box 2 rfl), (hS.mp 3 rfl), (hS.box 4 rfl), (hS.box 7 rfl)⟩, (Go.Wk.at_nil _ _)⟩ (by kernel_rfl) (thenQ_normal (?_))
          replace hS : St F_16 (Ow.box bh 97 #[.bool a0_0_2, .int .i64 a0_1_2, .map (some rh_want), .int .i64 a0_3_3, .int .i64 a0_4_3] :: Ow.map rh_want (fun (x : T_api_Addr) => .agg (e_api_Addr x).toArray) (fun (x : T_api_Filter) => .agg #[.bool x.1, x.2.1]) a0_2_2 :: Ow.box b_2 31 (c_api_Talk (.bool q_V6) (.int .i64 q_Version) (.int .i64 q_Kind) (.int .i64 q_Resp) q_Group (.bool q_Quiet) (.int .i64 q_Robust) (.int .i64 q_Every) vq_Sources vq_Records).toArray :: Ow.own 31 26 e_api_Talk vout_1 out_1 :: Ow.own 89 19 e_api_Record vrecords_1 records_1 :: Ow.box b_8 89 (c_api_Record (.int .i64 r0_0_1) (r0_1_1, r0_2_1) vr0_18_1).toArray :: Ow.own 28 17 e_api_Addr vr0_18_1 r0_18_1 :: Ow.own 28 17 e_api_Addr vr_2 r_5 :: fr) h_23 := hS.perm2 [2, 3, 4, 5, 6, 1, 0, 8] 9 rfl rfl
          exact ⟨F_16, r0_0_1, r0_1_1, r0_2_1, r0_18_1, r1_1, b_8, vr0_18_1, rfl, rfl, rfl, rfl, rfl, rfl, rfl, rfl, rfl, rfl, hK, hS, hN_h_want, hL_q_Sources, hN_q_Records, hL_q_Records, hL_1, hN_5, hN_6, hN_7, hM⟩
        ·
         rintro f_6 h_24 ⟨F_17, r_0_1, r_1_1, r_2_1, r_18_1, ok_1, b_7, vr_18_1, e0, e7, e8, e9, e10, e13, e14, e68, e69, e70, hK, hS, hN_h_want, hL_q_Sources, hN_q_Records, hL_q_Records, hL_1, hN_5, hN_6, hN_7, hM⟩
         unfold host_Host_Hear_j5 at hM
         refine HW.fr [(0, .pointer (some ⟨bh, 0, none⟩)), (7, .pointer (some ⟨b_2, 0, none⟩)), (8, .slice none 0 0), (9, vout_1), (10, vrecords_1), (13, .pointer (some ⟨b_7, 0, none⟩)), (14, .bool ok_1), (68, vr_2), (69, .int .i64 (r_5.length : Int)), (70, .int .i64 n_1)] ⟨e0, e7, e8, e9, e10, e13, e14, e68, e69, e70, trivial⟩ ?_
         refine HW.seq ?_
         refine HW.region ?_
         refine oM (.bool ok_1) rfl rfl ?_
         refine HO.nil (thenQ_normal (?_))
         refine HW.cond ok_1 rfl (fun c_10 => ?_) (fun c_10 => ?_)
         ·
          replace hM := hM.1 c_10
          refine HW.region ?_
          refine oM (vrecords_1) rfl rfl ?_
          refine oV (.agg (c_api_Record (.int .i64 r_0_1) (r_1_1, r_2_1) vr_18_1).toArray) (q_loadAgg (cs := (c_api_Record (.int .i64 r_0_1) (r_1_1, r_2_1) vr_18_1)) ta_89 rfl rfl (Blk.cells (k := 19) (hS.box 5 rfl) rfl)) rfl ?_
          replace hS : St F_17 (Ow.own 28 17 e_api_Addr vr_18_1 r_18_1 :: Ow.box bh 97 #[.bool a0_0_2, .int .i64 a0_1_2, .map (some rh_want), .int .i64 a0_3_3, .int .i64 a0_4_3] :: Ow.map rh_want (fun (x : T_api_Addr) => .agg (e_api_Addr x).toArray) (fun (x : T_api_Filter) => .agg #[.bool x.1, x.2.1]) a0_2_2 :: Ow.box b_2 31 (c_api_Talk (.bool q_V6) (.int .i64 q_Version) (.int .i64 q_Kind) (.int .i64 q_Resp) q_Group (.bool q_Quiet) (.int .i64 q_Robust) (.int .i64 q_Every) vq_Sources vq_Records).toArray :: Ow.own 31 26 e_api_Talk vout_1 out_1 :: Ow.own 89 19 e_api_Record vrecords_1 records_1 :: Ow.box b_7 89 (c_api_Record (.int .i64 r_0_1) (r_1_1, r_2_1) vr_18_1).toArray :: Ow.own 28 17 e_api_Addr vr_2 r_5 :: fr) h_24 := hS.perm2 [6, 0, 1, 2, 3, 4, 5, 7] 8 rfl rfl
          obtain ⟨F_18, hS, hk, hL_9⟩ := hS.freezeOwn
          replace hK := hK.trans hk
          replace hN_h_want := hN_h_want.kp hk
          replace hL_q_Sources := hL_q_Sources.kp hk
          replace hN_q_Records := hN_q_Records.kp hk
          replace hL_q_Records := hL_q_Records.kp hk
          replace hL_1 := hL_1.kp hk
          replace hN_5 := hN_5.kp hk
          replace hN_6 := hN_6.kp hk
          replace hN_7 := hN_7.kp hk
          replace hM := hM vr_18_1
          refine HO.eff (want_none) rfl (st_lit (enc := e_api_Record) (cells := #[.int .i64 r_0_1, .bool r_1_1, .int .u8 (b8 r_2_1 0), .int .u8 (b8 r_2_1 1), .int .u8 (b8 r_2_1 2), .int .u8 (b8 r_2_1 3), .int .u8 (b8 r_2_1 4), .int .u8 (b8 r_2_1 5), .int .u8 (b8 r_2_1 6), .int .u8 (b8 r_2_1 7), .int .u8 (b8 r_2_1 8), .int .u8 (b8 r_2_1 9), .int .u8 (b8 r_2_1 10), .int .u8 (b8 r_2_1 11), .int .u8 (b8 r_2_1 12), .int .u8 (b8 r_2_1 13), .int .u8 (b8 r_2_1 14), .int .u8 (b8 r_2_1 15), vr_18_1]) #[.int .i64 0, .bool false, .int .u8 0, .int .u8 0, .int .u8 0, .int .u8 0, .int .u8 0, .int .u8 0, .int .u8 0, .int .u8 0, .int .u8 0, .int .u8 0, .int .u8 0, .int .u8 0, .int .u8 0, .int .u8 0, .int .u8 0, .int .u8 0, .slice none 0 0] ([(r_0_1, (r_1_1, r_2_1), (vr_18_1, r_18_1))] : List T_api_Record) hS tl_22 (by decide) (by decide) (by kernel_rfl) (by kernel_rfl) rfl (by intro x hx; rfl) rfl) ?_
          rintro _ h_25 ⟨b_9, rfl, hS, hk⟩
          replace hK := hK.trans hk
          replace hN_h_want := hN_h_want.kp hk
          replace hL_q_Sources := hL_q_Sources.kp hk
          replace hN_q_Records := hN_q_Records.kp hk
          replace hL_q_Records := hL_q_Records.kp hk
          replace hL_1 := hL_1.kp hk
          replace hN_5 := hN_5.kp hk
          replace hN_6 := hN_6.kp hk
          replace hN_7 := hN_7.kp hk
          replace hL_9 := hL_9.kp hk
          have hN_11 : NfL nf_api_Record F_18 h_25 ([(r_0_1, (r_1_1, r_2_1), (vr_18_1, r_18_1))] : List T_api_Record) := (NfL.cons (nfm_api_Record (r_0_1, (r_1_1, r_2_1), (vr_18_1, r_18_1)) hL_9) (NfL.nil _ _ _))
          obtain ⟨ho_7, hM⟩ := hM
          refine HO.eff (want_none) rfl (st_append te_22 hS (i := 5) rfl (hS.own 0 rfl).slice rfl rfl rfl (fun a_ ha_ => nfo_api_Record (hN_11.is.all a_ ha_)) ho_7 (by omega)) ?_
          rintro v_2 h_26 ⟨hS, hk⟩
          replace hK := hK.trans hk
          replace hN_h_want := hN_h_want.kp hk
          replace hL_q_Sources := hL_q_Sources.kp hk
          replace hN_q_Records := hN_q_Records.kp hk
          replace hL_q_Records := hL_q_Records.kp hk
          replace hL_1 := hL_1.kp hk
          replace hN_5 := hN_5.kp hk
          replace hN_6 := hN_6.kp hk
          replace hN_7 := hN_7.kp hk
          replace hN_11 := hN_11.kp hk
          have hN_12 : NfL nf_api_Record F_18 h_26 (records_1 ++ ([(r_0_1, (r_1_1, r_2_1), (vr_18_1, r_18_1))] : List T_api_Record)) := NfL.app hN_7 hN_11
          refine oA (v_2) rfl rfl ?_
          refine HO.nil (blockQ_normal (blockQ_normal (thenQ_normal (?_))))
          refine HW.region ?_
          obtain ⟨ho_8, hM⟩ := hM
          refine oV (.int .i64 (n_1 + 1)) (q_addN _ rfl rfl rfl ho_8.1 ho_8.2) rfl ?_
          refine oM (.int .i64 (n_1 + 1)) rfl rfl ?_
          refine HO.nil (thenQ_normal (?_))
          replace hS : St F_18 (Ow.box bh 97 #[.bool a0_0_2, .int .i64 a0_1_2, .map (some rh_want), .int .i64 a0_3_3, .int .i64 a0_4_3] :: Ow.map rh_want (fun (x : T_api_Addr) => .agg (e_api_Addr x).toArray) (fun (x : T_api_Filter) => .agg #[.bool x.1, x.2.1]) a0_2_2 :: Ow.box b_2 31 (c_api_Talk (.bool q_V6) (.int .i64 q_Version) (.int .i64 q_Kind) (.int .i64 q_Resp) q_Group (.bool q_Quiet) (.int .i64 q_Robust) (.int .i64 q_Every) vq_Sources vq_Records).toArray :: Ow.own 31 26 e_api_Talk vout_1 out_1 :: Ow.own 89 19 e_api_Record v_2 (records_1 ++ ([(r_0_1, (r_1_1, r_2_1), (vr_18_1, r_18_1))] : List T_api_Record)) :: Ow.own 28 17 e_api_Addr vr_2 r_5 :: fr) h_26 := hS.perm2 [1, 2, 3, 4, 5, 7] 8 rfl rfl
          rw [hKe_1] at hM
          exact ⟨(a0_0_2, a0_1_2, a0_2_2, a0_3_3, a0_4_3, out_1, records_1 ++ ([(r_0_1, (r_1_1, r_2_1), (vr_18_1, r_18_1))] : List T_api_Record), n_1 + 1), ⟨F_18, vout_1, v_2, rfl, rfl, rfl, rfl, rfl, rfl, rfl, rfl, hK, hS, hN_h_want, hL_q_Sources, hN_q_Records, hL_q_Records, hL_1, hN_5, hN_6, hN_12, hM.1⟩, hM.2⟩
         ·
          replace hM := hM.2 c_10
          refine HW.skip (blockQ_normal (blockQ_normal (thenQ_normal (?_))))
          refine HW.region ?_
          obtain ⟨ho_9, hM⟩ := hM
          refine oV (.int .i64 (n_1 + 1)) (q_addN _ rfl rfl rfl ho_9.1 ho_9.2) rfl ?_
          refine oM (.int .i64 (n_1 + 1)) rfl rfl ?_
          refine HO.nil (thenQ_normal (?_))
          replace hS : St F_17 (Ow.box bh 97 #[.bool a0_0_2, .int .i64 a0_1_2, .map (some rh_want), .int .i64 a0_3_3, .int .i64 a0_4_3] :: Ow.map rh_want (fun (x : T_api_Addr) => .agg (e_api_Addr x).toArray) (fun (x : T_api_Filter) => .agg #[.bool x.1, x.2.1]) a0_2_2 :: Ow.box b_2 31 (c_api_Talk (.bool q_V6) (.int .i64 q_Version) (.int .i64 q_Kind) (.int .i64 q_Resp) q_Group (.bool q_Quiet) (.int .i64 q_Robust) (.int .i64 q_Every) vq_Sources vq_Records).toArray :: Ow.own 31 26 e_api_Talk vout_1 out_1 :: Ow.own 89 19 e_api_Record vrecords_1 records_1 :: Ow.own 28 17 e_api_Addr vr_2 r_5 :: fr) h_24 := hS.perm2 [0, 1, 2, 3, 4, 7] 8 rfl rfl
          rw [hKe_1] at hM
          exact ⟨(a0_0_2, a0_1_2, a0_2_2, a0_3_3, a0_4_3, out_1, records_1, n_1 + 1), ⟨F_17, vout_1, vrecords_1, rfl, rfl, rfl, rfl, rfl, rfl, rfl, rfl, hK, hS, hN_h_want, hL_q_Sources, hN_q_Records, hL_q_Records, hL_1, hN_5, hN_6, hN_7, hM.1⟩, hM.2⟩
    ·
     replace hM := hM.2 (of_decide_eq_false c_6)
     refine HW.exit (thenQ_exit (thenQ_exit (blockQ_exit (thenQ_normal (?_)))))
     refine HW.seq ?_
     refine HW.region ?_
     refine oM (vout_1) rfl rfl ?_
     refine oM (.pointer (some ⟨bh, 0, none⟩)) rfl rfl ?_
     refine oV (.pointer (some ⟨bh, 0, none⟩)) (q_nilCheck rfl) rfl ?_
     refine oV (.pointer (some ⟨bh, 0, none⟩)) (q_fieldAddr fa_97_0 rfl rfl) rfl ?_
     refine oV (.bool a0_0_2) (q_load to_4 rfl (Blk.cell (hS.box 0 rfl) rfl)) rfl ?_
     refine oM (vrecords_1) rfl rfl ?_
     replace hS : St F_9 (Ow.own 89 19 e_api_Record vrecords_1 records_1 :: Ow.box bh 97 #[.bool a0_0_2, .int .i64 a0_1_2, .map (some rh_want), .int .i64 a0_3_3, .int .i64 a0_4_3] :: Ow.map rh_want (fun (x : T_api_Addr) => .agg (e_api_Addr x).toArray) (fun (x : T_api_Filter) => .agg #[.bool x.1, x.2.1]) a0_2_2 :: Ow.box b_2 31 (c_api_Talk (.bool q_V6) (.int .i64 q_Version) (.int .i64 q_Kind) (.int .i64 q_Resp) q_Group (.bool q_Quiet) (.int .i64 q_Robust) (.int .i64 q_Every) vq_Sources vq_Records).toArray :: Ow.own 31 26 e_api_Talk vout_1 out_1 :: Ow.own 28 17 e_api_Addr vr_2 r_5 :: fr) h_12 := hS.perm2 [4, 0, 1, 2, 3, 5] 6 rfl rfl
     obtain ⟨F_19, hS, hk, hL_10⟩ := hS.freezeOwn
     replace hK := hK.trans hk
     replace hN_h_want := hN_h_want.kp hk
     replace hL_q_Sources := hL_q_Sources.kp hk
     replace hN_q_Records := hN_q_Records.kp hk
     replace hL_q_Records := hL_q_Records.kp hk
     replace hN_5 := hN_5.kp hk
     replace hN_6 := hN_6.kp hk
     replace hN_7 := hN_7.kp hk
     refine HO.call (want_none) rfl (ec en_42 rfl rfl) (host_pack_walk (fr := (Ow.box bh 97 #[.bool a0_0_2, .int .i64 a0_1_2, .map (some rh_want), .int .i64 a0_3_3, .int .i64 a0_4_3] :: Ow.map rh_want (fun (x : T_api_Addr) => .agg (e_api_Addr x).toArray) (fun (x : T_api_Filter) => .agg #[.bool x.1, x.2.1]) a0_2_2 :: Ow.box b_2 31 (c_api_Talk (.bool q_V6) (.int .i64 q_Version) (.int .i64 q_Kind) (.int .i64 q_Resp) q_Group (.bool q_Quiet) (.int .i64 q_Robust) (.int .i64 q_Every) vq_Sources vq_Records).toArray :: Ow.own 31 26 e_api_Talk vout_1 out_1 :: Ow.own 28 17 e_api_Addr vr_2 r_5 :: fr)) a0_0_2 records_1 vrecords_1 hS hN_7 hL_10 hM) ?_
     rintro vr_4 h_27 ⟨F_20, r_10, _, rfl, hk, hS, _, _, hL_11, hM⟩
     replace hK := hK.trans hk
     replace hN_h_want := hN_h_want.kp hk
     replace hL_q_Sources := hL_q_Sources.kp hk
     replace hN_q_Records := hN_q_Records.kp hk
     replace hL_q_Records := hL_q_Records.kp hk
     replace hN_5 := hN_5.kp hk
     replace hN_6 := hN_6.kp hk
     obtain ⟨ho_10, hM⟩ := hM
     refine HO.eff (want_none) rfl (st_append te_33 hS (i := 4) rfl (hS.own 0 rfl).slice rfl rfl rfl (fun a_ ha_ => nfo_api_Talk (hL_11.is.all a_ ha_)) ho_10 (by omega)) ?_
     rintro v_3 h_28 ⟨hS, hk⟩
     replace hK := hK.trans hk
     replace hN_h_want := hN_h_want.kp hk
     replace hL_q_Sources := hL_q_Sources.kp hk
     replace hN_q_Records := hN_q_Records.kp hk
     replace hL_q_Records := hL_q_Records.kp hk
     replace hN_5 := hN_5.kp hk
     replace hN_6 := hN_6.kp hk
     replace hL_11 := hL_11.kp hk
     have hN_13 : NfL nf_api_Talk F_20 h_28 (out_1 ++ r_10) := NfL.app hN_6 hL_11
     refine oA (v_3) rfl rfl ?_
     refine HO.nil (thenQ_normal (?_))
     refine HW.ret (?_)
     refine ⟨.inr rfl, v_3, res1 rfl (rt rfl), ?_⟩
     replace hS : St F_20 (Ow.own 31 26 e_api_Talk v_3 (out_1 ++ r_10) :: Ow.box bh 97 #[.bool a0_0_2, .int .i64 a0_1_2, .map (some rh_want), .int .i64 a0_3_3, .int .i64 a0_4_3] :: Ow.map rh_want (fun (x : T_api_Addr) => .agg (e_api_Addr x).toArray) (fun (x : T_api_Filter) => .agg #[.bool x.1, x.2.1]) a0_2_2 :: fr) h_28 := hS.perm2 [4, 1, 2] 6 rfl rfl
     exact ⟨F_20, out_1 ++ r_10, a0_0_2, a0_1_2, a0_2_2, a0_3_3, a0_4_3, v_3, rfl, hK, hS, hN_h_want, hL_q_Sources, hN_q_Records, hL_q_Records, hN_13, hN_5, hM⟩
def law20_lives_W (Q : Bool → Prop) : Prop :=
 host_New_W false (law20_four_W 239 1 (fun r_3 => host_Host_Set_W false 0 [] 0 0 0 r_3 true [] (fun r0_1 r1_1 a0_v6_1 a0_now_1 a0m_1 a0_one_1 a0_two_1 => law18_Usual_W  (fun r_4 => host_Host_Hear_W a0_v6_1 a0_now_1 a0m_1 a0_one_1 a0_two_1 1 r_4 false 3 1 0 (false, (default : Ba 16)) false 0 0 [] [] (fun r_5 a0_v6_2 a0_now_2 a0m_2 a0_one_2 a0_two_2 => (r1_1 = 0 → ((r0_1.length : Int) = 1 → ((0 : Int) ≤ 0 ∧ 0 < (r0_1.length : Int)) ∧ ((((((gi r0_1 0).2.2.2.2.2.2.2.2.2).2).length : Int) = 1 → ((0 : Int) ≤ 0 ∧ 0 < ((((gi r0_1 0).2.2.2.2.2.2.2.2.2).2).length : Int)) ∧ ((((gi (((gi r0_1 0).2.2.2.2.2.2.2.2.2).2) 0).1) = 4 → ((r_5.length : Int) = 1 → ((0 : Int) ≤ 0 ∧ 0 < (r_5.length : Int)) ∧ ((((((gi r_5 0).2.2.2.2.2.2.2.2.2).2).length : Int) = 1 → ((0 : Int) ≤ 0 ∧ 0 < ((((gi r_5 0).2.2.2.2.2.2.2.2.2).2).length : Int)) ∧ (Q (decide (((gi (((gi r_5 0).2.2.2.2.2.2.2.2.2).2) 0).1) = 2)))) ∧ (¬ (((((gi r_5 0).2.2.2.2.2.2.2.2.2).2).length : Int) = 1) → Q false))) ∧ (¬ ((r_5.length : Int) = 1) → Q false)) ∧ (¬ (((gi (((gi r0_1 0).2.2.2.2.2.2.2.2.2).2) 0).1) = 4) → Q false))) ∧ (¬ (((((gi r0_1 0).2.2.2.2.2.2.2.2.2).2).length : Int) = 1) → Q false))) ∧ (¬ ((r0_1.length : Int) = 1) → Q false)) ∧ (¬ (r1_1 = 0) → Q false))))))
theorem law20_lives_walk {F : Fz} {fr : List Ow} {h0 : Heap}  (hS : St F (fr) h0)  {Q : Bool → Prop} (hM : law20_lives_W Q) :
  HC Tryz.prog 10 #[] h0 fun u h' => ∃ (F' : Fz) (r_1 : Bool), u = .bool r_1 ∧ Kp F h0 F' h' ∧ St F' (fr) h' ∧ Q r_1 := by
 unfold law20_lives_W at hM
 have hK := Kp.refl F h0
 refine HC.of_HW (n := 65) Tryz.func10 rfl rfl (Nat.le_of_ble_eq_true rfl) ?_
 refine HW.seq ?_
 refine HW.region ?_
 refine oA (.bool false) rfl rfl ?_
 refine HO.nil (thenQ_normal (?_))
 refine HW.seq ?_
 refine HW.region ?_
 refine HO.call (want_none) rfl (ec en_15 rfl rfl) (host_New_walk (fr := (fr)) false hS hM) ?_
 rintro _ h_1 ⟨F_1, b_1, r_2, rfl, hk, hS, hL_1, hM⟩
 replace hK := hK.trans hk
 refine oA (.pointer (some ⟨b_1, 0, none⟩)) rfl rfl ?_
 refine HO.nil (thenQ_normal (?_))
 refine HW.seq ?_
 refine HW.region ?_
 refine oM (.pointer (some ⟨b_1, 0, none⟩)) rfl rfl ?_
 refine HO.call (want_none) rfl (ec en_41 rfl rfl) (law20_four_walk (fr := (Ow.box b_1 97 #[.bool false, .int .i64 0, .map (some r_2), .int .i64 0, .int .i64 0] :: Ow.map r_2 (fun (x : T_api_Addr) => .agg (e_api_Addr x).toArray) (fun (x : T_api_Filter) => .agg #[.bool x.1, x.2.1]) ([] : List (T_api_Addr × T_api_Filter)) :: fr)) 239 1 hS hM) ?_
 rintro _ h_2 ⟨F_2, r_3, rfl, hk, hS, hM⟩
 replace hK := hK.trans hk
 replace hL_1 := hL_1.kp hk
 refine oV (.agg #[.bool true, .slice none 0 0]) (q_build tp_50 rfl) rfl ?_
 refine HO.call (want_none) rfl (ec en_17 rfl rfl) (host_Host_Set_walk (fr := (fr)) false 0 [] 0 0 0 r_3 true [] b_1 r_2 (.slice none 0 0) hS hL_1 (SliceF.nil _ _ _ _) hM) ?_
 rintro _ h_3 ⟨F_3, r0_1, r1_1, a0_v6_1, a0_now_1, a0m_1, a0_one_1, a0_two_1, vr0_1, rfl, hk, hS, _, _, hL_2, hL_3, hM⟩
 replace hK := hK.trans hk
 refine oM (.tuple #[vr0_1, .int .i64 r1_1]) rfl rfl ?_
 refine oV (vr0_1) (q_extract rfl rfl) rfl ?_
 refine oV (.int .i64 r1_1) (q_extract rfl rfl) rfl ?_
 refine oA (vr0_1) rfl rfl ?_
 refine oA (.int .i64 r1_1) rfl rfl ?_
 refine HO.nil (thenQ_normal (?_))
 refine HW.seq ?_
 refine HW.region ?_
 refine oM (.pointer (some ⟨b_1, 0, none⟩)) rfl rfl ?_
 refine HO.call (want_none) rfl (ec en_20 rfl rfl) (law18_Usual_walk (fr := (Ow.own 31 26 e_api_Talk vr0_1 r0_1 :: Ow.box b_1 97 #[.bool a0_v6_1, .int .i64 a0_now_1, .map (some r_2), .int .i64 a0_one_1, .int .i64 a0_two_1] :: Ow.map r_2 (fun (x : T_api_Addr) => .agg (e_api_Addr x).toArray) (fun (x : T_api_Filter) => .agg #[.bool x.1, x.2.1]) a0m_1 :: fr))  hS hM) ?_
 rintro _ h_4 ⟨F_4, r_4, rfl, hk, hS, hM⟩
 replace hK := hK.trans hk
 replace hL_2 := hL_2.kp hk
 replace hL_3 := hL_3.kp hk
 refine oV (.agg (c_api_Talk (.bool false) (.int .i64 3) (.int .i64 1) (.int .i64 0) (false, (default : Ba 16)) (.bool false) (.int .i64 0) (.int .i64 0) (.slice none 0 0) (.slice none 0 0)).toArray) (q_build tp_31 rfl) rfl ?_
 replace hS : St F_4 (Ow.box b_1 97 #[.bool a0_v6_1, .int .i64 a0_now_1, .map (some r_2), .int .i64 a0_one_1, .int .i64 a0_two_1] :: Ow.map r_2 (fun (x : T_api_Addr) => .agg (e_api_Addr x).toArray) (fun (x : T_api_Filter) => .agg #[.bool x.1, x.2.1]) a0m_1 :: Ow.own 31 26 e_api_Talk vr0_1 r0_1 :: fr) h_4 := hS.perm2 [1, 2, 0] 3 rfl rfl
 refine HO.call (want_none) rfl (ec en_19 rfl rfl) (host_Host_Hear_walk (fr := (Ow.own 31 26 e_api_Talk vr0_1 r0_1 :: fr)) a0_v6_1 a0_now_1 a0m_1 a0_one_1 a0_two_1 1 r_4 false 3 1 0 (false, (default : Ba 16)) false 0 0 [] [] b_1 r_2 (.slice none 0 0) (.slice none 0 0) hS hL_3 (SliceF.nil _ _ _ _) (NfL.nil _ _ _) (SliceF.nil _ _ _ _) hM) ?_
 rintro vr_1 h_5 ⟨F_5, r_5, a0_v6_2, a0_now_2, a0m_2, a0_one_2, a0_two_2, _, rfl, hk, hS, _, _, _, _, hL_4, hL_5, hM⟩
 replace hK := hK.trans hk
 replace hL_2 := hL_2.kp hk
 refine oA (vr_1) rfl rfl ?_
 refine HO.nil (thenQ_normal (?_))
 refine HW.seq ?_
 refine HW.region ?_
 refine oM (.int .i64 r1_1) rfl rfl ?_
 refine oV (.bool (decide (r1_1 = 0))) (q_eql rfl rfl) rfl ?_
 refine oM (.bool (decide (r1_1 = 0))) rfl rfl ?_
 rcases Bool.eq_false_or_eq_true (decide (r1_1 = 0)) with c_1 | c_1
 ·
  replace hM := hM.1 (of_decide_eq_true c_1)
  refine HO.val (v := vr0_1) (want_by rfl rfl c_1) rfl (q_move rfl) ?_
  refine HO.val (v := .int .i64 (r0_1.length : Int)) (want_by rfl rfl c_1) rfl (q_len ts_33 (shp (hS.own 3 rfl).slice) rfl rfl) ?_
  refine HO.val (v := .bool (decide ((r0_1.length : Int) = 1))) (want_by rfl rfl c_1) rfl (q_eql rfl rfl) ?_
  refine oV (.bool (decide ((r0_1.length : Int) = 1))) (q_pickK true rfl c_1 rfl) rfl ?_
  refine oM (.bool (decide ((r0_1.length : Int) = 1))) rfl rfl ?_
  rcases Bool.eq_false_or_eq_true (decide ((r0_1.length : Int) = 1)) with c_2 | c_2
  ·
   replace hM := hM.1 (of_decide_eq_true c_2)
   refine HO.val (v := vr0_1) (want_by rfl rfl c_2) rfl (q_move rfl) ?_
   obtain ⟨ho_1, hM⟩ := hM
   refine HO.val (v := elemPtr 26 vr0_1 (0 : Int).toNat) (want_by rfl rfl c_2) rfl (q_idx ts_33 (hS.own 3 rfl).slice rfl rfl ho_1) ?_
   refine HO.val (v := fieldPtr 26 vr0_1 (0 : Int).toNat 25) (want_by rfl rfl c_2) rfl (q_fldElem fa_31_9 (hS.own 3 rfl).slice rfl ho_1) ?_
   refine HO.val (v := ((gi r0_1 0).2.2.2.2.2.2.2.2.2).1) (want_by rfl rfl c_2) rfl (q_ldField to_22 (hS.own 3 rfl).slice rfl ho_1 (by decide) rfl) ?_
   refine HO.val (v := .int .i64 ((((gi r0_1 0).2.2.2.2.2.2.2.2.2).2).length : Int)) (want_by rfl rfl c_2) rfl (q_len ts_22 (shp (nfi_api_Talk_25 (NfI.at hL_2.is ho_1))) rfl rfl) ?_
   refine HO.val (v := .bool (decide (((((gi r0_1 0).2.2.2.2.2.2.2.2.2).2).length : Int) = 1))) (want_by rfl rfl c_2) rfl (q_eql rfl rfl) ?_
   refine oV (.bool (decide (((((gi r0_1 0).2.2.2.2.2.2.2.2.2).2).length : Int) = 1))) (q_pickK true rfl c_2 rfl) rfl ?_
   refine oM (.bool (decide (((((gi r0_1 0).2.2.2.2.2.2.2.2.2).2).length : Int) = 1))) rfl rfl ?_
   rcases Bool.eq_false_or_eq_true (decide (((((gi r0_1 0).2.2.2.2.2.2.2.2.2).2).length : Int) = 1)) with c_3 | c_3
   ·
    replace hM := hM.1 (of_decide_eq_true c_3)
    refine HO.val (v := vr0_1) (want_by rfl rfl c_3) rfl (q_move rfl) ?_
    refine HO.val (v := elemPtr 26 vr0_1 (0 : Int).toNat) (want_by rfl rfl c_3) rfl (q_idx ts_33 (hS.own 3 rfl).slice rfl rfl ho_1) ?_
    refine HO.val (v := fieldPtr 26 vr0_1 (0 : Int).toNat 25) (want_by rfl rfl c_3) rfl (q_fldElem fa_31_9 (hS.own 3 rfl).slice rfl ho_1) ?_
    refine HO.val (v := ((gi r0_1 0).2.2.2.2.2.2.2.2.2).1) (want_by rfl rfl c_3) rfl (q_ldField to_22 (hS.own 3 rfl).slice rfl ho_1 (by decide) rfl) ?_
    obtain ⟨ho_2, hM⟩ := hM
    refine HO.val (v := elemPtr 19 (((gi r0_1 0).2.2.2.2.2.2.2.2.2).1) (0 : Int).toNat) (want_by rfl rfl c_3) rfl (q_idx ts_22 (nfi_api_Talk_25 (NfI.at hL_2.is ho_1)) rfl rfl ho_2) ?_
    refine HO.val (v := fieldPtr 19 (((gi r0_1 0).2.2.2.2.2.2.2.2.2).1) (0 : Int).toNat 0) (want_by rfl rfl c_3) rfl (q_fldElem fa_89_0 (nfi_api_Talk_25 (NfI.at hL_2.is ho_1)) rfl ho_2) ?_
    refine HO.val (v := .int .i64 ((gi (((gi r0_1 0).2.2.2.2.2.2.2.2.2).2) 0).1)) (want_by rfl rfl c_3) rfl (q_ldField to_3 (nfi_api_Talk_25 (NfI.at hL_2.is ho_1)) rfl ho_2 (by decide) rfl) ?_
    refine HO.val (v := .bool (decide (((gi (((gi r0_1 0).2.2.2.2.2.2.2.2.2).2) 0).1) = 4))) (want_by rfl rfl c_3) rfl (q_eql rfl rfl) ?_
    refine oV (.bool (decide (((gi (((gi r0_1 0).2.2.2.2.2.2.2.2.2).2) 0).1) = 4))) (q_pickK true rfl c_3 rfl) rfl ?_
    refine oM (.bool (decide (((gi (((gi r0_1 0).2.2.2.2.2.2.2.2.2).2) 0).1) = 4))) rfl rfl ?_
    rcases Bool.eq_false_or_eq_true (decide (((gi (((gi r0_1 0).2.2.2.2.2.2.2.2.2).2) 0).1) = 4)) with c_4 | c_4
    ·
     replace hM := hM.1 (of_decide_eq_true c_4)
     refine HO.val (v := vr_1) (want_by rfl rfl c_4) rfl (q_move rfl) ?_
     refine HO.val (v := .int .i64 (r_5.length : Int)) (want_by rfl rfl c_4) rfl (q_len ts_33 (shp (hS.own 0 rfl).slice) rfl rfl) ?_
     refine HO.val (v := .bool (decide ((r_5.length : Int) = 1))) (want_by rfl rfl c_4) rfl (q_eql rfl rfl) ?_
     refine oV (.bool (decide ((r_5.length : Int) = 1))) (q_pickK true rfl c_4 rfl) rfl ?_
     refine oM (.bool (decide ((r_5.length : Int) = 1))) rfl rfl ?_
     rcases Bool.eq_false_or_eq_true (decide ((r_5.length : Int) = 1)) with c_5 | c_5
     ·
      replace hM := hM.1 (of_decide_eq_true c_5)
      refine HO.val (v := vr_1) (want_by rfl rfl c_5) rfl (q_move rfl) ?_
      obtain ⟨ho_3, hM⟩ := hM
      refine HO.val (v := elemPtr 26 vr_1 (0 : Int).toNat) (want_by rfl rfl c_5) rfl (q_idx ts_33 (hS.own 0 rfl).slice rfl rfl ho_3) ?_
      refine HO.val (v := fieldPtr 26 vr_1 (0 : Int).toNat 25) (want_by rfl rfl c_5) rfl (q_fldElem fa_31_9 (hS.own 0 rfl).slice rfl ho_3) ?_
      refine HO.val (v := ((gi r_5 0).2.2.2.2.2.2.2.2.2).1) (want_by rfl rfl c_5) rfl (q_ldField to_22 (hS.own 0 rfl).slice rfl ho_3 (by decide) rfl) ?_
      refine HO.val (v := .int .i64 ((((gi r_5 0).2.2.2.2.2.2.2.2.2).2).length : Int)) (want_by rfl rfl c_5) rfl (q_len ts_22 (shp (nfi_api_Talk_25 (NfI.at hL_4.is ho_3))) rfl rfl) ?_
      refine HO.val (v := .bool (decide (((((gi r_5 0).2.2.2.2.2.2.2.2.2).2).length : Int) = 1))) (want_by rfl rfl c_5) rfl (q_eql rfl rfl) ?_
      refine oV (.bool (decide (((((gi r_5 0).2.2.2.2.2.2.2.2.2).2).length : Int) = 1))) (q_pickK true rfl c_5 rfl) rfl ?_
      refine oM (.bool (decide (((((gi r_5 0).2.2.2.2.2.2.2.2.2).2).length : Int) = 1))) rfl rfl ?_
      rcases Bool.eq_false_or_eq_true (decide (((((gi r_5 0).2.2.2.2.2.2.2.2.2).2).length : Int) = 1)) with c_6 | c_6
      ·
       replace hM := hM.1 (of_decide_eq_true c_6)
       refine HO.val (v := vr_1) (want_by rfl rfl c_6) rfl (q_move rfl) ?_
       refine HO.val (v := elemPtr 26 vr_1 (0 : Int).toNat) (want_by rfl rfl c_6) rfl (q_idx ts_33 (hS.own 0 rfl).slice rfl rfl ho_3) ?_
       refine HO.val (v := fieldPtr 26 vr_1 (0 : Int).toNat 25) (want_by rfl rfl c_6) rfl (q_fldElem fa_31_9 (hS.own 0 rfl).slice rfl ho_3) ?_
       refine HO.val (v := ((gi r_5 0).2.2.2.2.2.2.2.2.2).1) (want_by rfl rfl c_6) rfl (q_ldField to_22 (hS.own 0 rfl).slice rfl ho_3 (by decide) rfl) ?_
       obtain ⟨ho_4, hM⟩ := hM
       refine HO.val (v := elemPtr 19 (((gi r_5 0).2.2.2.2.2.2.2.2.2).1) (0 : Int).toNat) (want_by rfl rfl c_6) rfl (q_idx ts_22 (nfi_api_Talk_25 (NfI.at hL_4.is ho_3)) rfl rfl ho_4) ?_
       refine HO.val (v := fieldPtr 19 (((gi r_5 0).2.2.2.2.2.2.2.2.2).1) (0 : Int).toNat 0) (want_by rfl rfl c_6) rfl (q_fldElem fa_89_0 (nfi_api_Talk_25 (NfI.at hL_4.is ho_3)) rfl ho_4) ?_
       refine HO.val (v := .int .i64 ((gi (((gi r_5 0).2.2.2.2.2.2.2.2.2).2) 0).1)) (want_by rfl rfl c_6) rfl (q_ldField to_3 (nfi_api_Talk_25 (NfI.at hL_4.is ho_3)) rfl ho_4 (by decide) rfl) ?_
       refine HO.val (v := .bool (decide (((gi (((gi r_5 0).2.2.2.2.2.2.2.2.2).2) 0).1) = 2))) (want_by rfl rfl c_6) rfl (q_eql rfl rfl) ?_
       refine oV (.bool (decide (((gi (((gi r_5 0).2.2.2.2.2.2.2.2.2).2) 0).1) = 2))) (q_pickK true rfl c_6 rfl) rfl ?_
       refine oA (.bool (decide (((gi (((gi r_5 0).2.2.2.2.2.2.2.2.2).2) 0).1) = 2))) rfl rfl ?_
       refine HO.nil (thenQ_normal (?_))
       refine HW.ret (?_)
       refine ⟨.inr rfl, .bool (decide (((gi (((gi r_5 0).2.2.2.2.2.2.2.2.2).2) 0).1) = 2)), res1 rfl (rt rfl), ?_⟩
       replace hS : St F_5 (fr) h_5 := hS.perm2 [] 4 rfl rfl
       exact ⟨F_5, decide (((gi (((gi r_5 0).2.2.2.2.2.2.2.2.2).2) 0).1) = 2), rfl, hK, hS, hM⟩
      ·
       replace hM := hM.2 (of_decide_eq_false c_6)
       refine HO.past (past_by rfl rfl c_6) rfl ?_
       refine HO.past (past_by rfl rfl c_6) rfl ?_
       refine HO.past (past_by rfl rfl c_6) rfl ?_
       refine HO.past (past_by rfl rfl c_6) rfl ?_
       refine HO.past (past_by rfl rfl c_6) rfl ?_
       refine HO.past (past_by rfl rfl c_6) rfl ?_
       refine HO.past (past_by rfl rfl c_6) rfl ?_
       refine HO.past (past_by rfl rfl c_6) rfl ?_
       refine oV (.bool false) (q_pickK false rfl c_6 rfl) rfl ?_
       refine oA (.bool false) rfl rfl ?_
       refine HO.nil (thenQ_normal (?_))
       refine HW.ret (?_)
       refine ⟨.inr rfl, .bool false, res1 rfl (rt rfl), ?_⟩
       replace hS : St F_5 (fr) h_5 := hS.perm2 [] 4 rfl rfl
       exact ⟨F_5, false, rfl, hK, hS, hM⟩
     ·
      replace hM := hM.2 (of_decide_eq_false c_5)
      refine HO.past (past_by rfl rfl c_5) rfl ?_
      refine HO.past (past_by rfl rfl c_5) rfl ?_
      refine HO.past (past_by rfl rfl c_5) rfl ?_
      refine HO.past (past_by rfl rfl c_5) rfl ?_
      refine HO.past (past_by rfl rfl c_5) rfl ?_
      refine HO.past (past_by rfl rfl c_5) rfl ?_
      refine oV (.bool false) (q_pickK false rfl c_5 rfl) rfl ?_
      refine oM (.bool false) rfl rfl ?_
      refine HO.past (past_some rfl rfl) rfl ?_
      refine HO.past (past_some rfl rfl) rfl ?_
      refine HO.past (past_some rfl rfl) rfl ?_
      refine HO.past (past_some rfl rfl) rfl ?_
      refine HO.past (past_some rfl rfl) rfl ?_
      refine HO.past (past_some rfl rfl) rfl ?_
      refine HO.past (past_some rfl rfl) rfl ?_
      refine HO.past (past_some rfl rfl) rfl ?_
      refine oV (.bool false) (q_pick rfl rfl) rfl ?_
      refine oA (.bool false) rfl rfl ?_
      refine HO.nil (thenQ_normal (?_))
      refine HW.ret (?_)
      refine ⟨.inr rfl, .bool false, res1 rfl (rt rfl), ?_⟩
      replace hS : St F_5 (fr) h_5 := hS.perm2 [] 4 rfl rfl
      exact ⟨F_5, false, rfl, hK, hS, hM⟩
    ·
     replace hM := hM.2 (of_decide_eq_false c_4)
     refine HO.past (past_by rfl rfl c_4) rfl ?_
     refine HO.past (past_by rfl rfl c_4) rfl ?_
     refine HO.past (past_by rfl rfl c_4) rfl ?_
     refine oV (.bool false) (q_pickK false rfl c_4 rfl) rfl ?_
     refine oM (.bool false) rfl rfl ?_
     refine HO.past (past_some rfl rfl) rfl ?_
     refine HO.past (past_some rfl rfl) rfl ?_
     refine HO.past (past_some rfl rfl) rfl ?_
     refine HO.past (past_some rfl rfl) rfl ?_
     refine HO.past (past_some rfl rfl) rfl ?_
     refine HO.past (past_some rfl rfl) rfl ?_
     refine oV (.bool false) (q_pick rfl rfl) rfl ?_
     refine oM (.bool false) rfl rfl ?_
     refine HO.past (past_some rfl rfl) rfl ?_
     refine HO.past (past_some rfl rfl) rfl ?_
     refine HO.past (past_some rfl rfl) rfl ?_
     refine HO.past (past_some rfl rfl) rfl ?_
     refine HO.past (past_some rfl rfl) rfl ?_
     refine HO.past (past_some rfl rfl) rfl ?_
     refine HO.past (past_some rfl rfl) rfl ?_
     refine HO.past (past_some rfl rfl) rfl ?_
     refine oV (.bool false) (q_pick rfl rfl) rfl ?_
     refine oA (.bool false) rfl rfl ?_
     refine HO.nil (thenQ_normal (?_))
     refine HW.ret (?_)
     refine ⟨.inr rfl, .bool false, res1 rfl (rt rfl), ?_⟩
     replace hS : St F_5 (fr) h_5 := hS.perm2 [] 4 rfl rfl
     exact ⟨F_5, false, rfl, hK, hS, hM⟩
   ·
    replace hM := hM.2 (of_decide_eq_false c_3)
    refine HO.past (past_by rfl rfl c_3) rfl ?_
    refine HO.past (past_by rfl rfl c_3) rfl ?_
    refine HO.past (past_by rfl rfl c_3) rfl ?_
    refine HO.past (past_by rfl rfl c_3) rfl ?_
    refine HO.past (past_by rfl rfl c_3) rfl ?_
    refine HO.past (past_by rfl rfl c_3) rfl ?_
    refine HO.past (past_by rfl rfl c_3) rfl ?_
    refine HO.past (past_by rfl rfl c_3) rfl ?_
    refine oV (.bool false) (q_pickK false rfl c_3 rfl) rfl ?_
    refine oM (.bool false) rfl rfl ?_
    refine HO.past (past_some rfl rfl) rfl ?_
    refine HO.past (past_some rfl rfl) rfl ?_
    refine HO.past (past_some rfl rfl) rfl ?_
    refine oV (.bool false) (q_pick rfl rfl) rfl ?_
    refine oM (.bool false) rfl rfl ?_
    refine HO.past (past_some rfl rfl) rfl ?_
    refine HO.past (past_some rfl rfl) rfl ?_
    refine HO.past (past_some rfl rfl) rfl ?_
    refine HO.past (past_some rfl rfl) rfl ?_
    refine HO.past (past_some rfl rfl) rfl ?_
    refine HO.past (past_some rfl rfl) rfl ?_
    refine oV (.bool false) (q_pick rfl rfl) rfl ?_
    refine oM (.bool false) rfl rfl ?_
    refine HO.past (past_some rfl rfl) rfl ?_
    refine HO.past (past_some rfl rfl) rfl ?_
    refine HO.past (past_some rfl rfl) rfl ?_
    refine HO.past (past_some rfl rfl) rfl ?_
    refine HO.past (past_some rfl rfl) rfl ?_
    refine HO.past (past_some rfl rfl) rfl ?_
    refine HO.past (past_some rfl rfl) rfl ?_
    refine HO.past (past_some rfl rfl) rfl ?_
    refine oV (.bool false) (q_pick rfl rfl) rfl ?_
    refine oA (.bool false) rfl rfl ?_
    refine HO.nil (thenQ_normal (?_))
    refine HW.ret (?_)
    refine ⟨.inr rfl, .bool false, res1 rfl (rt rfl), ?_⟩
    replace hS : St F_5 (fr) h_5 := hS.perm2 [] 4 rfl rfl
    exact ⟨F_5, false, rfl, hK, hS, hM⟩
  ·
   replace hM := hM.2 (of_decide_eq_false c_2)
   refine HO.past (past_by rfl rfl c_2) rfl ?_
   refine HO.past (past_by rfl rfl c_2) rfl ?_
   refine HO.past (past_by rfl rfl c_2) rfl ?_
   refine HO.past (past_by rfl rfl c_2) rfl ?_
   refine HO.past (past_by rfl rfl c_2) rfl ?_
   refine HO.past (past_by rfl rfl c_2) rfl ?_
   refine oV (.bool false) (q_pickK false rfl c_2 rfl) rfl ?_
   refine oM (.bool false) rfl rfl ?_
   refine HO.past (past_some rfl rfl) rfl ?_
   refine HO.past (past_some rfl rfl) rfl ?_
   refine HO.past (past_some rfl rfl) rfl ?_
   refine HO.past (past_some rfl rfl) rfl ?_
   refine HO.past (past_some rfl rfl) rfl ?_
   refine HO.past (past_some rfl rfl) rfl ?_
   refine HO.past (past_some rfl rfl) rfl ?_
   refine HO.past (past_some rfl rfl) rfl ?_
   refine oV (.bool false) (q_pick rfl rfl) rfl ?_
   refine oM (.bool false) rfl rfl ?_
   refine HO.past (past_some rfl rfl) rfl ?_
   refine HO.past (past_some rfl rfl) rfl ?_
   refine HO.past (past_some rfl rfl) rfl ?_
   refine oV (.bool false) (q_pick rfl rfl) rfl ?_
   refine oM (.bool false) rfl rfl ?_
   refine HO.past (past_some rfl rfl) rfl ?_
   refine HO.past (past_some rfl rfl) rfl ?_
   refine HO.past (past_some rfl rfl) rfl ?_
   refine HO.past (past_some rfl rfl) rfl ?_
   refine HO.past (past_some rfl rfl) rfl ?_
   refine HO.past (past_some rfl rfl) rfl ?_
   refine oV (.bool false) (q_pick rfl rfl) rfl ?_
   refine oM (.bool false) rfl rfl ?_
   refine HO.past (past_some rfl rfl) rfl ?_
   refine HO.past (past_some rfl rfl) rfl ?_
   refine HO.past (past_some rfl rfl) rfl ?_
   refine HO.past (past_some rfl rfl) rfl ?_
   refine HO.past (past_some rfl rfl) rfl ?_
   refine HO.past (past_some rfl rfl) rfl ?_
   refine HO.past (past_some rfl rfl) rfl ?_
   refine HO.past (past_some rfl rfl) rfl ?_
   refine oV (.bool false) (q_pick rfl rfl) rfl ?_
   refine oA (.bool false) rfl rfl ?_
   refine HO.nil (thenQ_normal (?_))
   refine HW.ret (?_)
   refine ⟨.inr rfl, .bool false, res1 rfl (rt rfl), ?_⟩
   replace hS : St F_5 (fr) h_5 := hS.perm2 [] 4 rfl rfl
   exact ⟨F_5, false, rfl, hK, hS, hM⟩
 ·
  replace hM := hM.2 (of_decide_eq_false c_1)
  refine HO.past (past_by rfl rfl c_1) rfl ?_
  refine HO.past (past_by rfl rfl c_1) rfl ?_
  refine HO.past (past_by rfl rfl c_1) rfl ?_
  refine oV (.bool false) (q_pickK false rfl c_1 rfl) rfl ?_
  refine oM (.bool false) rfl rfl ?_
  refine HO.past (past_some rfl rfl) rfl ?_
  refine HO.past (past_some rfl rfl) rfl ?_
  refine HO.past (past_some rfl rfl) rfl ?_
  refine HO.past (past_some rfl rfl) rfl ?_
  refine HO.past (past_some rfl rfl) rfl ?_
  refine HO.past (past_some rfl rfl) rfl ?_
  refine oV (.bool false) (q_pick rfl rfl) rfl ?_
  refine oM (.bool false) rfl rfl ?_
  refine HO.past (past_some rfl rfl) rfl ?_
  refine HO.past (past_some rfl rfl) rfl ?_
  refine HO.past (past_some rfl rfl) rfl ?_
  refine HO.past (past_some rfl rfl) rfl ?_
  refine HO.past (past_some rfl rfl) rfl ?_
  refine HO.past (past_some rfl rfl) rfl ?_
  refine HO.past (past_some rfl rfl) rfl ?_
  refine HO.past (past_some rfl rfl) rfl ?_
  refine oV (.bool false) (q_pick rfl rfl) rfl ?_
  refine oM (.bool false) rfl rfl ?_
  refine HO.past (past_some rfl rfl) rfl ?_
  refine HO.past (past_some rfl rfl) rfl ?_
  refine HO.past (past_some rfl rfl) rfl ?_
  refine oV (.bool false) (q_pick rfl rfl) rfl ?_
  refine oM (.bool false) rfl rfl ?_
  refine HO.past (past_some rfl rfl) rfl ?_
  refine HO.past (past_some rfl rfl) rfl ?_
  refine HO.past (past_some rfl rfl) rfl ?_
  refine HO.past (past_some rfl rfl) rfl ?_
  refine HO.past (past_some rfl rfl) rfl ?_
  refine HO.past (past_some rfl rfl) rfl ?_
  refine oV (.bool false) (q_pick rfl rfl) rfl ?_
  refine oM (.bool false) rfl rfl ?_
  refine HO.past (past_some rfl rfl) rfl ?_
  refine HO.past (past_some rfl rfl) rfl ?_
  refine HO.past (past_some rfl rfl) rfl ?_
  refine HO.past (past_some rfl rfl) rfl ?_
  refine HO.past (past_some rfl rfl) rfl ?_
  refine HO.past (past_some rfl rfl) rfl ?_
  refine HO.past (past_some rfl rfl) rfl ?_
  refine HO.past (past_some rfl rfl) rfl ?_
  refine oV (.bool false) (q_pick rfl rfl) rfl ?_
  refine oA (.bool false) rfl rfl ?_
  refine HO.nil (thenQ_normal (?_))
  refine HW.ret (?_)
  refine ⟨.inr rfl, .bool false, res1 rfl (rt rfl), ?_⟩
  replace hS : St F_5 (fr) h_5 := hS.perm2 [] 4 rfl rfl
  exact ⟨F_5, false, rfl, hK, hS, hM⟩
def host_Pack_W (v6 : Bool) (l : List T_api_Record) (Q : (List T_api_Talk) → Prop) : Prop :=
 host_pack_W v6 l (fun r_2 => Q r_2)
theorem host_Pack_walk {F : Fz} {fr : List Ow} {h0 : Heap} (v6 : Bool) (l : List T_api_Record) (vl : Value) (hS : St F (fr) h0) (hN_l : NfL nf_api_Record F h0 l) (hL_l : SliceF F h0 19 e_api_Record vl l) {Q : (List T_api_Talk) → Prop} (hM : host_Pack_W v6 l Q) :
  HC Tryz.prog 11 #[.bool v6, vl] h0 fun u h' => ∃ (F' : Fz) (r_1 : List T_api_Talk) (vr_1 : Value), u = vr_1 ∧ Kp F h0 F' h' ∧ St F' (Ow.own 31 26 e_api_Talk vr_1 r_1 :: fr) h' ∧ (NfL nf_api_Record F' h' l) ∧ (SliceF F' h' 19 e_api_Record vl l) ∧ (NfL nf_api_Talk F' h' r_1) ∧ Q r_1 := by
 unfold host_Pack_W at hM
 have hK := Kp.refl F h0
 refine HC.of_HW (n := 8) Tryz.func11 rfl rfl (Nat.le_of_ble_eq_true rfl) ?_
 refine HW.seq ?_
 refine HW.region ?_
 refine oA (.slice none 0 0) rfl rfl ?_
 refine HO.nil (thenQ_normal (?_))
 refine HW.seq ?_
 refine HW.region ?_
 refine oM (.bool v6) rfl rfl ?_
 refine oM (vl) rfl rfl ?_
 refine HO.call (want_none) rfl (ec en_42 rfl rfl) (host_pack_walk (fr := (fr)) v6 l vl hS hN_l hL_l hM) ?_
 rintro vr_2 h_1 ⟨F_1, r_2, _, rfl, hk, hS, _, _, hL_1, hM⟩
 replace hK := hK.trans hk
 replace hN_l := hN_l.kp hk
 replace hL_l := hL_l.kp hk
 refine oA (vr_2) rfl rfl ?_
 refine HO.nil (thenQ_normal (?_))
 refine HW.ret (?_)
 refine ⟨.inr rfl, vr_2, res1 rfl (rt rfl), ?_⟩
 exact ⟨F_1, r_2, vr_2, rfl, hK, hS, hN_l, hL_l, hL_1, hM⟩
def ref20_Size_l1 (v6 : Bool) (l : List T_api_Record) (Q : Int → Prop) (K_1 : Int → Int → Prop) (n_1 : Int) (i_1 : Int) : Prop :=
 (i_1 < (l.length : Int) → (v6 = true → (I64 (n_1 + 20)) ∧ (((0 : Int) ≤ i_1 ∧ i_1 < (l.length : Int)) ∧ ((I64 (16 * ((((gi l i_1).2.2).2).length : Int))) ∧ ((I64 ((n_1 + 20) + (16 * ((((gi l i_1).2.2).2).length : Int)))) ∧ ((I64 (i_1 + 1)) ∧ (K_1 ((n_1 + 20) + (16 * ((((gi l i_1).2.2).2).length : Int))) (i_1 + 1))))))) ∧ (v6 = false → (I64 (n_1 + 8)) ∧ (((0 : Int) ≤ i_1 ∧ i_1 < (l.length : Int)) ∧ ((I64 (4 * ((((gi l i_1).2.2).2).length : Int))) ∧ ((I64 ((n_1 + 8) + (4 * ((((gi l i_1).2.2).2).length : Int)))) ∧ ((I64 (i_1 + 1)) ∧ (K_1 ((n_1 + 8) + (4 * ((((gi l i_1).2.2).2).length : Int))) (i_1 + 1)))))))) ∧ (¬ (i_1 < (l.length : Int)) → Q n_1)
def ref20_Size_W (v6 : Bool) (l : List T_api_Record) (Q : Int → Prop) : Prop :=
 loopW (fun (K_1 : (Int × Int) → Prop) (s : Int × Int) => ref20_Size_l1 v6 l Q (fun n_1 i_1 => K_1 (n_1, i_1)) s.1 s.2) (8, 0)
theorem ref20_Size_walk {F : Fz} {fr : List Ow} {h0 : Heap} (v6 : Bool) (l : List T_api_Record) (vl : Value) (hS : St F (fr) h0) (hN_l : NfL nf_api_Record F h0 l) (hL_l : SliceF F h0 19 e_api_Record vl l) {Q : Int → Prop} (hM : ref20_Size_W v6 l Q) :
  HC Tryz.prog 44 #[.bool v6, vl] h0 fun u h' => ∃ (F' : Fz) (r_1 : Int), u = .int .i64 r_1 ∧ Kp F h0 F' h' ∧ St F' (fr) h' ∧ (NfL nf_api_Record F' h' l) ∧ (SliceF F' h' 19 e_api_Record vl l) ∧ Q r_1 := by
 unfold ref20_Size_W at hM
 have hK := Kp.refl F h0
 refine HC.of_HW (n := 35) Tryz.func44 rfl rfl (Nat.le_of_ble_eq_true rfl) ?_
 refine HW.seq ?_
 refine HW.region ?_
 refine oA (.int .i64 0) rfl rfl ?_
 refine HO.nil (thenQ_normal (?_))
 refine HW.seq ?_
 refine HW.region ?_
 refine oA (.int .i64 8) rfl rfl ?_
 refine HO.nil (thenQ_normal (?_))
 refine HW.seq ?_
 refine HW.seq ?_
 refine HW.region ?_
 refine oA (.int .i64 0) rfl rfl ?_
 refine HO.nil (thenQ_normal (?_))
 refine HW.block ?_
 obtain ⟨I_1, m_1, hI_1, hR_1⟩ := hM
 refine HW.loop (S := Int × Int) (fun s f h => match s with | (n_1, i_1) => ∃ (F' : Fz), f 0 = .bool v6 ∧ f 1 = vl ∧ f 4 = .int .i64 0 ∧ f 5 = .int .i64 n_1 ∧ f 6 = .int .i64 i_1 ∧ Kp F h0 F' h ∧ St F' (fr) h ∧ (NfL nf_api_Record F' h l) ∧ (SliceF F' h 19 e_api_Record vl l) ∧ I_1 (n_1, i_1)) m_1 (8, 0) ⟨F, rfl, rfl, rfl, rfl, rfl, hK, hS, hN_l, hL_l, hI_1⟩ ?_
 rintro ⟨n_1, i_1⟩ f_1 h_1 ⟨F_1, e0, e1, e4, e5, e6, hK, hS, hN_l, hL_l, hI0⟩
 obtain ⟨K_1, hKe_1⟩ : ∃ K : Int → Int → Prop, K = fun n_1' i_1' => I_1 (n_1', i_1') ∧ m_1 (n_1', i_1') < m_1 (n_1, i_1) := ⟨_, rfl⟩
 have hM : ref20_Size_l1 v6 l Q K_1 n_1 i_1 := by rw [hKe_1]; exact hR_1 (n_1, i_1) hI0
 unfold ref20_Size_l1 at hM
 refine HW.fr [(0, .bool v6), (1, vl), (4, .int .i64 0), (5, .int .i64 n_1), (6, .int .i64 i_1)] ⟨e0, e1, e4, e5, e6, trivial⟩ ?_
 refine HW.seq ?_
 refine HW.seq ?_
 refine HW.region ?_
 refine oM (.int .i64 i_1) rfl rfl ?_
 refine oM (vl) rfl rfl ?_
 refine oV (.int .i64 (l.length : Int)) (q_len ts_22 (shp hL_l.is) rfl rfl) rfl ?_
 refine oV (.bool (decide (i_1 < (l.length : Int)))) (q_lss rfl rfl) rfl ?_
 refine HO.nil (thenQ_normal (?_))
 refine HW.cond (decide (i_1 < (l.length : Int))) rfl (fun c_1 => ?_) (fun c_1 => ?_)
 ·
  replace hM := hM.1 (of_decide_eq_true c_1)
  refine HW.skip (thenQ_normal (?_))
  refine HW.seq ?_
  refine HW.block ?_
  refine HW.seq ?_
  refine HW.region ?_
  refine oM (.bool v6) rfl rfl ?_
  refine HO.nil (thenQ_normal (?_))
  refine HW.cond v6 rfl (fun c_2 => ?_) (fun c_2 => ?_)
  ·
   replace hM := hM.1 c_2
   refine HW.region ?_
   refine oM (.int .i64 n_1) rfl rfl ?_
   obtain ⟨ho_1, hM⟩ := hM
   refine oV (.int .i64 (n_1 + 20)) (q_addN _ rfl rfl rfl ho_1.1 ho_1.2) rfl ?_
   refine oM (vl) rfl rfl ?_
   refine oM (.int .i64 i_1) rfl rfl ?_
   obtain ⟨ho_2, hM⟩ := hM
   refine oV (elemPtr 19 vl (i_1).toNat) (q_idx ts_22 hL_l.is rfl rfl ho_2) rfl ?_
   refine oV (fieldPtr 19 vl (i_1).toNat 18) (q_fldElem fa_89_2 hL_l.is rfl ho_2) rfl ?_
   refine oV (((gi l i_1).2.2).1) (q_ldField to_29 hL_l.is rfl ho_2 (by decide) rfl) rfl ?_
   refine oV (.int .i64 ((((gi l i_1).2.2).2).length : Int)) (q_len ts_29 (shp (nfi_api_Record_18 (NfI.at hN_l.is ho_2))) rfl rfl) rfl ?_
   obtain ⟨ho_3, hM⟩ := hM
   refine oV (.int .i64 (16 * ((((gi l i_1).2.2).2).length : Int))) (q_mulN _ rfl rfl rfl ho_3.1 ho_3.2) rfl ?_
   obtain ⟨ho_4, hM⟩ := hM
   refine oV (.int .i64 ((n_1 + 20) + (16 * ((((gi l i_1).2.2).2).length : Int)))) (q_addN _ rfl rfl rfl ho_4.1 ho_4.2) rfl ?_
   refine oA (.int .i64 ((n_1 + 20) + (16 * ((((gi l i_1).2.2).2).length : Int)))) rfl rfl ?_
   refine HO.nil (blockQ_normal (thenQ_normal (?_)))
   refine HW.region ?_
   refine oM (.int .i64 i_1) rfl rfl ?_
   obtain ⟨ho_5, hM⟩ := hM
   refine oV (.int .i64 (i_1 + 1)) (q_addN _ rfl rfl rfl ho_5.1 ho_5.2) rfl ?_
   refine oA (.int .i64 (i_1 + 1)) rfl rfl ?_
   refine HO.nil (thenQ_normal (?_))
   rw [hKe_1] at hM
   exact ⟨((n_1 + 20) + (16 * ((((gi l i_1).2.2).2).length : Int)), i_1 + 1), ⟨F_1, rfl, rfl, rfl, rfl, rfl, hK, hS, hN_l, hL_l, hM.1⟩, hM.2⟩
  ·
   replace hM := hM.2 c_2
   refine HW.region ?_
   refine oM (.int .i64 n_1) rfl rfl ?_
   obtain ⟨ho_6, hM⟩ := hM
   refine oV (.int .i64 (n_1 + 8)) (q_addN _ rfl rfl rfl ho_6.1 ho_6.2) rfl ?_
   refine oM (vl) rfl rfl ?_
   refine oM (.int .i64 i_1) rfl rfl ?_
   obtain ⟨ho_7, hM⟩ := hM
   refine oV (elemPtr 19 vl (i_1).toNat) (q_idx ts_22 hL_l.is rfl rfl ho_7) rfl ?_
   refine oV (fieldPtr 19 vl (i_1).toNat 18) (q_fldElem fa_89_2 hL_l.is rfl ho_7) rfl ?_
   refine oV (((gi l i_1).2.2).1) (q_ldField to_29 hL_l.is rfl ho_7 (by decide) rfl) rfl ?_
   refine oV (.int .i64 ((((gi l i_1).2.2).2).length : Int)) (q_len ts_29 (shp (nfi_api_Record_18 (NfI.at hN_l.is ho_7))) rfl rfl) rfl ?_
   obtain ⟨ho_8, hM⟩ := hM
   refine oV (.int .i64 (4 * ((((gi l i_1).2.2).2).length : Int))) (q_mulN _ rfl rfl rfl ho_8.1 ho_8.2) rfl ?_
   obtain ⟨ho_9, hM⟩ := hM
   refine oV (.int .i64 ((n_1 + 8) + (4 * ((((gi l i_1).2.2).2).length : Int)))) (q_addN _ rfl rfl rfl ho_9.1 ho_9.2) rfl ?_
   refine oA (.int .i64 ((n_1 + 8) + (4 * ((((gi l i_1).2.2).2).length : Int)))) rfl rfl ?_
   refine HO.nil (blockQ_normal (thenQ_normal (?_)))
   refine HW.region ?_
   refine oM (.int .i64 i_1) rfl rfl ?_
   obtain ⟨ho_10, hM⟩ := hM
   refine oV (.int .i64 (i_1 + 1)) (q_addN _ rfl rfl rfl ho_10.1 ho_10.2) rfl ?_
   refine oA (.int .i64 (i_1 + 1)) rfl rfl ?_
   refine HO.nil (thenQ_normal (?_))
   rw [hKe_1] at hM
   exact ⟨((n_1 + 8) + (4 * ((((gi l i_1).2.2).2).length : Int)), i_1 + 1), ⟨F_1, rfl, rfl, rfl, rfl, rfl, hK, hS, hN_l, hL_l, hM.1⟩, hM.2⟩
 ·
  replace hM := hM.2 (of_decide_eq_false c_1)
  refine HW.exit (thenQ_exit (thenQ_exit (blockQ_exit (thenQ_normal (?_)))))
  refine HW.seq ?_
  refine HW.region ?_
  refine oM (.int .i64 n_1) rfl rfl ?_
  refine oA (.int .i64 n_1) rfl rfl ?_
  refine HO.nil (thenQ_normal (?_))
  refine HW.ret (?_)
  refine ⟨.inr rfl, .int .i64 n_1, res1 rfl (rt rfl), ?_⟩
  exact ⟨F_1, n_1, rfl, hK, hS, hN_l, hL_l, hM⟩
def ref20_Pack_j1 (v6 : Bool) (l_1 : List T_api_Record) (out_1 : List T_api_Talk) (K_1 : (List T_api_Record) → (List T_api_Talk) → Prop) (n_1 : Int) : Prop :=
 ((0 : Int) ≤ n_1 ∧ n_1 ≤ (l_1.length : Int)) ∧ (ref16_Last_W v6 (fun r_3 => ∀ vl_1 : Value, (((out_1.length + ([(v6, r_3, 2, 0, (false, (default : Ba 16)), false, 0, 0, (.slice none 0 0, []), (cutV 19 vl_1 (0 : Int).toNat (n_1).toNat, cut l_1 0 n_1))] : List T_api_Talk).length) * 120 ≤ 140737488355328) ∧ (K_1 (cut l_1 n_1 (l_1.length : Int)) (out_1 ++ ([(v6, r_3, 2, 0, (false, (default : Ba 16)), false, 0, 0, (.slice none 0 0, []), (cutV 19 vl_1 (0 : Int).toNat (n_1).toNat, cut l_1 0 n_1))] : List T_api_Talk))))))
def ref20_Pack_l3 (v6 : Bool) (l_1 : List T_api_Record) (out_1 : List T_api_Talk) (K_1 : (List T_api_Record) → (List T_api_Talk) → Prop) (K_2 : Int → Prop) (n_2 : Int) : Prop :=
 (n_2 < (l_1.length : Int) → (n_2 < 64 → (I64 (n_2 + 1)) ∧ (((0 : Int) ≤ n_2 + 1 ∧ n_2 + 1 ≤ (l_1.length : Int)) ∧ (ref20_Size_W v6 (cut l_1 0 (n_2 + 1)) (fun r_2 => (r_2 ≤ 1400 → K_2 (n_2 + 1)) ∧ (¬ (r_2 ≤ 1400) → ref20_Pack_j1 v6 l_1 out_1 K_1 n_2))))) ∧ (¬ (n_2 < 64) → ref20_Pack_j1 v6 l_1 out_1 K_1 n_2)) ∧ (¬ (n_2 < (l_1.length : Int)) → ref20_Pack_j1 v6 l_1 out_1 K_1 n_2)
def ref20_Pack_l2 (v6 : Bool) (Q : (List T_api_Talk) → Prop) (K_1 : (List T_api_Record) → (List T_api_Talk) → Prop) (l_1 : List T_api_Record) (out_1 : List T_api_Talk) : Prop :=
 (0 < (l_1.length : Int) → loopW (fun (K_2 : Int → Prop) (s : Int) => ref20_Pack_l3 v6 l_1 out_1 K_1 K_2 s) 1) ∧ (¬ (0 < (l_1.length : Int)) → Q out_1)
def ref20_Pack_W (v6 : Bool) (l : List T_api_Record) (Q : (List T_api_Talk) → Prop) : Prop :=
 loopW (fun (K_1 : (List T_api_Record × List T_api_Talk) → Prop) (s : List T_api_Record × List T_api_Talk) => ref20_Pack_l2 v6 Q (fun l_1 out_1 => K_1 (l_1, out_1)) s.1 s.2) (l, [])
theorem ref20_Pack_walk {F : Fz} {fr : List Ow} {h0 : Heap} (v6 : Bool) (l : List T_api_Record) (vl : Value) (hS : St F (fr) h0) (hN_l : NfL nf_api_Record F h0 l) (hL_l : SliceF F h0 19 e_api_Record vl l) {Q : (List T_api_Talk) → Prop} (hM : ref20_Pack_W v6 l Q) :
  HC Tryz.prog 13 #[.bool v6, vl] h0 fun u h' => ∃ (F' : Fz) (r_1 : List T_api_Talk) (vr_1 : Value), u = vr_1 ∧ Kp F h0 F' h' ∧ St F' (Ow.own 31 26 e_api_Talk vr_1 r_1 :: fr) h' ∧ (NfL nf_api_Record F' h' l) ∧ (SliceF F' h' 19 e_api_Record vl l) ∧ (NfL nf_api_Talk F' h' r_1) ∧ Q r_1 := by
 unfold ref20_Pack_W at hM
 have hK := Kp.refl F h0
 refine HC.of_HW (n := 44) Tryz.func13 rfl rfl (Nat.le_of_ble_eq_true rfl) ?_
 refine HW.seq ?_
 refine HW.region ?_
 refine oA (.slice none 0 0) rfl rfl ?_
 refine HO.nil (thenQ_normal (?_))
 refine HW.seq ?_
 refine HW.region ?_
 refine HO.eff (want_none) rfl (st_litEmpty (α := T_api_Talk) e_api_Talk hS tl_33) ?_
 rintro _ h_1 ⟨b_1, rfl, hS, hk⟩
 replace hK := hK.trans hk
 replace hN_l := hN_l.kp hk
 replace hL_l := hL_l.kp hk
 have hN_2 : NfL nf_api_Talk F h_1 ([] : List T_api_Talk) := NfL.nil _ _ _
 refine oA (.slice (some ⟨b_1, 0, none⟩) 0 0) rfl rfl ?_
 refine HO.nil (thenQ_normal (?_))
 refine HW.seq ?_
 refine HW.block ?_
 obtain ⟨I_1, m_1, hI_1, hR_1⟩ := hM
 refine HW.loop (S := List T_api_Record × List T_api_Talk) (fun s f h => match s with | (l_1, out_1) => ∃ (F' : Fz) (vl_1 : Value) (vout_1 : Value), f 0 = .bool v6 ∧ f 1 = vl_1 ∧ f 4 = .slice none 0 0 ∧ f 5 = vout_1 ∧ Kp F h0 F' h ∧ St F' (Ow.own 31 26 e_api_Talk vout_1 out_1 :: fr) h ∧ (NfL nf_api_Record F' h l) ∧ (SliceF F' h 19 e_api_Record vl l) ∧ (NfL nf_api_Talk F' h ([] : List T_api_Talk)) ∧ (SliceF F' h 19 e_api_Record vl_1 l_1) ∧ (NfL nf_api_Record F' h l_1) ∧ (NfL nf_api_Talk F' h out_1) ∧ I_1 (l_1, out_1)) m_1 (l, []) ⟨F, vl, .slice (some ⟨b_1, 0, none⟩) 0 0, rfl, rfl, rfl, rfl, hK, hS, hN_l, hL_l, hN_2, hL_l, hN_l, hN_2, hI_1⟩ ?_
 rintro ⟨l_1, out_1⟩ f_1 h_2 ⟨F_1, vl_1, vout_1, e0, e1, e4, e5, hK, hS, hN_l, hL_l, hN_2, hL_1, hN_3, hN_4, hI0⟩
 obtain ⟨K_1, hKe_1⟩ : ∃ K : (List T_api_Record) → (List T_api_Talk) → Prop, K = fun l_1' out_1' => I_1 (l_1', out_1') ∧ m_1 (l_1', out_1') < m_1 (l_1, out_1) := ⟨_, rfl⟩
 have hM : ref20_Pack_l2 v6 Q K_1 l_1 out_1 := by rw [hKe_1]; exact hR_1 (l_1, out_1) hI0
 unfold ref20_Pack_l2 at hM
 refine HW.fr [(0, .bool v6), (1, vl_1), (4, .slice none 0 0), (5, vout_1)] ⟨e0, e1, e4, e5, trivial⟩ ?_
 refine HW.seq ?_
 refine HW.seq ?_
 refine HW.region ?_
 refine oM (vl_1) rfl rfl ?_
 refine oV (.int .i64 (l_1.length : Int)) (q_len ts_22 (shp hL_1.is) rfl rfl) rfl ?_
 refine oV (.bool (decide (0 < (l_1.length : Int)))) (q_gtr rfl rfl) rfl ?_
 refine HO.nil (thenQ_normal (?_))
 refine HW.cond (decide (0 < (l_1.length : Int))) rfl (fun c_1 => ?_) (fun c_1 => ?_)
 ·
  replace hM := hM.1 (of_decide_eq_true c_1)
  refine HW.skip (thenQ_normal (?_))
  refine HW.block ?_
  refine HW.seq ?_
  refine HW.region ?_
  refine oA (.int .i64 1) rfl rfl ?_
  refine HO.nil (thenQ_normal (?_))
  refine HW.seq_mid (fun f h => ∃ (F' : Fz) (n_1 : Int), f 0 = .bool v6 ∧ f 1 = vl_1 ∧ f 4 = .slice none 0 0 ∧ f 5 = vout_1 ∧ f 6 = .int .i64 n_1 ∧ Kp F h0 F' h ∧ St F' (Ow.own 31 26 e_api_Talk vout_1 out_1 :: fr) h ∧ (NfL nf_api_Record F' h l) ∧ (SliceF F' h 19 e_api_Record vl l) ∧ (NfL nf_api_Talk F' h ([] : List T_api_Talk)) ∧ (SliceF F' h 19 e_api_Record vl_1 l_1) ∧ (NfL nf_api_Record F' h l_1) ∧ (NfL nf_api_Talk F' h out_1) ∧ ref20_Pack_j1 v6 l_1 out_1 K_1 n_1) ?_ ?_
  ·
   refine HW.block ?_
   obtain ⟨I_2, m_2, hI_2, hR_2⟩ := hM
   refine HW.loop (S := Int) (fun n_2 f h => ∃ (F' : Fz), f 0 = .bool v6 ∧ f 1 = vl_1 ∧ f 4 = .slice none 0 0 ∧ f 5 = vout_1 ∧ f 6 = .int .i64 n_2 ∧ Kp F h0 F' h ∧ St F' (Ow.own 31 26 e_api_Talk vout_1 out_1 :: fr) h ∧ (NfL nf_api_Record F' h l) ∧ (SliceF F' h 19 e_api_Record vl l) ∧ (NfL nf_api_Talk F' h ([] : List T_api_Talk)) ∧ (SliceF F' h 19 e_api_Record vl_1 l_1) ∧ (NfL nf_api_Record F' h l_1) ∧ (NfL nf_api_Talk F' h out_1) ∧ I_2 n_2) m_2 1 ⟨F_1, rfl, rfl, rfl, rfl, rfl, hK, hS, hN_l, hL_l, hN_2, hL_1, hN_3, hN_4, hI_2⟩ ?_
   rintro n_2 f_2 h_3 ⟨F_2, e0, e1, e4, e5, e6, hK, hS, hN_l, hL_l, hN_2, hL_1, hN_3, hN_4, hI0⟩
   obtain ⟨K_2, hKe_2⟩ : ∃ K : Int → Prop, K = fun n_2' => I_2 n_2' ∧ m_2 n_2' < m_2 n_2 := ⟨_, rfl⟩
   have hM : ref20_Pack_l3 v6 l_1 out_1 K_1 K_2 n_2 := by rw [hKe_2]; exact hR_2 n_2 hI0
   unfold ref20_Pack_l3 at hM
   refine HW.fr [(0, .bool v6), (1, vl_1), (4, .slice none 0 0), (5, vout_1), (6, .int .i64 n_2)] ⟨e0, e1, e4, e5, e6, trivial⟩ ?_
   refine HW.seq ?_
   refine HW.seq ?_
   refine HW.region ?_
   refine oM (.int .i64 n_2) rfl rfl ?_
   refine oM (vl_1) rfl rfl ?_
   refine oV (.int .i64 (l_1.length : Int)) (q_len ts_22 (shp hL_1.is) rfl rfl) rfl ?_
   refine oV (.bool (decide (n_2 < (l_1.length : Int)))) (q_lss rfl rfl) rfl ?_
   refine oM (.bool (decide (n_2 < (l_1.length : Int)))) rfl rfl ?_
   rcases Bool.eq_false_or_eq_true (decide (n_2 < (l_1.length : Int))) with c_2 | c_2
   ·
    replace hM := hM.1 (of_decide_eq_true c_2)
    refine HO.val (v := .int .i64 n_2) (want_by rfl rfl c_2) rfl (q_move rfl) ?_
    refine HO.val (v := .bool (decide (n_2 < 64))) (want_by rfl rfl c_2) rfl (q_lss rfl rfl) ?_
    refine oV (.bool (decide (n_2 < 64))) (q_pickK true rfl c_2 rfl) rfl ?_
    refine oM (.bool (decide (n_2 < 64))) rfl rfl ?_
    rcases Bool.eq_false_or_eq_true (decide (n_2 < 64)) with c_3 | c_3
    ·
     replace hM := hM.1 (of_decide_eq_true c_3)
     refine HO.val (v := .bool v6) (want_by rfl rfl c_3) rfl (q_move rfl) ?_
     refine HO.val (v := vl_1) (want_by rfl rfl c_3) rfl (q_move rfl) ?_
     refine HO.val (v := .int .i64 n_2) (want_by rfl rfl c_3) rfl (q_move rfl) ?_
     obtain ⟨ho_1, hM⟩ := hM
     refine HO.val (v := .int .i64 (n_2 + 1)) (want_by rfl rfl c_3) rfl (q_addN _ rfl rfl rfl ho_1.1 ho_1.2) ?_
     obtain ⟨ho_2, hM⟩ := hM
     refine HO.val (v := cutV 19 vl_1 (0 : Int).toNat (n_2 + 1).toNat) (want_by rfl rfl c_3) rfl (q_slH ts_22 hL_1.is rfl rfl ho_2) ?_
     refine HO.call (want_by rfl rfl c_3) rfl (ec en_44 rfl rfl) (ref20_Size_walk (fr := (Ow.own 31 26 e_api_Talk vout_1 out_1 :: fr)) v6 (cut l_1 0 (n_2 + 1)) (cutV 19 vl_1 (0 : Int).toNat (n_2 + 1).toNat) hS (NfL.cut hN_3 _ _) (cutF hL_1 0 (n_2 + 1) (Int.le_refl _) ho_2.1 ho_2.2) hM) ?_
     rintro _ h_4 ⟨F_3, r_2, rfl, hk, hS, _, _, hM⟩
     replace hK := hK.trans hk
     replace hN_l := hN_l.kp hk
     replace hL_l := hL_l.kp hk
     replace hN_2 := hN_2.kp hk
     replace hL_1 := hL_1.kp hk
     replace hN_3 := hN_3.kp hk
     replace hN_4 := hN_4.kp hk
     refine HO.val (v := .bool (decide (r_2 ≤ 1400))) (want_by rfl rfl c_3) rfl (q_leq rfl rfl) ?_
     refine oV (.bool (decide (r_2 ≤ 1400))) (q_pickK true rfl c_3 rfl) rfl ?_
     refine HO.nil (thenQ_normal (?_))
     refine HW.cond (decide (r_2 ≤ 1400)) rfl (fun c_4 => ?_) (fun c_4 => ?_)
     ·
      replace hM := hM.1 (of_decide_eq_true c_4)
      refine HW.skip (thenQ_normal (?_))
      refine HW.block ?_
      refine HW.region ?_
      refine oM (.int .i64 n_2) rfl rfl ?_
      refine oV (.int .i64 (n_2 + 1)) (q_addN _ rfl rfl rfl ho_1.1 ho_1.2) rfl ?_
      refine oA (.int .i64 (n_2 + 1)) rfl rfl ?_
      refine HO.nil (blockQ_normal (thenQ_normal (?_)))
      rw [hKe_2] at hM
      exact ⟨n_2 + 1, ⟨F_3, rfl, rfl, rfl, rfl, rfl, hK, hS, hN_l, hL_l, hN_2, hL_1, hN_3, hN_4, hM.1⟩, hM.2⟩
     ·
      replace hM := hM.2 (of_decide_eq_false c_4)
      refine HW.exit (thenQ_exit (thenQ_exit (blockQ_exit (thenQ_normal (?_)))))
      exact ⟨F_3, n_2, rfl, rfl, rfl, rfl, rfl, hK, hS, hN_l, hL_l, hN_2, hL_1, hN_3, hN_4, hM⟩
    ·
     replace hM := hM.2 (of_decide_eq_false c_3)
     refine HO.past (past_by rfl rfl c_3) rfl ?_
     refine HO.past (past_by rfl rfl c_3) rfl ?_
     refine HO.past (past_by rfl rfl c_3) rfl ?_
     refine HO.past (past_by rfl rfl c_3) rfl ?_
     refine HO.past (past_by rfl rfl c_3) rfl ?_
     refine HO.past (past_by rfl rfl c_3) rfl ?_
     refine HO.past (past_by rfl rfl c_3) rfl ?_
     refine oV (.bool false) (q_pickK false rfl c_3 rfl) rfl ?_
     refine HO.nil (thenQ_normal (?_))
     refine HW.condF rfl ?_
     refine HW.exit (thenQ_exit (thenQ_exit (blockQ_exit (thenQ_normal (?_)))))
     exact ⟨F_2, n_2, rfl, rfl, rfl, rfl, rfl, hK, hS, hN_l, hL_l, hN_2, hL_1, hN_3, hN_4, hM⟩
   ·
    replace hM := hM.2 (of_decide_eq_false c_2)
    refine HO.past (past_by rfl rfl c_2) rfl ?_
    refine HO.past (past_by rfl rfl c_2) rfl ?_
    refine oV (.bool false) (q_pickK false rfl c_2 rfl) rfl ?_
    refine oM (.bool false) rfl rfl ?_
    refine HO.past (past_some rfl rfl) rfl ?_
    refine HO.past (past_some rfl rfl) rfl ?_
    refine HO.past (past_some rfl rfl) rfl ?_
    refine HO.past (past_some rfl rfl) rfl ?_
    refine HO.past (past_some rfl rfl) rfl ?_
    refine HO.past (past_some rfl rfl) rfl ?_
    refine HO.past (past_some rfl rfl) rfl ?_
    refine oV (.bool false) (q_pick rfl rfl) rfl ?_
    refine HO.nil (thenQ_normal (?_))
    refine HW.condF rfl ?_
    refine HW.exit (thenQ_exit (thenQ_exit (blockQ_exit (thenQ_normal (?_)))))
    exact ⟨F_2, n_2, rfl, rfl, rfl, rfl, rfl, hK, hS, hN_l, hL_l, hN_2, hL_1, hN_3, hN_4, hM⟩
  ·
   rintro f_3 h_5 ⟨F_4, n_1, e0, e1, e4, e5, e6, hK, hS, hN_l, hL_l, hN_2, hL_1, hN_3, hN_4, hM⟩
   unfold ref20_Pack_j1 at hM
   refine HW.fr [(0, .bool v6), (1, vl_1), (4, .slice none 0 0), (5, vout_1), (6, .int .i64 n_1)] ⟨e0, e1, e4, e5, e6, trivial⟩ ?_
   refine HW.regionA 15 mixed (fun h => (SliceIs h 19 e_api_Record vl_1 l_1)) [] (by kernel_rfl) ?_
   refine HA.val (k := 0) (v := vout_1) rfl rfl (by kernel_rfl) (by kernel_rfl) (want_none) rfl (fun _ hL_1 => q_move rfl) ?_
   refine HA.val (k := 1) (v := .bool v6) rfl rfl (by kernel_rfl) (by kernel_rfl) (want_none) rfl (fun _ hL_1 => q_move rfl) ?_
   refine HA.val (k := 2) (v := .bool v6) rfl rfl (by kernel_rfl) (by kernel_rfl) (want_none) rfl (fun _ hL_1 => q_move rfl) ?_
   refine HA.val (k := 4) (v := vl_1) rfl rfl (by kernel_rfl) (by kernel_rfl) (want_none) rfl (fun _ hL_1 => q_move rfl) ?_
   refine HA.val (k := 5) (v := .int .i64 n_1) rfl rfl (by kernel_rfl) (by kernel_rfl) (want_none) rfl (fun _ hL_1 => q_move rfl) ?_
   obtain ⟨ho_3, hM⟩ := hM
   refine HA.val (k := 6) (v := cutV 19 vl_1 (0 : Int).toNat (n_1).toNat) rfl rfl (by kernel_rfl) (by kernel_rfl) (want_none) rfl (fun _ hL_1 => q_slH ts_22 hL_1 rfl rfl ho_3) ?_
   refine HA.val (k := 10) (v := vl_1) rfl rfl (by kernel_rfl) (by kernel_rfl) (want_none) rfl (fun _ hL_1 => q_move rfl) ?_
   refine HA.val (k := 11) (v := .int .i64 n_1) rfl rfl (by kernel_rfl) (by kernel_rfl) (want_none) rfl (fun _ hL_1 => q_move rfl) ?_
   refine HA.val (k := 12) (v := cutV 19 vl_1 (n_1).toNat ((l_1.length : Int)).toNat) rfl rfl (by kernel_rfl) (by kernel_rfl) (want_none) rfl (fun _ hL_1 => q_slL ts_22 hL_1 rfl rfl ho_3) ?_
   refine HA.one (k := 3) ⟨hL_1.is, (Go.Wk.at_nil _ _)⟩ (by kernel_rfl) ?_
   refine HS.call rfl (want_none) rfl (ec en_9 rfl rfl) (ref16_Last_walk (fr := (Ow.own 31 26 e_api_Talk vout_1 out_1 :: fr)) v6 hS hM) ?_
   rintro _ h_6 ⟨F_5, r_3, rfl, hk, hS, hM⟩
   replace hK := hK.trans hk
   replace hN_l := hN_l.kp hk
   replace hL_l := hL_l.kp hk
   replace hN_2 := hN_2.kp hk
   replace hL_1 := hL_1.kp hk
   replace hN_3 := hN_3.kp hk
   replace hN_4 := hN_4.kp hk
   refine HA.val (k := 7) (v := .agg (c_api_Talk (.bool v6) (.int .i64 r_3) (.int .i64 2) (.int .i64 0) (false, (default : Ba 16)) (.bool false) (.int .i64 0) (.int .i64 0) (.slice none 0 0) (cutV 19 vl_1 (0 : Int).toNat (n_1).toNat)).toArray) rfl rfl (by kernel_rfl) (by kernel_rfl) (want_none) rfl (fun _ hL_1 => q_build tp_31 (fill_cons (cs' := (c_api_Talk (.bool v6) (.int .i64 0) (.int .i64 0) (.int .i64 0) (false, (default : Ba 16)) (.bool false) (.int .i64 0) (.int .i64 0) (.slice none 0 0) (.slice none 0 0)).toArray) (vc := #[.bool v6]) rfl rfl rfl (Nat.le_of_ble_eq_true rfl) rfl (fill_cons (cs' := (c_api_Talk (.bool v6) (.int .i64 r_3) (.int .i64 0) (.int .i64 0) (false, (default : Ba 16)) (.bool false) (.int .i64 0) (.int .i64 0) (.slice none 0 0) (.slice none 0 0)).toArray) (vc := #[.int .i64 r_3]) rfl rfl rfl (Nat.le_of_ble_eq_true rfl) rfl (fill_cons (cs' := (c_api_Talk (.bool v6) (.int .i64 r_3) (.int .i64 2) (.int .i64 0) (false, (default : Ba 16)) (.bool false) (.int .i64 0) (.int .i64 0) (.slice none 0 0) (.slice none 0 0)).toArray) (vc := #[.int .i64 2]) rfl rfl rfl (Nat.le_of_ble_eq_true rfl) rfl (fill_cons (cs' := (c_api_Talk (.bool v6) (.int .i64 r_3) (.int .i64 2) (.int .i64 0) (false, (default : Ba 16)) (.bool false) (.int .i64 0) (.int .i64 0) (.slice none 0 0) (cutV 19 vl_1 (0 : Int).toNat (n_1).toNat)).toArray) (vc := #[cutV 19 vl_1 (0 : Int).toNat (n_1).toNat]) rfl (shp (cutIs hL_1 0 n_1 (Int.le_refl _) ho_3.1 ho_3.2)).cells rfl (Nat.le_of_ble_eq_true rfl) rfl rfl))))) ?_
   refine HA.one (k := 8) ⟨hL_1.is, (Go.Wk.at_nil _ _)⟩ (by kernel_rfl) ?_
   replace hM := hM vl_1
   refine HS.eff rfl (want_none) rfl (st_lit (enc := e_api_Talk) (cells := #[.bool v6, .int .i64 r_3, .int .i64 2, .int .i64 0, .bool false, .int .u8 (b8 (default : Ba 16) 0), .int .u8 (b8 (default : Ba 16) 1), .int .u8 (b8 (default : Ba 16) 2), .int .u8 (b8 (default : Ba 16) 3), .int .u8 (b8 (default : Ba 16) 4), .int .u8 (b8 (default : Ba 16) 5), .int .u8 (b8 (default : Ba 16) 6), .int .u8 (b8 (default : Ba 16) 7), .int .u8 (b8 (default : Ba 16) 8), .int .u8 (b8 (default : Ba 16) 9), .int .u8 (b8 (default : Ba 16) 10), .int .u8 (b8 (default : Ba 16) 11), .int .u8 (b8 (default : Ba 16) 12), .int .u8 (b8 (default : Ba 16) 13), .int .u8 (b8 (default : Ba 16) 14), .int .u8 (b8 (default : Ba 16) 15), .bool false, .int .i64 0, .int .i64 0, .slice none 0 0, cutV 19 vl_1 (0 : Int).toNat (n_1).toNat]) #[.bool false, .int .i64 0, .int .i64 0, .int .i64 0, .bool false, .int .u8 0, .int .u8 0, .int .u8 0, .int .u8 0, .int .u8 0, .int .u8 0, .int .u8 0, .int .u8 0, .int .u8 0, .int .u8 0, .int .u8 0, .int .u8 0, .int .u8 0, .int .u8 0, .int .u8 0, .int .u8 0, .bool false, .int .i64 0, .int .i64 0, .slice none 0 0, .slice none 0 0] ([(v6, r_3, 2, 0, (false, (default : Ba 16)), false, 0, 0, (.slice none 0 0, []), (cutV 19 vl_1 (0 : Int).toNat (n_1).toNat, cut l_1 0 n_1))] : List T_api_Talk) hS tl_33 (by decide) (by decide) (by kernel_rfl) (by kernel_rfl) rfl (by intro x hx; rfl) rfl) ?_
   rintro _ h_7 ⟨b_2, rfl, hS, hk⟩
   replace hK := hK.trans hk
   replace hN_l := hN_l.kp hk
   replace hL_l := hL_l.kp hk
   replace hN_2 := hN_2.kp hk
   replace hL_1 := hL_1.kp hk
   replace hN_3 := hN_3.kp hk
   replace hN_4 := hN_4.kp hk
   have hN_5 : NfL nf_api_Talk F_5 h_7 ([(v6, r_3, 2, 0, (false, (default : Ba 16)), false, 0, 0, (.slice none 0 0, []), (cutV 19 vl_1 (0 : Int).toNat (n_1).toNat, cut l_1 0 n_1))] : List T_api_Talk) := (NfL.cons (nfm_api_Talk (v6, r_3, 2, 0, (false, (default : Ba 16)), false, 0, 0, (.slice none 0 0, []), (cutV 19 vl_1 (0 : Int).toNat (n_1).toNat, cut l_1 0 n_1)) (SliceF.nil _ _ _ _) (cutF hL_1 0 n_1 (Int.le_refl _) ho_3.1 ho_3.2) (NfL.cut hN_3 _ _)) (NfL.nil _ _ _))
   refine HA.one (k := 9) ⟨hL_1.is, (Go.Wk.at_nil _ _)⟩ (by kernel_rfl) ?_
   obtain ⟨ho_4, hM⟩ := hM
   refine HS.eff rfl (want_none) rfl (st_append te_33 hS (i := 1) rfl (hS.own 0 rfl).slice rfl rfl rfl (fun a_ ha_ => nfo_api_Talk (hN_5.is.all a_ ha_)) ho_4 (by omega)) ?_
   rintro v_1 h_8 ⟨hS, hk⟩
   replace hK := hK.trans hk
   replace hN_l := hN_l.kp hk
   replace hL_l := hL_l.kp hk
   replace hN_2 := hN_2.kp hk
   replace hL_1 := hL_1.kp hk
   replace hN_3 := hN_3.kp hk
   replace hN_4 := hN_4.kp hk
   replace hN_5 := hN_5.kp hk
   have hN_6 : NfL nf_api_Talk F_5 h_8 (out_1 ++ ([(v6, r_3, 2, 0, (false, (default : Ba 16)), false, 0, 0, (.slice none 0 0, []), (cutV 19 vl_1 (0 : Int).toNat (n_1).toNat, cut l_1 0 n_1))] : List T_api_Talk)) := NfL.app hN_4 hN_5
   refine HA.val (k := 13) (v := v_1) rfl rfl (by kernel_rfl) (by kernel_rfl) (want_none) rfl (fun _ hL_1 => q_assign rfl) ?_
   refine HA.val (k := 14) (v := cutV 19 vl_1 (n_1).toNat ((l_1.length : Int)).toNat) rfl rfl (by kernel_rfl) (by kernel_rfl) (want_none) rfl (fun _ hL_1 => q_assign rfl) ?_
   refine HA.nil ⟨hL_1.is, (Go.Wk.at_nil _ _)⟩ (by kernel_rfl) (blockQ_normal (thenQ_normal (?_)))
   replace hS : St F_5 (Ow.own 31 26 e_api_Talk v_1 (out_1 ++ ([(v6, r_3, 2, 0, (false, (default : Ba 16)), false, 0, 0, (.slice none 0 0, []), (cutV 19 vl_1 (0 : Int).toNat (n_1).toNat, cut l_1 0 n_1))] : List T_api_Talk)) :: fr) h_8 := hS.perm2 [1] 2 rfl rfl
   rw [hKe_1] at hM
   exact ⟨(cut l_1 n_1 (l_1.length : Int), out_1 ++ ([(v6, r_3, 2, 0, (false, (default : Ba 16)), false, 0, 0, (.slice none 0 0, []), (cutV 19 vl_1 (0 : Int).toNat (n_1).toNat, cut l_1 0 n_1))] : List T_api_Talk)), ⟨F_5, cutV 19 vl_1 (n_1).toNat ((l_1.length : Int)).toNat, v_1, rfl, rfl, rfl, rfl, hK, hS, hN_l, hL_l, hN_2, (cutF hL_1 n_1 (l_1.length : Int) ho_3.1 ho_3.2 (Int.le_refl _)), (NfL.cut hN_3 _ _), hN_6, hM.1⟩, hM.2⟩
 ·
  replace hM := hM.2 (of_decide_eq_false c_1)
  refine HW.exit (thenQ_exit (thenQ_exit (blockQ_exit (thenQ_normal (?_)))))
  refine HW.seq ?_
  refine HW.region ?_
  refine oM (vout_1) rfl rfl ?_
  refine oA (vout_1) rfl rfl ?_
  refine HO.nil (thenQ_normal (?_))
  refine HW.ret (?_)
  refine ⟨.inr rfl, vout_1, res1 rfl (rt rfl), ?_⟩
  exact ⟨F_1, out_1, vout_1, rfl, hK, hS, hN_l, hL_l, hN_4, hM⟩
def ref08_SameAddrs_l1 (a : List T_api_Addr) (b : List T_api_Addr) (Q : Bool → Prop) (K_1 : Int → Prop) (i_1 : Int) : Prop :=
 (i_1 < (a.length : Int) → ((0 : Int) ≤ i_1 ∧ i_1 < (a.length : Int)) ∧ (((0 : Int) ≤ i_1 ∧ i_1 < (b.length : Int)) ∧ ((¬ (((gi a i_1) : T_api_Addr) = (gi b i_1)) → Q false) ∧ (((gi a i_1) : T_api_Addr) = (gi b i_1) → (I64 (i_1 + 1)) ∧ (K_1 (i_1 + 1)))))) ∧ (¬ (i_1 < (a.length : Int)) → Q true)
def ref08_SameAddrs_W (a : List T_api_Addr) (b : List T_api_Addr) (Q : Bool → Prop) : Prop :=
 (¬ ((a.length : Int) = (b.length : Int)) → Q false) ∧ ((a.length : Int) = (b.length : Int) → loopW (fun (K_1 : Int → Prop) (s : Int) => ref08_SameAddrs_l1 a b Q K_1 s) 0)
theorem ref08_SameAddrs_walk {F : Fz} {fr : List Ow} {h0 : Heap} (a : List T_api_Addr) (b : List T_api_Addr) (va : Value) (vb : Value) (hS : St F (fr) h0) (hL_a : SliceF F h0 17 e_api_Addr va a) (hL_b : SliceF F h0 17 e_api_Addr vb b) {Q : Bool → Prop} (hM : ref08_SameAddrs_W a b Q) :
  HC Tryz.prog 45 #[va, vb] h0 fun u h' => ∃ (F' : Fz) (r_1 : Bool), u = .bool r_1 ∧ Kp F h0 F' h' ∧ St F' (fr) h' ∧ (SliceF F' h' 17 e_api_Addr va a) ∧ (SliceF F' h' 17 e_api_Addr vb b) ∧ Q r_1 := by
 unfold ref08_SameAddrs_W at hM
 have hK := Kp.refl F h0
 refine HC.of_HW (n := 26) Tryz.func45 rfl rfl (Nat.le_of_ble_eq_true rfl) ?_
 refine HW.seq ?_
 refine HW.region ?_
 refine oA (.bool false) rfl rfl ?_
 refine HO.nil (thenQ_normal (?_))
 refine HW.seq ?_
 refine HW.seq ?_
 refine HW.region ?_
 refine oM (va) rfl rfl ?_
 refine oV (.int .i64 (a.length : Int)) (q_len ts_29 (shp hL_a.is) rfl rfl) rfl ?_
 refine oM (vb) rfl rfl ?_
 refine oV (.int .i64 (b.length : Int)) (q_len ts_29 (shp hL_b.is) rfl rfl) rfl ?_
 refine oV (.bool (!decide ((a.length : Int) = (b.length : Int)))) (q_neq rfl rfl) rfl ?_
 refine HO.nil (thenQ_normal (?_))
 refine HW.cond (!decide ((a.length : Int) = (b.length : Int))) rfl (fun c_1 => ?_) (fun c_1 => ?_)
 ·
  replace hM := hM.1 (nd_true c_1)
  refine HW.seq ?_
  refine HW.region ?_
  refine oA (.bool false) rfl rfl ?_
  refine HO.nil (thenQ_normal (?_))
  refine HW.ret (thenQ_ret (?_))
  refine ⟨.inr rfl, .bool false, res1 rfl (rt rfl), ?_⟩
  exact ⟨F, false, rfl, hK, hS, hL_a, hL_b, hM⟩
 ·
  replace hM := hM.2 (nd_false c_1)
  refine HW.skip (thenQ_normal (?_))
  refine HW.seq ?_
  refine HW.seq ?_
  refine HW.region ?_
  refine oA (.int .i64 0) rfl rfl ?_
  refine HO.nil (thenQ_normal (?_))
  refine HW.block ?_
  obtain ⟨I_1, m_1, hI_1, hR_1⟩ := hM
  refine HW.loop (S := Int) (fun i_1 f h => ∃ (F' : Fz), f 0 = va ∧ f 1 = vb ∧ f 4 = .bool false ∧ f 5 = .int .i64 i_1 ∧ Kp F h0 F' h ∧ St F' (fr) h ∧ (SliceF F' h 17 e_api_Addr va a) ∧ (SliceF F' h 17 e_api_Addr vb b) ∧ I_1 i_1) m_1 0 ⟨F, rfl, rfl, rfl, rfl, hK, hS, hL_a, hL_b, hI_1⟩ ?_
  rintro i_1 f_1 h_1 ⟨F_1, e0, e1, e4, e5, hK, hS, hL_a, hL_b, hI0⟩
  obtain ⟨K_1, hKe_1⟩ : ∃ K : Int → Prop, K = fun i_1' => I_1 i_1' ∧ m_1 i_1' < m_1 i_1 := ⟨_, rfl⟩
  have hM : ref08_SameAddrs_l1 a b Q K_1 i_1 := by rw [hKe_1]; exact hR_1 i_1 hI0
  unfold ref08_SameAddrs_l1 at hM
  refine HW.fr [(0, va), (1, vb), (4, .bool false), (5, .int .i64 i_1)] ⟨e0, e1, e4, e5, trivial⟩ ?_
  refine HW.seq ?_
  refine HW.seq ?_
  refine HW.region ?_
  refine oM (.int .i64 i_1) rfl rfl ?_
  refine oM (va) rfl rfl ?_
  refine oV (.int .i64 (a.length : Int)) (q_len ts_29 (shp hL_a.is) rfl rfl) rfl ?_
  refine oV (.bool (decide (i_1 < (a.length : Int)))) (q_lss rfl rfl) rfl ?_
  refine HO.nil (thenQ_normal (?_))
  refine HW.cond (decide (i_1 < (a.length : Int))) rfl (fun c_2 => ?_) (fun c_2 => ?_)
  ·
   replace hM := hM.1 (of_decide_eq_true c_2)
   refine HW.skip (thenQ_normal (?_))
   refine HW.seq ?_
   refine HW.block ?_
   refine HW.seq ?_
   refine HW.regionA 9 mixed (fun h => (SliceIs h 17 e_api_Addr va a) ∧ (SliceIs h 17 e_api_Addr vb b)) [] (by kernel_rfl) ?_
   refine HA.val (k := 0) (v := va) rfl rfl (by kernel_rfl) (by kernel_rfl) (want_none) rfl (fun _ ⟨hL_a, hL_b⟩ => q_move rfl) ?_
   refine HA.val (k := 1) (v := .int .i64 i_1) rfl rfl (by kernel_rfl) (by kernel_rfl) (want_none) rfl (fun _ ⟨hL_a, hL_b⟩ => q_move rfl) ?_
   obtain ⟨ho_1, hM⟩ := hM
   refine HA.val (k := 2) (v := elemPtr 17 va (i_1).toNat) rfl rfl (by kernel_rfl) (by kernel_rfl) (want_none) rfl (fun _ ⟨hL_a, hL_b⟩ => q_idx ts_29 hL_a rfl rfl ho_1) ?_
   refine HA.val (k := 3) (v := .agg (e_api_Addr (gi a i_1)).toArray) rfl rfl (by kernel_rfl) (by kernel_rfl) (want_none) rfl (fun _ ⟨hL_a, hL_b⟩ => q_ldElemAgg (cs := (e_api_Addr (gi a i_1))) ta_28 hL_a rfl ho_1 rfl) ?_
   refine HA.val (k := 4) (v := vb) rfl rfl (by kernel_rfl) (by kernel_rfl) (want_none) rfl (fun _ ⟨hL_a, hL_b⟩ => q_move rfl) ?_
   refine HA.val (k := 5) (v := .int .i64 i_1) rfl rfl (by kernel_rfl) (by kernel_rfl) (want_none) rfl (fun _ ⟨hL_a, hL_b⟩ => q_move rfl) ?_
   obtain ⟨ho_2, hM⟩ := hM
   refine HA.val (k := 6) (v := elemPtr 17 vb (i_1).toNat) rfl rfl (by kernel_rfl) (by kernel_rfl) (want_none) rfl (fun _ ⟨hL_a, hL_b⟩ => q_idx ts_29 hL_b rfl rfl ho_2) ?_
   refine HA.val (k := 7) (v := .agg (e_api_Addr (gi b i_1)).toArray) rfl rfl (by kernel_rfl) (by kernel_rfl) (want_none) rfl (fun _ ⟨hL_a, hL_b⟩ => q_ldElemAgg (cs := (e_api_Addr (gi b i_1))) ta_28 hL_b rfl ho_2 rfl) ?_
   refine HA.val (k := 8) (v := .bool (!decide (((gi a i_1) : T_api_Addr) = (gi b i_1)))) rfl rfl (by kernel_rfl) (by kernel_rfl) (want_none) rfl (fun _ ⟨hL_a, hL_b⟩ => q_neqAgg (a := (gi a i_1)) (b := (gi b i_1)) (fun a b w => teq_28 9997 a b w) (by kernel_rfl) rfl rfl rfl rfl) ?_
   refine HA.nil ⟨⟨hL_a.is, hL_b.is⟩, (Go.Wk.at_nil _ _)⟩ (by kernel_rfl) (thenQ_normal (?_))
   refine HW.cond (!decide (((gi a i_1) : T_api_Addr) = (gi b i_1))) rfl (fun c_3 => ?_) (fun c_3 => ?_)
   ·
    replace hM := hM.1 (nd_true c_3)
    refine HW.seq ?_
    refine HW.region ?_
    refine oA (.bool false) rfl rfl ?_
    refine HO.nil (thenQ_normal (?_))
    refine HW.ret (blockQ_ret (thenQ_ret (thenQ_ret (blockQ_ret (thenQ_ret (?_))))))
    refine ⟨.inr rfl, .bool false, res1 rfl (rt rfl), ?_⟩
    exact ⟨F_1, false, rfl, hK, hS, hL_a, hL_b, hM⟩
   ·
    replace hM := hM.2 (nd_false c_3)
    refine HW.skip (blockQ_normal (thenQ_normal (?_)))
    refine HW.region ?_
    refine oM (.int .i64 i_1) rfl rfl ?_
    obtain ⟨ho_3, hM⟩ := hM
    refine oV (.int .i64 (i_1 + 1)) (q_addN _ rfl rfl rfl ho_3.1 ho_3.2) rfl ?_
    refine oA (.int .i64 (i_1 + 1)) rfl rfl ?_
    refine HO.nil (thenQ_normal (?_))
    rw [hKe_1] at hM
    exact ⟨i_1 + 1, ⟨F_1, rfl, rfl, rfl, rfl, hK, hS, hL_a, hL_b, hM.1⟩, hM.2⟩
  ·
   replace hM := hM.2 (of_decide_eq_false c_2)
   refine HW.exit (thenQ_exit (thenQ_exit (blockQ_exit (thenQ_normal (?_)))))
   refine HW.seq ?_
   refine HW.region ?_
   refine oA (.bool true) rfl rfl ?_
   refine HO.nil (thenQ_normal (?_))
   refine HW.ret (?_)
   refine ⟨.inr rfl, .bool true, res1 rfl (rt rfl), ?_⟩
   exact ⟨F_1, true, rfl, hK, hS, hL_a, hL_b, hM⟩
end Go.Wk
