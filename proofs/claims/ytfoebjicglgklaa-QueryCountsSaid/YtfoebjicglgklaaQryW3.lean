/- Walks of Query. -/
import Derived.Test.YtfoebjicglgklaaQryW2
set_option linter.unusedSimpArgs false
set_option linter.unusedVariables false
set_option linter.unusedSectionVars false
namespace Go.Wk
open Go.HL
open Go.Proofs hiding encI
variable [DM]

def law22_QueryCounts_j1 (a_Group : T_api_Addr) (a_All : Bool) (Q : Bool → Prop) (r_4 : List T_api_Addr) (r_8 : Bool) (q_0_1 : Int) (q_1_0_1 : List (Str × Int)) (q_2_1 : Int) (q_3_1 : List (T_api_Addr × (Nat × Nat) × T_query_left)) (told_1 : Int) (want_1 : Int) : Prop :=
 (told_1 = want_1 → query_Queries_Open_W q_0_1 q_1_0_1 q_2_1 q_3_1 (fun r_9 q_now_4 qm_7 q_first_4 qm_8 => ((r_9.length : Int) = 0 → ref03_Good_W a_Group (fun r_10 => (r_10 = true → ref03_Group_W a_Group (fun r_11 => (r_11 = true → (a_All = true → ((r_8 == true) = true → law22_lives_W  (fun r_12 => Q r_12)) ∧ ((r_8 == true) = false → Q false)) ∧ (a_All = false → law22_some_W r_4 (fun r_13 => ((r_8 == r_13) = true → law22_lives_W  (fun r_14 => Q r_14)) ∧ ((r_8 == r_13) = false → Q false)))) ∧ (r_11 = false → ((r_8 == false) = true → law22_lives_W  (fun r_15 => Q r_15)) ∧ ((r_8 == false) = false → Q false)))) ∧ (r_10 = false → ((r_8 == false) = true → law22_lives_W  (fun r_16 => Q r_16)) ∧ ((r_8 == false) = false → Q false)))) ∧ (¬ ((r_9.length : Int) = 0) → Q false))) ∧ (¬ (told_1 = want_1) → Q false)
def law22_QueryCounts_l1 (t : T_api_Tune) (a_Group : T_api_Addr) (a_All : Bool) (Q : Bool → Prop) (r_4 : List T_api_Addr) (r_8 : Bool) (K_1 : Int → (List (Str × Int)) → Int → (List (T_api_Addr × (Nat × Nat) × T_query_left)) → Int → Int → Int → Prop) (q_0_1 : Int) (q_1_0_1 : List (Str × Int)) (q_2_1 : Int) (q_3_1 : List (T_api_Addr × (Nat × Nat) × T_query_left)) (told_1 : Int) (now_1 : Int) (i_1 : Int) : Prop :=
 (i_1 < 10 → query_Queries_Due_W q_0_1 q_1_0_1 q_2_1 q_3_1 now_1 t (fun r0_1 r1_1 q_now_2 qm_3 q_first_2 qm_4 => (I64 (told_1 + (r1_1.length : Int))) ∧ (query_Queries_Next_W q_now_2 qm_3 q_first_2 qm_4 (fun r0_2 r1_2 q_now_3 qm_5 q_first_3 qm_6 => (r1_2 = true → (I64 (now_1 + t.2.2.2.1)) ∧ ((¬ (r0_2 = (now_1 + t.2.2.2.1)) → Q false) ∧ (r0_2 = (now_1 + t.2.2.2.1) → (I64 (i_1 + 1)) ∧ (K_1 q_now_3 qm_5 q_first_3 qm_6 (told_1 + (r1_1.length : Int)) r0_2 (i_1 + 1))))) ∧ (r1_2 = false → (I64 (i_1 + 1)) ∧ (K_1 q_now_3 qm_5 q_first_3 qm_6 (told_1 + (r1_1.length : Int)) now_1 (i_1 + 1))))))) ∧ (¬ (i_1 < 10) → (r_8 = true → law22_QueryCounts_j1 a_Group a_All Q r_4 r_8 q_0_1 q_1_0_1 q_2_1 q_3_1 told_1 t.2.2.2.2) ∧ (r_8 = false → law22_QueryCounts_j1 a_Group a_All Q r_4 r_8 q_0_1 q_1_0_1 q_2_1 q_3_1 told_1 0))
def law22_QueryCounts_W (t : T_api_Tune) (a_Group : T_api_Addr) (a_All : Bool) (a_Sources : List T_api_Addr) (Q : Bool → Prop) : Prop :=
 ref14_Good_W t (fun r_2 => ((!r_2) = true → law22_lives_W  (fun r_3 => Q r_3)) ∧ ((!r_2) = false → law08_Addrs_W a_Sources 5 (fun r_4 => query_New_W  (law08_Addrs_W r_4 5 (fun r_7 => query_Queries_Want_W 0 [] 0 [] 0 t a_Group a_All r_7 (fun r_8 q_now_1 qm_1 q_first_1 qm_2 => loopW (fun (K_1 : (Int × (List (Str × Int)) × Int × (List (T_api_Addr × (Nat × Nat) × T_query_left)) × Int × Int × Int) → Prop) (s : Int × (List (Str × Int)) × Int × (List (T_api_Addr × (Nat × Nat) × T_query_left)) × Int × Int × Int) => law22_QueryCounts_l1 t a_Group a_All Q r_4 r_8 (fun q_0_1 q_1_0_1 q_2_1 q_3_1 told_1 now_1 i_1 => K_1 (q_0_1, q_1_0_1, q_2_1, q_3_1, told_1, now_1, i_1)) s.1 s.2.1 s.2.2.1 s.2.2.2.1 s.2.2.2.2.1 s.2.2.2.2.2.1 s.2.2.2.2.2.2) (q_now_1, qm_1, q_first_1, qm_2, 0, 0, 0)))))))
set_option maxHeartbeats 40000000 in
set_option maxRecDepth 100000 in
theorem law22_QueryCounts_walk {F : Fz} {fr : List Ow} {h0 : Heap} (t : T_api_Tune) (a_Group : T_api_Addr) (a_All : Bool) (a_Sources : List T_api_Addr) (va_Sources : Value) (hS : St F (fr) h0) (hL_a_Sources : SliceF F h0 17 e_api_Addr va_Sources a_Sources) {Q : Bool → Prop} (hM : law22_QueryCounts_W t a_Group a_All a_Sources Q) :
  HC Try.prog 4 #[.agg (e_api_Tune t).toArray, .agg (c_api_Asked a_Group (.bool a_All) va_Sources).toArray] h0 fun u h' => ∃ (F' : Fz) (r_1 : Bool), u = .bool r_1 ∧ Kp F h0 F' h' ∧ St F' (fr) h' ∧ (SliceF F' h' 17 e_api_Addr va_Sources a_Sources) ∧ Q r_1 := by
 unfold law22_QueryCounts_W at hM
 have hK := Kp.refl F h0
 refine HC.of_HW (n := 99) Try.func4 rfl rfl (Nat.le_of_ble_eq_true rfl) ?_
 refine HW.seq ?_
 refine HW.region ?_
 refine HO.eff (want_none) rfl (st_box (c := (e_api_Tune t).toArray) (k' := 5) hS rfl rfl) ?_
 rintro _ h_1 ⟨b_1, rfl, hS, hk⟩
 replace hK := hK.trans hk
 replace hL_a_Sources := hL_a_Sources.kp hk
 refine HO.eff (want_none) rfl (st_box (c := (c_api_Asked a_Group (.bool a_All) va_Sources).toArray) (k' := 19) hS rfl rfl) ?_
 rintro _ h_2 ⟨b_2, rfl, hS, hk⟩
 replace hK := hK.trans hk
 replace hL_a_Sources := hL_a_Sources.kp hk
 refine oA (.bool false) rfl rfl ?_
 refine HO.nil (thenQ_normal (?_))
 refine HW.seq ?_
 refine HW.seq ?_
 refine HW.region ?_
 refine oV (.agg (e_api_Tune t).toArray) (q_loadAgg (cs := (e_api_Tune t)) ta_26 rfl rfl (Blk.cells (k := 5) (hS.box 1 rfl) rfl)) rfl ?_
 refine HO.call (want_none) rfl (ec en_14 rfl rfl) (ref14_Good_walk (fr := (Ow.box b_2 34 (c_api_Asked a_Group (.bool a_All) va_Sources).toArray :: Ow.box b_1 26 (e_api_Tune t).toArray :: fr)) t hS hM) ?_
 rintro _ h_3 ⟨F_1, r_2, rfl, hk, hS, hM⟩
 replace hK := hK.trans hk
 replace hL_a_Sources := hL_a_Sources.kp hk
 refine oV (.bool (!r_2)) (q_not rfl) rfl ?_
 refine HO.nil (thenQ_normal (?_))
 refine HW.cond (!r_2) rfl (fun c_1 => ?_) (fun c_1 => ?_)
 ·
  replace hM := hM.1 c_1
  refine HW.seq ?_
  refine HW.region ?_
  refine HO.call (want_none) rfl (ec en_13 rfl rfl) (law22_lives_walk (fr := (Ow.box b_2 34 (c_api_Asked a_Group (.bool a_All) va_Sources).toArray :: Ow.box b_1 26 (e_api_Tune t).toArray :: fr))  hS hM) ?_
  rintro _ h_4 ⟨F_2, r_3, rfl, hk, hS, hM⟩
  replace hK := hK.trans hk
  replace hL_a_Sources := hL_a_Sources.kp hk
  refine oA (.bool r_3) rfl rfl ?_
  refine HO.nil (thenQ_normal (?_))
  refine HW.ret (thenQ_ret (?_))
  refine ⟨.inr rfl, .bool r_3, res1 rfl (rt rfl), ?_⟩
  replace hS : St F_2 (fr) h_4 := hS.perm2 [] 2 rfl rfl
  exact ⟨F_2, r_3, rfl, hK, hS, hL_a_Sources, hM⟩
 ·
  replace hM := hM.2 c_1
  refine HW.skip (thenQ_normal (?_))
  refine HW.seq ?_
  refine HW.region ?_
  refine oV (.pointer (some ⟨b_2, 18, none⟩)) (q_fieldAddr fa_34_2 rfl rfl) rfl ?_
  refine oV (va_Sources) (q_load to_32 rfl (Blk.cell (hS.box 0 rfl) rfl)) rfl ?_
  refine HO.call (want_none) rfl (ec en_15 rfl rfl) (law08_Addrs_walk (fr := (Ow.box b_2 34 (c_api_Asked a_Group (.bool a_All) va_Sources).toArray :: Ow.box b_1 26 (e_api_Tune t).toArray :: fr)) a_Sources 5 va_Sources hS hL_a_Sources hM) ?_
  rintro vr_1 h_5 ⟨F_3, r_4, _, rfl, hk, hS, _, hM⟩
  replace hK := hK.trans hk
  replace hL_a_Sources := hL_a_Sources.kp hk
  refine oV (.pointer (some ⟨b_2, 18, none⟩)) (q_fieldAddr fa_34_2 rfl rfl) rfl ?_
  refine HO.sto (want_none) rfl (st_store (c' := (c_api_Asked a_Group (.bool a_All) vr_1).toArray) hS (i := 1) rfl to_32 rfl rfl (shp (hS.own 0 rfl).slice).cells (shp (hS.own 0 rfl).slice).one (Nat.le_of_ble_eq_true rfl) rfl) ?_
  rintro h_6 ⟨hS, hk⟩
  replace hK := hK.trans hk
  replace hL_a_Sources := hL_a_Sources.kp hk
  refine HO.nil (thenQ_normal (?_))
  refine HW.seq ?_
  refine HW.region ?_
  refine HO.call (want_none) rfl (ec en_8 rfl rfl) (query_New_walk (fr := (Ow.own 30 17 e_api_Addr vr_1 r_4 :: Ow.box b_2 34 (c_api_Asked a_Group (.bool a_All) vr_1).toArray :: Ow.box b_1 26 (e_api_Tune t).toArray :: fr))  hS hM) ?_
  rintro _ h_7 ⟨F_4, b_3, b_4, r_5, r_6, rfl, hk, hS, hM⟩
  replace hK := hK.trans hk
  replace hL_a_Sources := hL_a_Sources.kp hk
  refine oA (.pointer (some ⟨b_3, 0, none⟩)) rfl rfl ?_
  refine oA (.int .i64 0) rfl rfl ?_
  refine oA (.int .i64 0) rfl rfl ?_
  refine HO.nil (thenQ_normal (?_))
  refine HW.seq ?_
  refine HW.regionA 12 mixed (fun h => (Blk h b_2 (.cells (c_api_Asked a_Group (.bool a_All) vr_1).toArray 34 (0, 0))) ∧ (Blk h b_1 (.cells (e_api_Tune t).toArray 26 (0, 0)))) [] (by kernel_rfl) ?_
  refine HA.val (k := 0) (v := .pointer (some ⟨b_3, 0, none⟩)) rfl rfl (by kernel_rfl) (by kernel_rfl) (want_none) rfl (fun _ ⟨c202, c201⟩ => q_move rfl) ?_
  refine HA.val (k := 1) (v := .agg (e_api_Tune t).toArray) rfl rfl (by kernel_rfl) (by kernel_rfl) (want_none) rfl (fun _ ⟨c202, c201⟩ => q_loadAgg (cs := (e_api_Tune t)) ta_26 rfl rfl (Blk.cells (k := 5) c201 rfl)) ?_
  refine HA.val (k := 2) (v := .pointer (some ⟨b_2, 0, none⟩)) rfl rfl (by kernel_rfl) (by kernel_rfl) (want_none) rfl (fun _ ⟨c202, c201⟩ => q_fieldAddr fa_34_0 rfl rfl) ?_
  refine HA.val (k := 3) (v := .agg (e_api_Addr a_Group).toArray) rfl rfl (by kernel_rfl) (by kernel_rfl) (want_none) rfl (fun _ ⟨c202, c201⟩ => q_loadAgg (cs := (e_api_Addr a_Group)) ta_30 rfl rfl (Blk.cells (k := 17) c202 rfl)) ?_
  refine HA.val (k := 4) (v := .pointer (some ⟨b_2, 17, none⟩)) rfl rfl (by kernel_rfl) (by kernel_rfl) (want_none) rfl (fun _ ⟨c202, c201⟩ => q_fieldAddr fa_34_1 rfl rfl) ?_
  refine HA.val (k := 5) (v := .bool a_All) rfl rfl (by kernel_rfl) (by kernel_rfl) (want_none) rfl (fun _ ⟨c202, c201⟩ => q_load to_4 rfl (Blk.cell c202 rfl)) ?_
  refine HA.val (k := 6) (v := .pointer (some ⟨b_2, 18, none⟩)) rfl rfl (by kernel_rfl) (by kernel_rfl) (want_none) rfl (fun _ ⟨c202, c201⟩ => q_fieldAddr fa_34_2 rfl rfl) ?_
  refine HA.val (k := 7) (v := vr_1) rfl rfl (by kernel_rfl) (by kernel_rfl) (want_none) rfl (fun _ ⟨c202, c201⟩ => q_load to_32 rfl (Blk.cell c202 rfl)) ?_
  refine HA.one (k := 8) ⟨⟨(hS.box 5 rfl), (hS.box 6 rfl)⟩, (Go.Wk.at_nil _ _)⟩ (by kernel_rfl) ?_
  replace hS : St F_4 (Ow.own 30 17 e_api_Addr vr_1 r_4 :: Ow.box b_3 73 #[.int .i64 0, .pointer (some ⟨b_4, 0, none⟩), .int .i64 0, .map (some r_6)] :: Ow.box b_4 110 #[.map (some r_5)] :: Ow.map r_5 kT kI ([] : List (Str × Int)) :: Ow.pm r_6 (fun (x : T_api_Addr) => .agg (e_api_Addr x).toArray) pv_query_left th_query_left ([] : List (T_api_Addr × (Nat × Nat) × T_query_left)) none :: Ow.box b_2 34 (c_api_Asked a_Group (.bool a_All) vr_1).toArray :: Ow.box b_1 26 (e_api_Tune t).toArray :: fr) h_7 := hS.perm2 [4, 0, 1, 2, 3, 5, 6] 7 rfl rfl
  have hZ_1 := hS
  have hkz_1 := (hS.freeze).2
  replace hS := hS.freeze.1
  have hL_1 : SliceF (fun bz_ => F_4 bz_ ∨ (Ow.own 30 17 e_api_Addr vr_1 r_4).foot bz_) h_7 17 e_api_Addr vr_1 r_4 := ⟨(hZ_1.own 0 rfl).slice, fun _ b hb => .inr hb⟩
  refine HS.call rfl (want_none) rfl (ec en_15 rfl rfl) (law08_Addrs_walk (fr := (Ow.box b_3 73 #[.int .i64 0, .pointer (some ⟨b_4, 0, none⟩), .int .i64 0, .map (some r_6)] :: Ow.box b_4 110 #[.map (some r_5)] :: Ow.map r_5 kT kI ([] : List (Str × Int)) :: Ow.pm r_6 (fun (x : T_api_Addr) => .agg (e_api_Addr x).toArray) pv_query_left th_query_left ([] : List (T_api_Addr × (Nat × Nat) × T_query_left)) none :: Ow.box b_2 34 (c_api_Asked a_Group (.bool a_All) vr_1).toArray :: Ow.box b_1 26 (e_api_Tune t).toArray :: fr)) r_4 5 vr_1 hS hL_1 hM) ?_
  rintro vr_2 h_8 ⟨F_5, r_7, _, rfl, hk, hS, _, hM⟩
  obtain ⟨hS, hk⟩ := hZ_1.back hk hS
  generalize (fun bz_ => F_5 bz_ ∧ ¬ (Ow.own 30 17 e_api_Addr vr_1 r_4).foot bz_) = F_6 at hS hk
  replace hK := hK.trans hk
  replace hL_a_Sources := hL_a_Sources.kp hk
  refine Go.Wk.HA.re (fun h => (OwnIs h 0 30 17 e_api_Addr vr_2 r_7) ∧ (Blk h b_2 (.cells (c_api_Asked a_Group (.bool a_All) vr_1).toArray 34 (0, 0))) ∧ (Blk h b_1 (.cells (e_api_Tune t).toArray 26 (0, 0)))) [] (fun L_ h_ hL_ ⟨c256, c202, c201⟩ hs_ => ⟨⟨c202, c201⟩, (Go.Wk.at_nil _ _)⟩) ?_
  refine HA.val (k := 9) (v := .agg (c_api_Asked a_Group (.bool a_All) vr_2).toArray) rfl rfl (by kernel_rfl) (by kernel_rfl) (want_none) rfl (fun _ ⟨c256, c202, c201⟩ => q_build tp_34 (fill_cons (cs' := (c_api_Asked a_Group (.bool false) (.slice none 0 0)).toArray) (vc := (e_api_Addr a_Group).toArray) rfl rfl rfl (Nat.le_of_ble_eq_true rfl) rfl (fill_cons (cs' := (c_api_Asked a_Group (.bool a_All) (.slice none 0 0)).toArray) (vc := #[.bool a_All]) rfl rfl rfl (Nat.le_of_ble_eq_true rfl) rfl (fill_cons (cs' := (c_api_Asked a_Group (.bool a_All) vr_2).toArray) (vc := #[vr_2]) rfl (shp c256.slice).cells rfl (Nat.le_of_ble_eq_true rfl) rfl rfl)))) ?_
  refine HA.one (k := 10) ⟨⟨(hS.own 1 rfl), (hS.box 6 rfl), (hS.box 7 rfl)⟩, (Go.Wk.at_nil _ _)⟩ (by kernel_rfl) ?_
  replace hS : St F_6 (Ow.own 30 17 e_api_Addr vr_2 r_7 :: Ow.own 30 17 e_api_Addr vr_1 r_4 :: Ow.box b_3 73 #[.int .i64 0, .pointer (some ⟨b_4, 0, none⟩), .int .i64 0, .map (some r_6)] :: Ow.box b_4 110 #[.map (some r_5)] :: Ow.map r_5 kT kI ([] : List (Str × Int)) :: Ow.pm r_6 (fun (x : T_api_Addr) => .agg (e_api_Addr x).toArray) pv_query_left th_query_left ([] : List (T_api_Addr × (Nat × Nat) × T_query_left)) none :: Ow.box b_2 34 (c_api_Asked a_Group (.bool a_All) vr_1).toArray :: Ow.box b_1 26 (e_api_Tune t).toArray :: fr) h_8 := hS.perm2 [1, 0, 2, 3, 4, 5, 6, 7] 8 rfl rfl
  have hZ_2 := hS
  have hkz_2 := (hS.freeze).2
  replace hS := hS.freeze.1
  have hL_2 : SliceF (fun bz_ => F_6 bz_ ∨ (Ow.own 30 17 e_api_Addr vr_2 r_7).foot bz_) h_8 17 e_api_Addr vr_2 r_7 := ⟨(hZ_2.own 0 rfl).slice, fun _ b hb => .inr hb⟩
  replace hS : St (fun bz_ => F_6 bz_ ∨ (Ow.own 30 17 e_api_Addr vr_2 r_7).foot bz_) (Ow.box b_3 73 #[.int .i64 0, .pointer (some ⟨b_4, 0, none⟩), .int .i64 0, .map (some r_6)] :: Ow.box b_4 110 #[.map (some r_5)] :: Ow.map r_5 kT kI ([] : List (Str × Int)) :: Ow.pm r_6 (fun (x : T_api_Addr) => .agg (e_api_Addr x).toArray) pv_query_left th_query_left ([] : List (T_api_Addr × (Nat × Nat) × T_query_left)) none :: Ow.own 30 17 e_api_Addr vr_1 r_4 :: Ow.box b_2 34 (c_api_Asked a_Group (.bool a_All) vr_1).toArray :: Ow.box b_1 26 (e_api_Tune t).toArray :: fr) h_8 := hS.perm2 [1, 2, 3, 4, 0, 5, 6] 7 rfl rfl
  refine HS.call rfl (want_none) rfl (ec en_9 rfl rfl) (query_Queries_Want_walk (fr := (Ow.own 30 17 e_api_Addr vr_1 r_4 :: Ow.box b_2 34 (c_api_Asked a_Group (.bool a_All) vr_1).toArray :: Ow.box b_1 26 (e_api_Tune t).toArray :: fr)) 0 [] 0 [] 0 t a_Group a_All r_7 b_3 b_4 r_5 r_6 vr_2 hS hL_2 hM) ?_
  rintro _ h_9 ⟨F_7, r_8, q_now_1, qm_1, q_first_1, qm_2, rfl, hk, hS, _, hM⟩
  obtain ⟨hS, hk⟩ := hZ_2.back hk hS
  generalize (fun bz_ => F_7 bz_ ∧ ¬ (Ow.own 30 17 e_api_Addr vr_2 r_7).foot bz_) = F_8 at hS hk
  replace hK := hK.trans hk
  replace hL_a_Sources := hL_a_Sources.kp hk
  refine HA.val (k := 11) (v := .bool r_8) rfl rfl (by kernel_rfl) (by kernel_rfl) (want_none) rfl (fun _ ⟨c256, c202, c201⟩ => q_assign rfl) ?_
  refine HA.nil ⟨⟨(hS.own 0 rfl), (hS.box 6 rfl), (hS.box 7 rfl)⟩, (Go.Wk.at_nil _ _)⟩ (by kernel_rfl) (thenQ_normal (?_))
  refine HW.seq ?_
  refine HW.seq ?_
  refine HW.region ?_
  refine oA (.int .i64 0) rfl rfl ?_
  refine HO.nil (thenQ_normal (?_))
  refine HW.block ?_
  obtain ⟨I_1, m_1, hI_1, hR_1⟩ := hM
  replace hS : St F_8 (Ow.box b_1 26 (e_api_Tune t).toArray :: Ow.box b_2 34 (c_api_Asked a_Group (.bool a_All) vr_1).toArray :: Ow.own 30 17 e_api_Addr vr_1 r_4 :: Ow.box b_3 73 #[.int .i64 q_now_1, .pointer (some ⟨b_4, 0, none⟩), .int .i64 q_first_1, .map (some r_6)] :: Ow.box b_4 110 #[.map (some r_5)] :: Ow.map r_5 kT kI qm_1 :: Ow.pm r_6 (fun (x : T_api_Addr) => .agg (e_api_Addr x).toArray) pv_query_left th_query_left qm_2 none :: fr) h_9 := hS.perm2 [7, 6, 5, 1, 2, 3, 4] 8 rfl rfl
  refine HW.loop (S := Int × (List (Str × Int)) × Int × (List (T_api_Addr × (Nat × Nat) × T_query_left)) × Int × Int × Int) (fun s f h => match s with | (q_0_1, q_1_0_1, q_2_1, q_3_1, told_1, now_1, i_1) => ∃ (F' : Fz), f 2 = .pointer (some ⟨b_1, 0, none⟩) ∧ f 3 = .pointer (some ⟨b_2, 0, none⟩) ∧ f 4 = .bool false ∧ f 5 = .pointer (some ⟨b_3, 0, none⟩) ∧ f 6 = .int .i64 told_1 ∧ f 7 = .int .i64 now_1 ∧ f 8 = .bool r_8 ∧ f 9 = .int .i64 i_1 ∧ Kp F h0 F' h ∧ St F' (Ow.box b_1 26 (e_api_Tune t).toArray :: Ow.box b_2 34 (c_api_Asked a_Group (.bool a_All) vr_1).toArray :: Ow.own 30 17 e_api_Addr vr_1 r_4 :: Ow.box b_3 73 #[.int .i64 q_0_1, .pointer (some ⟨b_4, 0, none⟩), .int .i64 q_2_1, .map (some r_6)] :: Ow.box b_4 110 #[.map (some r_5)] :: Ow.map r_5 kT kI q_1_0_1 :: Ow.pm r_6 (fun (x : T_api_Addr) => .agg (e_api_Addr x).toArray) pv_query_left th_query_left q_3_1 none :: fr) h ∧ (SliceF F' h 17 e_api_Addr va_Sources a_Sources) ∧ I_1 (q_0_1, q_1_0_1, q_2_1, q_3_1, told_1, now_1, i_1)) m_1 (q_now_1, qm_1, q_first_1, qm_2, 0, 0, 0) ⟨F_8, rfl, rfl, rfl, rfl, rfl, rfl, rfl, rfl, hK, hS, hL_a_Sources, hI_1⟩ ?_
  rintro ⟨q_0_1, q_1_0_1, q_2_1, q_3_1, told_1, now_1, i_1⟩ f_1 h_10 ⟨F_9, e2, e3, e4, e5, e6, e7, e8, e9, hK, hS, hL_a_Sources, hI0⟩
  obtain ⟨K_1, hKe_1⟩ : ∃ K : Int → (List (Str × Int)) → Int → (List (T_api_Addr × (Nat × Nat) × T_query_left)) → Int → Int → Int → Prop, K = fun q_0_1' q_1_0_1' q_2_1' q_3_1' told_1' now_1' i_1' => I_1 (q_0_1', q_1_0_1', q_2_1', q_3_1', told_1', now_1', i_1') ∧ m_1 (q_0_1', q_1_0_1', q_2_1', q_3_1', told_1', now_1', i_1') < m_1 (q_0_1, q_1_0_1, q_2_1, q_3_1, told_1, now_1, i_1) := ⟨_, rfl⟩
  have hM : law22_QueryCounts_l1 t a_Group a_All Q r_4 r_8 K_1 q_0_1 q_1_0_1 q_2_1 q_3_1 told_1 now_1 i_1 := by rw [hKe_1]; exact hR_1 (q_0_1, q_1_0_1, q_2_1, q_3_1, told_1, now_1, i_1) hI0
  unfold law22_QueryCounts_l1 at hM
  refine HW.fr [(2, .pointer (some ⟨b_1, 0, none⟩)), (3, .pointer (some ⟨b_2, 0, none⟩)), (4, .bool false), (5, .pointer (some ⟨b_3, 0, none⟩)), (6, .int .i64 told_1), (7, .int .i64 now_1), (8, .bool r_8), (9, .int .i64 i_1)] ⟨e2, e3, e4, e5, e6, e7, e8, e9, trivial⟩ ?_
  refine HW.seq ?_
  refine HW.seq ?_
  refine HW.region ?_
  refine oM (.int .i64 i_1) rfl rfl ?_
  refine oV (.bool (decide (i_1 < 10))) (q_lss rfl rfl) rfl ?_
  refine HO.nil (thenQ_normal (?_))
  refine HW.cond (decide (i_1 < 10)) rfl (fun c_2 => ?_) (fun c_2 => ?_)
  ·
   replace hM := hM.1 (of_decide_eq_true c_2)
   refine HW.skip (thenQ_normal (?_))
   refine HW.seq ?_
   refine HW.block ?_
   refine HW.seq ?_
   refine HW.region ?_
   refine oM (.pointer (some ⟨b_3, 0, none⟩)) rfl rfl ?_
   refine oM (.int .i64 now_1) rfl rfl ?_
   refine oV (.agg (e_api_Tune t).toArray) (q_loadAgg (cs := (e_api_Tune t)) ta_26 rfl rfl (Blk.cells (k := 5) (hS.box 0 rfl) rfl)) rfl ?_
   replace hS : St F_9 (Ow.box b_3 73 #[.int .i64 q_0_1, .pointer (some ⟨b_4, 0, none⟩), .int .i64 q_2_1, .map (some r_6)] :: Ow.box b_4 110 #[.map (some r_5)] :: Ow.map r_5 kT kI q_1_0_1 :: Ow.pm r_6 (fun (x : T_api_Addr) => .agg (e_api_Addr x).toArray) pv_query_left th_query_left q_3_1 none :: Ow.box b_1 26 (e_api_Tune t).toArray :: Ow.box b_2 34 (c_api_Asked a_Group (.bool a_All) vr_1).toArray :: Ow.own 30 17 e_api_Addr vr_1 r_4 :: fr) h_10 := hS.perm2 [3, 4, 5, 6, 0, 1, 2] 7 rfl rfl
   refine HO.call (want_none) rfl (ec en_16 rfl rfl) (query_Queries_Due_walk (fr := (Ow.box b_1 26 (e_api_Tune t).toArray :: Ow.box b_2 34 (c_api_Asked a_Group (.bool a_All) vr_1).toArray :: Ow.own 30 17 e_api_Addr vr_1 r_4 :: fr)) q_0_1 q_1_0_1 q_2_1 q_3_1 now_1 t b_3 b_4 r_5 r_6 hS hM) ?_
   rintro _ h_11 ⟨F_10, r0_1, r1_1, q_now_2, qm_3, q_first_2, qm_4, vr1_1, rfl, hk, hS, hL_3, hM⟩
   replace hK := hK.trans hk
   replace hL_a_Sources := hL_a_Sources.kp hk
   refine oM (.tuple #[.bool r0_1, vr1_1]) rfl rfl ?_
   refine oV (.bool r0_1) (q_extract rfl rfl) rfl ?_
   refine oV (vr1_1) (q_extract rfl rfl) rfl ?_
   refine oA (.bool r0_1) rfl rfl ?_
   refine oA (vr1_1) rfl rfl ?_
   refine HO.nil (thenQ_normal (?_))
   refine HW.seq ?_
   refine HW.region ?_
   refine oM (.int .i64 told_1) rfl rfl ?_
   refine oM (vr1_1) rfl rfl ?_
   refine oV (.int .i64 (r1_1.length : Int)) (q_len ts_35 (shp (hS.own 0 rfl).slice) rfl rfl) rfl ?_
   obtain ⟨ho_1, hM⟩ := hM
   refine oV (.int .i64 (told_1 + (r1_1.length : Int))) (q_addN _ rfl rfl rfl ho_1.1 ho_1.2) rfl ?_
   refine oA (.int .i64 (told_1 + (r1_1.length : Int))) rfl rfl ?_
   refine HO.nil (thenQ_normal (?_))
   refine HW.seq ?_
   refine HW.region ?_
   refine oM (.pointer (some ⟨b_3, 0, none⟩)) rfl rfl ?_
   replace hS : St F_10 (Ow.box b_3 73 #[.int .i64 q_now_2, .pointer (some ⟨b_4, 0, none⟩), .int .i64 q_first_2, .map (some r_6)] :: Ow.box b_4 110 #[.map (some r_5)] :: Ow.map r_5 kT kI qm_3 :: Ow.pm r_6 (fun (x : T_api_Addr) => .agg (e_api_Addr x).toArray) pv_query_left th_query_left qm_4 none :: Ow.own 34 19 e_api_Asked vr1_1 r1_1 :: Ow.box b_1 26 (e_api_Tune t).toArray :: Ow.box b_2 34 (c_api_Asked a_Group (.bool a_All) vr_1).toArray :: Ow.own 30 17 e_api_Addr vr_1 r_4 :: fr) h_11 := hS.perm2 [1, 2, 3, 4, 0, 5, 6, 7] 8 rfl rfl
   refine HO.call (want_none) rfl (ec en_17 rfl rfl) (query_Queries_Next_walk (fr := (Ow.own 34 19 e_api_Asked vr1_1 r1_1 :: Ow.box b_1 26 (e_api_Tune t).toArray :: Ow.box b_2 34 (c_api_Asked a_Group (.bool a_All) vr_1).toArray :: Ow.own 30 17 e_api_Addr vr_1 r_4 :: fr)) q_now_2 qm_3 q_first_2 qm_4 b_3 b_4 r_5 r_6 hS hM) ?_
   rintro _ h_12 ⟨F_11, r0_2, r1_2, q_now_3, qm_5, q_first_3, qm_6, rfl, hk, hS, hM⟩
   replace hK := hK.trans hk
   replace hL_a_Sources := hL_a_Sources.kp hk
   refine oM (.tuple #[.int .i64 r0_2, .bool r1_2]) rfl rfl ?_
   refine oV (.int .i64 r0_2) (q_extract rfl rfl) rfl ?_
   refine oV (.bool r1_2) (q_extract rfl rfl) rfl ?_
   refine oA (.int .i64 r0_2) rfl rfl ?_
   refine oA (.bool r1_2) rfl rfl ?_
   refine HO.nil (thenQ_normal (?_))
   refine HW.seq ?_
   refine HW.region ?_
   refine oM (.bool r1_2) rfl rfl ?_
   refine HO.nil (thenQ_normal (?_))
   refine HW.cond r1_2 rfl (fun c_3 => ?_) (fun c_3 => ?_)
   ·
    replace hM := hM.1 c_3
    refine HW.seq ?_
    refine HW.seq ?_
    refine HW.region ?_
    refine oM (.int .i64 r0_2) rfl rfl ?_
    refine oM (.int .i64 now_1) rfl rfl ?_
    refine oV (.pointer (some ⟨b_1, 3, none⟩)) (q_fieldAddr fa_26_3 rfl rfl) rfl ?_
    refine oV (.int .i64 t.2.2.2.1) (q_load to_3 rfl (Blk.cell (hS.box 5 rfl) rfl)) rfl ?_
    obtain ⟨ho_2, hM⟩ := hM
    refine oV (.int .i64 (now_1 + t.2.2.2.1)) (q_addN _ rfl rfl rfl ho_2.1 ho_2.2) rfl ?_
    refine oV (.bool (!decide (r0_2 = (now_1 + t.2.2.2.1)))) (q_neq rfl rfl) rfl ?_
    refine HO.nil (thenQ_normal (?_))
    refine HW.cond (!decide (r0_2 = (now_1 + t.2.2.2.1))) rfl (fun c_4 => ?_) (fun c_4 => ?_)
    ·
     replace hM := hM.1 (nd_true c_4)
     refine HW.seq ?_
     refine HW.region ?_
     refine oA (.bool false) rfl rfl ?_
     refine HO.nil (thenQ_normal (?_))
     refine HW.ret (thenQ_ret (blockQ_ret (thenQ_ret (thenQ_ret (blockQ_ret (thenQ_ret (?_)))))))
     refine ⟨.inr rfl, .bool false, res1 rfl (rt rfl), ?_⟩
     replace hS : St F_11 (fr) h_12 := hS.perm2 [] 8 rfl rfl
     exact ⟨F_11, false, rfl, hK, hS, hL_a_Sources, hM⟩
    ·
     replace hM := hM.2 (nd_false c_4)
     refine HW.skip (thenQ_normal (?_))
     refine HW.region ?_
     refine oM (.int .i64 r0_2) rfl rfl ?_
     refine oA (.int .i64 r0_2) rfl rfl ?_
     refine HO.nil (blockQ_normal (thenQ_normal (?_)))
     refine HW.region ?_
     refine oM (.int .i64 i_1) rfl rfl ?_
     obtain ⟨ho_3, hM⟩ := hM
     refine oV (.int .i64 (i_1 + 1)) (q_addN _ rfl rfl rfl ho_3.1 ho_3.2) rfl ?_
     refine oA (.int .i64 (i_1 + 1)) rfl rfl ?_
     refine HO.nil (thenQ_normal (?_))
     replace hS : St F_11 (Ow.box b_1 26 (e_api_Tune t).toArray :: Ow.box b_2 34 (c_api_Asked a_Group (.bool a_All) vr_1).toArray :: Ow.own 30 17 e_api_Addr vr_1 r_4 :: Ow.box b_3 73 #[.int .i64 q_now_3, .pointer (some ⟨b_4, 0, none⟩), .int .i64 q_first_3, .map (some r_6)] :: Ow.box b_4 110 #[.map (some r_5)] :: Ow.map r_5 kT kI qm_5 :: Ow.pm r_6 (fun (x : T_api_Addr) => .agg (e_api_Addr x).toArray) pv_query_left th_query_left qm_6 none :: fr) h_12 := hS.perm2 [5, 6, 7, 0, 1, 2, 3] 8 rfl rfl
     rw [hKe_1] at hM
     exact ⟨(q_now_3, qm_5, q_first_3, qm_6, told_1 + (r1_1.length : Int), r0_2, i_1 + 1), ⟨F_11, rfl, rfl, rfl, rfl, rfl, rfl, rfl, rfl, hK, hS, hL_a_Sources, hM.1⟩, hM.2⟩
   ·
    replace hM := hM.2 c_3
    refine HW.skip (blockQ_normal (thenQ_normal (?_)))
    refine HW.region ?_
    refine oM (.int .i64 i_1) rfl rfl ?_
    obtain ⟨ho_4, hM⟩ := hM
    refine oV (.int .i64 (i_1 + 1)) (q_addN _ rfl rfl rfl ho_4.1 ho_4.2) rfl ?_
    refine oA (.int .i64 (i_1 + 1)) rfl rfl ?_
    refine HO.nil (thenQ_normal (?_))
    replace hS : St F_11 (Ow.box b_1 26 (e_api_Tune t).toArray :: Ow.box b_2 34 (c_api_Asked a_Group (.bool a_All) vr_1).toArray :: Ow.own 30 17 e_api_Addr vr_1 r_4 :: Ow.box b_3 73 #[.int .i64 q_now_3, .pointer (some ⟨b_4, 0, none⟩), .int .i64 q_first_3, .map (some r_6)] :: Ow.box b_4 110 #[.map (some r_5)] :: Ow.map r_5 kT kI qm_5 :: Ow.pm r_6 (fun (x : T_api_Addr) => .agg (e_api_Addr x).toArray) pv_query_left th_query_left qm_6 none :: fr) h_12 := hS.perm2 [5, 6, 7, 0, 1, 2, 3] 8 rfl rfl
    rw [hKe_1] at hM
    exact ⟨(q_now_3, qm_5, q_first_3, qm_6, told_1 + (r1_1.length : Int), now_1, i_1 + 1), ⟨F_11, rfl, rfl, rfl, rfl, rfl, rfl, rfl, rfl, hK, hS, hL_a_Sources, hM.1⟩, hM.2⟩
  ·
   replace hM := hM.2 (of_decide_eq_false c_2)
   refine HW.exit (thenQ_exit (thenQ_exit (blockQ_exit (thenQ_normal (?_)))))
   refine HW.seq ?_
   refine HW.region ?_
   refine oA (.int .i64 0) rfl rfl ?_
   refine HO.nil (thenQ_normal (?_))
   refine HW.seq_mid (fun f h => ∃ (F' : Fz) (want_1 : Int), f 3 = .pointer (some ⟨b_2, 0, none⟩) ∧ f 4 = .bool false ∧ f 5 = .pointer (some ⟨b_3, 0, none⟩) ∧ f 6 = .int .i64 told_1 ∧ f 8 = .bool r_8 ∧ f 14 = .int .i64 want_1 ∧ Kp F h0 F' h ∧ St F' (Ow.box b_2 34 (c_api_Asked a_Group (.bool a_All) vr_1).toArray :: Ow.own 30 17 e_api_Addr vr_1 r_4 :: Ow.box b_3 73 #[.int .i64 q_0_1, .pointer (some ⟨b_4, 0, none⟩), .int .i64 q_2_1, .map (some r_6)] :: Ow.box b_4 110 #[.map (some r_5)] :: Ow.map r_5 kT kI q_1_0_1 :: Ow.pm r_6 (fun (x : T_api_Addr) => .agg (e_api_Addr x).toArray) pv_query_left th_query_left q_3_1 none :: fr) h ∧ (SliceF F' h 17 e_api_Addr va_Sources a_Sources) ∧ law22_QueryCounts_j1 a_Group a_All Q r_4 r_8 q_0_1 q_1_0_1 q_2_1 q_3_1 told_1 want_1) ?_ ?_
   ·
    refine HW.seq ?_
    refine HW.region ?_
    refine oM (.bool r_8) rfl rfl ?_
    refine HO.nil (thenQ_normal (?_))
    refine HW.cond r_8 rfl (fun c_5 => ?_) (fun c_5 => ?_)
    ·
     replace hM := hM.1 c_5
     refine HW.region ?_
     refine oV (.pointer (some ⟨b_1, 4, none⟩)) (q_fieldAddr fa_26_4 rfl rfl) rfl ?_
     refine oV (.int .i64 t.2.2.2.2) (q_load to_3 rfl (Blk.cell (hS.box 0 rfl) rfl)) rfl ?_
     refine oA (.int .i64 t.2.2.2.2) rfl rfl ?_
     refine HO.nil (thenQ_normal (?_))
     replace hS : St F_9 (Ow.box b_2 34 (c_api_Asked a_Group (.bool a_All) vr_1).toArray :: Ow.own 30 17 e_api_Addr vr_1 r_4 :: Ow.box b_3 73 #[.int .i64 q_0_1, .pointer (some ⟨b_4, 0, none⟩), .int .i64 q_2_1, .map (some r_6)] :: Ow.box b_4 110 #[.map (some r_5)] :: Ow.map r_5 kT kI q_1_0_1 :: Ow.pm r_6 (fun (x : T_api_Addr) => .agg (e_api_Addr x).toArray) pv_query_left th_query_left q_3_1 none :: fr) h_10 := hS.perm2 [1, 2, 3, 4, 5, 6] 7 rfl rfl
     exact ⟨F_9, t.2.2.2.2, rfl, rfl, rfl, rfl, rfl, rfl, hK, hS, hL_a_Sources, hM⟩
    ·
     replace hM := hM.2 c_5
     refine HW.skip (thenQ_normal (?_))
     replace hS : St F_9 (Ow.box b_2 34 (c_api_Asked a_Group (.bool a_All) vr_1).toArray :: Ow.own 30 17 e_api_Addr vr_1 r_4 :: Ow.box b_3 73 #[.int .i64 q_0_1, .pointer (some ⟨b_4, 0, none⟩), .int .i64 q_2_1, .map (some r_6)] :: Ow.box b_4 110 #[.map (some r_5)] :: Ow.map r_5 kT kI q_1_0_1 :: Ow.pm r_6 (fun (x : T_api_Addr) => .agg (e_api_Addr x).toArray) pv_query_left th_query_left q_3_1 none :: fr) h_10 := hS.perm2 [1, 2, 3, 4, 5, 6] 7 rfl rfl
     exact ⟨F_9, 0, rfl, rfl, rfl, rfl, rfl, rfl, hK, hS, hL_a_Sources, hM⟩
   ·
    rintro f_2 h_13 ⟨F_12, want_1, e3, e4, e5, e6, e8, e14, hK, hS, hL_a_Sources, hM⟩
    unfold law22_QueryCounts_j1 at hM
    refine HW.fr [(3, .pointer (some ⟨b_2, 0, none⟩)), (4, .bool false), (5, .pointer (some ⟨b_3, 0, none⟩)), (6, .int .i64 told_1), (8, .bool r_8), (14, .int .i64 want_1)] ⟨e3, e4, e5, e6, e8, e14, trivial⟩ ?_
    refine HW.seq ?_
    refine HW.region ?_
    refine oM (.int .i64 told_1) rfl rfl ?_
    refine oM (.int .i64 want_1) rfl rfl ?_
    refine oV (.bool (decide (told_1 = want_1))) (q_eql rfl rfl) rfl ?_
    refine oM (.bool (decide (told_1 = want_1))) rfl rfl ?_
    rcases Bool.eq_false_or_eq_true (decide (told_1 = want_1)) with c_6 | c_6
    ·
     replace hM := hM.1 (of_decide_eq_true c_6)
     refine HO.val (v := .pointer (some ⟨b_3, 0, none⟩)) (want_by rfl rfl c_6) rfl (q_move rfl) ?_
     replace hS : St F_12 (Ow.box b_3 73 #[.int .i64 q_0_1, .pointer (some ⟨b_4, 0, none⟩), .int .i64 q_2_1, .map (some r_6)] :: Ow.box b_4 110 #[.map (some r_5)] :: Ow.map r_5 kT kI q_1_0_1 :: Ow.pm r_6 (fun (x : T_api_Addr) => .agg (e_api_Addr x).toArray) pv_query_left th_query_left q_3_1 none :: Ow.box b_2 34 (c_api_Asked a_Group (.bool a_All) vr_1).toArray :: Ow.own 30 17 e_api_Addr vr_1 r_4 :: fr) h_13 := hS.perm2 [2, 3, 4, 5, 0, 1] 6 rfl rfl
     refine HO.call (want_by rfl rfl c_6) rfl (ec en_12 rfl rfl) (query_Queries_Open_walk (fr := (Ow.box b_2 34 (c_api_Asked a_Group (.bool a_All) vr_1).toArray :: Ow.own 30 17 e_api_Addr vr_1 r_4 :: fr)) q_0_1 q_1_0_1 q_2_1 q_3_1 b_3 b_4 r_5 r_6 hS hM) ?_
     rintro vr_3 h_14 ⟨F_13, r_9, q_now_4, qm_7, q_first_4, qm_8, _, rfl, hk, hS, hL_4, hM⟩
     replace hK := hK.trans hk
     replace hL_a_Sources := hL_a_Sources.kp hk
     refine HO.val (v := .int .i64 (r_9.length : Int)) (want_by rfl rfl c_6) rfl (q_len ts_35 (shp (hS.own 0 rfl).slice) rfl rfl) ?_
     refine HO.val (v := .bool (decide ((r_9.length : Int) = 0))) (want_by rfl rfl c_6) rfl (q_eql rfl rfl) ?_
     refine oV (.bool (decide ((r_9.length : Int) = 0))) (q_pickK true rfl c_6 rfl) rfl ?_
     refine oM (.bool (decide ((r_9.length : Int) = 0))) rfl rfl ?_
     rcases Bool.eq_false_or_eq_true (decide ((r_9.length : Int) = 0)) with c_7 | c_7
     ·
      replace hM := hM.1 (of_decide_eq_true c_7)
      refine HO.val (v := .bool r_8) (want_by rfl rfl c_7) rfl (q_move rfl) ?_
      refine HO.val (v := .pointer (some ⟨b_2, 0, none⟩)) (want_by rfl rfl c_7) rfl (q_fieldAddr fa_34_0 rfl rfl) ?_
      refine HO.val (v := .agg (e_api_Addr a_Group).toArray) (want_by rfl rfl c_7) rfl (q_loadAgg (cs := (e_api_Addr a_Group)) ta_30 rfl rfl (Blk.cells (k := 17) (hS.box 5 rfl) rfl)) ?_
      refine HO.call (want_by rfl rfl c_7) rfl (ec en_18 rfl rfl) (ref03_Good_walk (fr := (Ow.own 34 19 e_api_Asked vr_3 r_9 :: Ow.box b_3 73 #[.int .i64 q_now_4, .pointer (some ⟨b_4, 0, none⟩), .int .i64 q_first_4, .map (some r_6)] :: Ow.box b_4 110 #[.map (some r_5)] :: Ow.map r_5 kT kI qm_7 :: Ow.pm r_6 (fun (x : T_api_Addr) => .agg (e_api_Addr x).toArray) pv_query_left th_query_left qm_8 none :: Ow.box b_2 34 (c_api_Asked a_Group (.bool a_All) vr_1).toArray :: Ow.own 30 17 e_api_Addr vr_1 r_4 :: fr)) a_Group hS hM) ?_
      rintro _ h_15 ⟨F_14, r_10, rfl, hk, hS, hM⟩
      replace hK := hK.trans hk
      replace hL_a_Sources := hL_a_Sources.kp hk
      refine HO.val (v := .bool r_10) (want_by rfl rfl c_7) rfl (q_move rfl) ?_
      rcases Bool.eq_false_or_eq_true r_10 with c_8 | c_8
      ·
       replace hM := hM.1 c_8
       refine HO.val (v := .pointer (some ⟨b_2, 0, none⟩)) (want_by rfl rfl c_8) rfl (q_fieldAddr fa_34_0 rfl rfl) ?_
       refine HO.val (v := .agg (e_api_Addr a_Group).toArray) (want_by rfl rfl c_8) rfl (q_loadAgg (cs := (e_api_Addr a_Group)) ta_30 rfl rfl (Blk.cells (k := 17) (hS.box 5 rfl) rfl)) ?_
       refine HO.call (want_by rfl rfl c_8) rfl (ec en_19 rfl rfl) (ref03_Group_walk (fr := (Ow.own 34 19 e_api_Asked vr_3 r_9 :: Ow.box b_3 73 #[.int .i64 q_now_4, .pointer (some ⟨b_4, 0, none⟩), .int .i64 q_first_4, .map (some r_6)] :: Ow.box b_4 110 #[.map (some r_5)] :: Ow.map r_5 kT kI qm_7 :: Ow.pm r_6 (fun (x : T_api_Addr) => .agg (e_api_Addr x).toArray) pv_query_left th_query_left qm_8 none :: Ow.box b_2 34 (c_api_Asked a_Group (.bool a_All) vr_1).toArray :: Ow.own 30 17 e_api_Addr vr_1 r_4 :: fr)) a_Group hS hM) ?_
       rintro _ h_16 ⟨F_15, r_11, rfl, hk, hS, hM⟩
       replace hK := hK.trans hk
       replace hL_a_Sources := hL_a_Sources.kp hk
       refine HO.val (v := .bool r_11) (want_by rfl rfl c_7) rfl (q_pickK true rfl c_8 rfl) ?_
       refine HO.val (v := .bool r_11) (want_by rfl rfl c_7) rfl (q_move rfl) ?_
       rcases Bool.eq_false_or_eq_true r_11 with c_9 | c_9
       ·
        replace hM := hM.1 c_9
        refine HO.val (v := .pointer (some ⟨b_2, 17, none⟩)) (want_by rfl rfl c_9) rfl (q_fieldAddr fa_34_1 rfl rfl) ?_
        refine HO.val (v := .bool a_All) (want_by rfl rfl c_9) rfl (q_load to_4 rfl (Blk.cell (hS.box 5 rfl) rfl)) ?_
        refine HO.val (v := .bool a_All) (want_by rfl rfl c_9) rfl (q_move rfl) ?_
        rcases Bool.eq_false_or_eq_true a_All with c_10 | c_10
        ·
         replace hM := hM.1 c_10
         refine HO.past (past_by rfl rfl c_10) rfl ?_
         refine HO.past (past_by rfl rfl c_10) rfl ?_
         refine HO.past (past_by rfl rfl c_10) rfl ?_
         refine HO.val (v := .bool true) (want_by rfl rfl c_9) rfl (q_pickK true rfl c_10 rfl) ?_
         refine HO.val (v := .bool true) (want_by rfl rfl c_7) rfl (q_pickK true rfl c_9 rfl) ?_
         refine HO.val (v := .bool (r_8 == true)) (want_by rfl rfl c_7) rfl (q_eqlB Try.underlying4 rfl rfl) ?_
         refine oV (.bool (r_8 == true)) (q_pickK true rfl c_7 rfl) rfl ?_
         refine oM (.bool (r_8 == true)) rfl rfl ?_
         rcases Bool.eq_false_or_eq_true (r_8 == true) with c_11 | c_11
         ·
          replace hM := hM.1 c_11
          refine HO.call (want_by rfl rfl c_11) rfl (ec en_13 rfl rfl) (law22_lives_walk (fr := (Ow.own 34 19 e_api_Asked vr_3 r_9 :: Ow.box b_3 73 #[.int .i64 q_now_4, .pointer (some ⟨b_4, 0, none⟩), .int .i64 q_first_4, .map (some r_6)] :: Ow.box b_4 110 #[.map (some r_5)] :: Ow.map r_5 kT kI qm_7 :: Ow.pm r_6 (fun (x : T_api_Addr) => .agg (e_api_Addr x).toArray) pv_query_left th_query_left qm_8 none :: Ow.box b_2 34 (c_api_Asked a_Group (.bool a_All) vr_1).toArray :: Ow.own 30 17 e_api_Addr vr_1 r_4 :: fr))  hS hM) ?_
          rintro _ h_17 ⟨F_16, r_12, rfl, hk, hS, hM⟩
          replace hK := hK.trans hk
          replace hL_a_Sources := hL_a_Sources.kp hk
          refine oV (.bool r_12) (q_pickK true rfl c_11 rfl) rfl ?_
          refine oA (.bool r_12) rfl rfl ?_
          refine HO.nil (thenQ_normal (?_))
          refine HW.ret (?_)
          refine ⟨.inr rfl, .bool r_12, res1 rfl (rt rfl), ?_⟩
          replace hS : St F_16 (fr) h_17 := hS.perm2 [] 7 rfl rfl
          exact ⟨F_16, r_12, rfl, hK, hS, hL_a_Sources, hM⟩
         ·
          replace hM := hM.2 c_11
          refine HO.past (past_by rfl rfl c_11) rfl ?_
          refine oV (.bool false) (q_pickK false rfl c_11 rfl) rfl ?_
          refine oA (.bool false) rfl rfl ?_
          refine HO.nil (thenQ_normal (?_))
          refine HW.ret (?_)
          refine ⟨.inr rfl, .bool false, res1 rfl (rt rfl), ?_⟩
          replace hS : St F_15 (fr) h_16 := hS.perm2 [] 7 rfl rfl
          exact ⟨F_15, false, rfl, hK, hS, hL_a_Sources, hM⟩
        ·
         replace hM := hM.2 c_10
         refine HO.val (v := .pointer (some ⟨b_2, 18, none⟩)) (want_by rfl rfl c_10) rfl (q_fieldAddr fa_34_2 rfl rfl) ?_
         refine HO.val (v := vr_1) (want_by rfl rfl c_10) rfl (q_load to_32 rfl (Blk.cell (hS.box 5 rfl) rfl)) ?_
         replace hS : St F_15 (Ow.own 30 17 e_api_Addr vr_1 r_4 :: Ow.own 34 19 e_api_Asked vr_3 r_9 :: Ow.box b_3 73 #[.int .i64 q_now_4, .pointer (some ⟨b_4, 0, none⟩), .int .i64 q_first_4, .map (some r_6)] :: Ow.box b_4 110 #[.map (some r_5)] :: Ow.map r_5 kT kI qm_7 :: Ow.pm r_6 (fun (x : T_api_Addr) => .agg (e_api_Addr x).toArray) pv_query_left th_query_left qm_8 none :: Ow.box b_2 34 (c_api_Asked a_Group (.bool a_All) vr_1).toArray :: fr) h_16 := hS.perm2 [6, 0, 1, 2, 3, 4, 5] 7 rfl rfl
         have hZ_3 := hS
         have hkz_3 := (hS.freeze).2
         replace hS := hS.freeze.1
         have hL_5 : SliceF (fun bz_ => F_15 bz_ ∨ (Ow.own 30 17 e_api_Addr vr_1 r_4).foot bz_) h_16 17 e_api_Addr vr_1 r_4 := ⟨(hZ_3.own 0 rfl).slice, fun _ b hb => .inr hb⟩
         refine HO.call (want_by rfl rfl c_10) rfl (ec en_20 rfl rfl) (law22_some_walk (fr := (Ow.own 34 19 e_api_Asked vr_3 r_9 :: Ow.box b_3 73 #[.int .i64 q_now_4, .pointer (some ⟨b_4, 0, none⟩), .int .i64 q_first_4, .map (some r_6)] :: Ow.box b_4 110 #[.map (some r_5)] :: Ow.map r_5 kT kI qm_7 :: Ow.pm r_6 (fun (x : T_api_Addr) => .agg (e_api_Addr x).toArray) pv_query_left th_query_left qm_8 none :: Ow.box b_2 34 (c_api_Asked a_Group (.bool a_All) vr_1).toArray :: fr)) r_4 vr_1 hS hL_5 hM) ?_
         rintro _ h_18 ⟨F_17, r_13, rfl, hk, hS, _, hM⟩
         obtain ⟨hS, hk⟩ := hZ_3.back hk hS
         generalize (fun bz_ => F_17 bz_ ∧ ¬ (Ow.own 30 17 e_api_Addr vr_1 r_4).foot bz_) = F_18 at hS hk
         replace hK := hK.trans hk
         replace hL_a_Sources := hL_a_Sources.kp hk
         refine HO.val (v := .bool r_13) (want_by rfl rfl c_9) rfl (q_pickK false rfl c_10 rfl) ?_
         refine HO.val (v := .bool r_13) (want_by rfl rfl c_7) rfl (q_pickK true rfl c_9 rfl) ?_
         refine HO.val (v := .bool (r_8 == r_13)) (want_by rfl rfl c_7) rfl (q_eqlB Try.underlying4 rfl rfl) ?_
         refine oV (.bool (r_8 == r_13)) (q_pickK true rfl c_7 rfl) rfl ?_
         refine oM (.bool (r_8 == r_13)) rfl rfl ?_
         rcases Bool.eq_false_or_eq_true (r_8 == r_13) with c_12 | c_12
         ·
          replace hM := hM.1 c_12
          refine HO.call (want_by rfl rfl c_12) rfl (ec en_13 rfl rfl) (law22_lives_walk (fr := (Ow.own 30 17 e_api_Addr vr_1 r_4 :: Ow.own 34 19 e_api_Asked vr_3 r_9 :: Ow.box b_3 73 #[.int .i64 q_now_4, .pointer (some ⟨b_4, 0, none⟩), .int .i64 q_first_4, .map (some r_6)] :: Ow.box b_4 110 #[.map (some r_5)] :: Ow.map r_5 kT kI qm_7 :: Ow.pm r_6 (fun (x : T_api_Addr) => .agg (e_api_Addr x).toArray) pv_query_left th_query_left qm_8 none :: Ow.box b_2 34 (c_api_Asked a_Group (.bool a_All) vr_1).toArray :: fr))  hS hM) ?_
          rintro _ h_19 ⟨F_19, r_14, rfl, hk, hS, hM⟩
          replace hK := hK.trans hk
          replace hL_a_Sources := hL_a_Sources.kp hk
          refine oV (.bool r_14) (q_pickK true rfl c_12 rfl) rfl ?_
          refine oA (.bool r_14) rfl rfl ?_
          refine HO.nil (thenQ_normal (?_))
          refine HW.ret (?_)
          refine ⟨.inr rfl, .bool r_14, res1 rfl (rt rfl), ?_⟩
          replace hS : St F_19 (fr) h_19 := hS.perm2 [] 7 rfl rfl
          exact ⟨F_19, r_14, rfl, hK, hS, hL_a_Sources, hM⟩
         ·
          replace hM := hM.2 c_12
          refine HO.past (past_by rfl rfl c_12) rfl ?_
          refine oV (.bool false) (q_pickK false rfl c_12 rfl) rfl ?_
          refine oA (.bool false) rfl rfl ?_
          refine HO.nil (thenQ_normal (?_))
          refine HW.ret (?_)
          refine ⟨.inr rfl, .bool false, res1 rfl (rt rfl), ?_⟩
          replace hS : St F_18 (fr) h_18 := hS.perm2 [] 7 rfl rfl
          exact ⟨F_18, false, rfl, hK, hS, hL_a_Sources, hM⟩
       ·
        replace hM := hM.2 c_9
        refine HO.past (past_by rfl rfl c_9) rfl ?_
        refine HO.past (past_by rfl rfl c_9) rfl ?_
        refine HO.past (past_by rfl rfl c_9) rfl ?_
        refine HO.past (past_undef rfl rfl) rfl ?_
        refine HO.past (past_undef rfl rfl) rfl ?_
        refine HO.past (past_undef rfl rfl) rfl ?_
        refine HO.past (past_by rfl rfl c_9) rfl ?_
        refine HO.val (v := .bool false) (want_by rfl rfl c_7) rfl (q_pickK false rfl c_9 rfl) ?_
        refine HO.val (v := .bool (r_8 == false)) (want_by rfl rfl c_7) rfl (q_eqlB Try.underlying4 rfl rfl) ?_
        refine oV (.bool (r_8 == false)) (q_pickK true rfl c_7 rfl) rfl ?_
        refine oM (.bool (r_8 == false)) rfl rfl ?_
        rcases Bool.eq_false_or_eq_true (r_8 == false) with c_13 | c_13
        ·
         replace hM := hM.1 c_13
         refine HO.call (want_by rfl rfl c_13) rfl (ec en_13 rfl rfl) (law22_lives_walk (fr := (Ow.own 34 19 e_api_Asked vr_3 r_9 :: Ow.box b_3 73 #[.int .i64 q_now_4, .pointer (some ⟨b_4, 0, none⟩), .int .i64 q_first_4, .map (some r_6)] :: Ow.box b_4 110 #[.map (some r_5)] :: Ow.map r_5 kT kI qm_7 :: Ow.pm r_6 (fun (x : T_api_Addr) => .agg (e_api_Addr x).toArray) pv_query_left th_query_left qm_8 none :: Ow.box b_2 34 (c_api_Asked a_Group (.bool a_All) vr_1).toArray :: Ow.own 30 17 e_api_Addr vr_1 r_4 :: fr))  hS hM) ?_
         rintro _ h_20 ⟨F_20, r_15, rfl, hk, hS, hM⟩
         replace hK := hK.trans hk
         replace hL_a_Sources := hL_a_Sources.kp hk
         refine oV (.bool r_15) (q_pickK true rfl c_13 rfl) rfl ?_
         refine oA (.bool r_15) rfl rfl ?_
         refine HO.nil (thenQ_normal (?_))
         refine HW.ret (?_)
         refine ⟨.inr rfl, .bool r_15, res1 rfl (rt rfl), ?_⟩
         replace hS : St F_20 (fr) h_20 := hS.perm2 [] 7 rfl rfl
         exact ⟨F_20, r_15, rfl, hK, hS, hL_a_Sources, hM⟩
        ·
         replace hM := hM.2 c_13
         refine HO.past (past_by rfl rfl c_13) rfl ?_
         refine oV (.bool false) (q_pickK false rfl c_13 rfl) rfl ?_
         refine oA (.bool false) rfl rfl ?_
         refine HO.nil (thenQ_normal (?_))
         refine HW.ret (?_)
         refine ⟨.inr rfl, .bool false, res1 rfl (rt rfl), ?_⟩
         replace hS : St F_15 (fr) h_16 := hS.perm2 [] 7 rfl rfl
         exact ⟨F_15, false, rfl, hK, hS, hL_a_Sources, hM⟩
      ·
       replace hM := hM.2 c_8
       refine HO.past (past_by rfl rfl c_8) rfl ?_
       refine HO.past (past_by rfl rfl c_8) rfl ?_
       refine HO.past (past_by rfl rfl c_8) rfl ?_
       refine HO.val (v := .bool false) (want_by rfl rfl c_7) rfl (q_pickK false rfl c_8 rfl) ?_
       refine HO.val (v := .bool false) (want_by rfl rfl c_7) rfl (q_move rfl) ?_
       refine HO.past (past_some rfl rfl) rfl ?_
       refine HO.past (past_some rfl rfl) rfl ?_
       refine HO.past (past_some rfl rfl) rfl ?_
       refine HO.past (past_undef rfl rfl) rfl ?_
       refine HO.past (past_undef rfl rfl) rfl ?_
       refine HO.past (past_undef rfl rfl) rfl ?_
       refine HO.past (past_some rfl rfl) rfl ?_
       refine HO.val (v := .bool false) (want_by rfl rfl c_7) rfl (q_pick rfl rfl) ?_
       refine HO.val (v := .bool (r_8 == false)) (want_by rfl rfl c_7) rfl (q_eqlB Try.underlying4 rfl rfl) ?_
       refine oV (.bool (r_8 == false)) (q_pickK true rfl c_7 rfl) rfl ?_
       refine oM (.bool (r_8 == false)) rfl rfl ?_
       rcases Bool.eq_false_or_eq_true (r_8 == false) with c_14 | c_14
       ·
        replace hM := hM.1 c_14
        refine HO.call (want_by rfl rfl c_14) rfl (ec en_13 rfl rfl) (law22_lives_walk (fr := (Ow.own 34 19 e_api_Asked vr_3 r_9 :: Ow.box b_3 73 #[.int .i64 q_now_4, .pointer (some ⟨b_4, 0, none⟩), .int .i64 q_first_4, .map (some r_6)] :: Ow.box b_4 110 #[.map (some r_5)] :: Ow.map r_5 kT kI qm_7 :: Ow.pm r_6 (fun (x : T_api_Addr) => .agg (e_api_Addr x).toArray) pv_query_left th_query_left qm_8 none :: Ow.box b_2 34 (c_api_Asked a_Group (.bool a_All) vr_1).toArray :: Ow.own 30 17 e_api_Addr vr_1 r_4 :: fr))  hS hM) ?_
        rintro _ h_21 ⟨F_21, r_16, rfl, hk, hS, hM⟩
        replace hK := hK.trans hk
        replace hL_a_Sources := hL_a_Sources.kp hk
        refine oV (.bool r_16) (q_pickK true rfl c_14 rfl) rfl ?_
        refine oA (.bool r_16) rfl rfl ?_
        refine HO.nil (thenQ_normal (?_))
        refine HW.ret (?_)
        refine ⟨.inr rfl, .bool r_16, res1 rfl (rt rfl), ?_⟩
        replace hS : St F_21 (fr) h_21 := hS.perm2 [] 7 rfl rfl
        exact ⟨F_21, r_16, rfl, hK, hS, hL_a_Sources, hM⟩
       ·
        replace hM := hM.2 c_14
        refine HO.past (past_by rfl rfl c_14) rfl ?_
        refine oV (.bool false) (q_pickK false rfl c_14 rfl) rfl ?_
        refine oA (.bool false) rfl rfl ?_
        refine HO.nil (thenQ_normal (?_))
        refine HW.ret (?_)
        refine ⟨.inr rfl, .bool false, res1 rfl (rt rfl), ?_⟩
        replace hS : St F_14 (fr) h_15 := hS.perm2 [] 7 rfl rfl
        exact ⟨F_14, false, rfl, hK, hS, hL_a_Sources, hM⟩
     ·
      replace hM := hM.2 (of_decide_eq_false c_7)
      refine HO.past (past_by rfl rfl c_7) rfl ?_
      refine HO.past (past_by rfl rfl c_7) rfl ?_
      refine HO.past (past_by rfl rfl c_7) rfl ?_
      refine HO.past (past_by rfl rfl c_7) rfl ?_
      refine HO.past (past_by rfl rfl c_7) rfl ?_
      refine HO.past (past_undef rfl rfl) rfl ?_
      refine HO.past (past_undef rfl rfl) rfl ?_
      refine HO.past (past_undef rfl rfl) rfl ?_
      refine HO.past (past_by rfl rfl c_7) rfl ?_
      refine HO.past (past_by rfl rfl c_7) rfl ?_
      refine HO.past (past_undef rfl rfl) rfl ?_
      refine HO.past (past_undef rfl rfl) rfl ?_
      refine HO.past (past_undef rfl rfl) rfl ?_
      refine HO.past (past_undef rfl rfl) rfl ?_
      refine HO.past (past_undef rfl rfl) rfl ?_
      refine HO.past (past_undef rfl rfl) rfl ?_
      refine HO.past (past_undef rfl rfl) rfl ?_
      refine HO.past (past_by rfl rfl c_7) rfl ?_
      refine HO.past (past_by rfl rfl c_7) rfl ?_
      refine oV (.bool false) (q_pickK false rfl c_7 rfl) rfl ?_
      refine oM (.bool false) rfl rfl ?_
      refine HO.past (past_some rfl rfl) rfl ?_
      refine oV (.bool false) (q_pick rfl rfl) rfl ?_
      refine oA (.bool false) rfl rfl ?_
      refine HO.nil (thenQ_normal (?_))
      refine HW.ret (?_)
      refine ⟨.inr rfl, .bool false, res1 rfl (rt rfl), ?_⟩
      replace hS : St F_13 (fr) h_14 := hS.perm2 [] 7 rfl rfl
      exact ⟨F_13, false, rfl, hK, hS, hL_a_Sources, hM⟩
    ·
     replace hM := hM.2 (of_decide_eq_false c_6)
     refine HO.past (past_by rfl rfl c_6) rfl ?_
     refine HO.past (past_by rfl rfl c_6) rfl ?_
     refine HO.past (past_by rfl rfl c_6) rfl ?_
     refine HO.past (past_by rfl rfl c_6) rfl ?_
     refine oV (.bool false) (q_pickK false rfl c_6 rfl) rfl ?_
     refine oM (.bool false) rfl rfl ?_
     refine HO.past (past_some rfl rfl) rfl ?_
     refine HO.past (past_some rfl rfl) rfl ?_
     refine HO.past (past_some rfl rfl) rfl ?_
     refine HO.past (past_some rfl rfl) rfl ?_
     refine HO.past (past_some rfl rfl) rfl ?_
     refine HO.past (past_undef rfl rfl) rfl ?_
     refine HO.past (past_undef rfl rfl) rfl ?_
     refine HO.past (past_undef rfl rfl) rfl ?_
     refine HO.past (past_some rfl rfl) rfl ?_
     refine HO.past (past_some rfl rfl) rfl ?_
     refine HO.past (past_undef rfl rfl) rfl ?_
     refine HO.past (past_undef rfl rfl) rfl ?_
     refine HO.past (past_undef rfl rfl) rfl ?_
     refine HO.past (past_undef rfl rfl) rfl ?_
     refine HO.past (past_undef rfl rfl) rfl ?_
     refine HO.past (past_undef rfl rfl) rfl ?_
     refine HO.past (past_undef rfl rfl) rfl ?_
     refine HO.past (past_some rfl rfl) rfl ?_
     refine HO.past (past_some rfl rfl) rfl ?_
     refine oV (.bool false) (q_pick rfl rfl) rfl ?_
     refine oM (.bool false) rfl rfl ?_
     refine HO.past (past_some rfl rfl) rfl ?_
     refine oV (.bool false) (q_pick rfl rfl) rfl ?_
     refine oA (.bool false) rfl rfl ?_
     refine HO.nil (thenQ_normal (?_))
     refine HW.ret (?_)
     refine ⟨.inr rfl, .bool false, res1 rfl (rt rfl), ?_⟩
     replace hS : St F_12 (fr) h_13 := hS.perm2 [] 6 rfl rfl
     exact ⟨F_12, false, rfl, hK, hS, hL_a_Sources, hM⟩

def clock_Clock_Keys_string_W (c_at : List (Str × Int)) (Q : (List Str) → Prop) : Prop :=
 (c_at.length ≤ 1000000 ∧ ∀ p ∈ c_at, p.1.length ≤ 1000000) ∧ (∀ l_1 : List Str, List.Perm l_1 (c_at.map Prod.fst) → List.Pairwise (fun x y => ¬ y < x) l_1 → (Q l_1))
set_option maxHeartbeats 40000000 in
set_option maxRecDepth 100000 in
theorem clock_Clock_Keys_string_walk {F : Fz} {fr : List Ow} {h0 : Heap} (c_at : List (Str × Int)) (bc : Nat) (rc_at : Nat) (hS : St F (fr) h0) (hM_rc_at : RoF (Ow.map rc_at kT kI c_at) F h0) (hB_bc : RoF (Ow.box bc 110 #[.map (some rc_at)]) F h0) (hD : DM.on = false) {Q : (List Str) → Prop} (hM : clock_Clock_Keys_string_W c_at Q) :
  HC Try.prog 66 #[.pointer (some ⟨bc, 0, none⟩)] h0 fun u h' => ∃ (F' : Fz) (r_1 : List Str) (vr_1 : Value), u = vr_1 ∧ Kp F h0 F' h' ∧ St F' (Ow.own 9 1 encT vr_1 r_1 :: fr) h' ∧ (RoF (Ow.map rc_at kT kI c_at) F' h') ∧ (RoF (Ow.box bc 110 #[.map (some rc_at)]) F' h') ∧ Q r_1 := by
 unfold clock_Clock_Keys_string_W at hM
 have hK := Kp.refl F h0
 refine HC.of_HW (n := 11) Try.func66 rfl rfl (Nat.le_of_ble_eq_true rfl) ?_
 refine HW.seq ?_
 refine HW.region ?_
 refine oA (.slice none 0 0) rfl rfl ?_
 refine HO.nil (thenQ_normal (?_))
 refine HW.seq ?_
 refine HW.seq ?_
 refine HW.region ?_
 refine oM (.pointer (some ⟨bc, 0, none⟩)) rfl rfl ?_
 refine oV (.bool false) (q_eqlPnil Try.underlying69 rfl rfl rfl) rfl ?_
 refine HO.nil (thenQ_normal (?_))
 refine HW.condF rfl ?_
 refine HW.skip (thenQ_normal (?_))
 refine HW.seq ?_
 refine HW.region ?_
 refine oM (.pointer (some ⟨bc, 0, none⟩)) rfl rfl ?_
 refine oV (.pointer (some ⟨bc, 0, none⟩)) (q_nilCheck rfl) rfl ?_
 refine oV (.pointer (some ⟨bc, 0, none⟩)) (q_fieldAddr fa_110_0 rfl rfl) rfl ?_
 refine oV (.map (some rc_at)) (q_load to_108 rfl (Blk.cell hB_bc.box rfl)) rfl ?_
 refine HO.call (want_none) rfl (ec en_96 rfl rfl) (mkeysT hS) ?_
 rintro _ h_1 ⟨b_1, rfl, hk, hS⟩
 replace hK := hK.trans hk
 replace hM_rc_at := hM_rc_at.kp hk
 replace hB_bc := hB_bc.kp hk
 obtain ⟨ho_1, hM⟩ := hM
 refine HO.call (want_none) rfl (ec en_95 rfl rfl) (sortedT hD hS (hS.box 0 rfl) hM_rc_at.mp ho_1.1 ho_1.2) ?_
 rintro v_1 h_2 ⟨l_1, hk, hS, hp_1, hs_1⟩
 replace hM := hM l_1 hp_1 hs_1
 replace hK := hK.trans hk
 replace hM_rc_at := hM_rc_at.kp hk
 replace hB_bc := hB_bc.kp hk
 refine oA (v_1) rfl rfl ?_
 refine HO.nil (thenQ_normal (?_))
 refine HW.ret (?_)
 refine ⟨.inr rfl, v_1, res1 rfl (rt rfl), ?_⟩
 replace hS : St F (Ow.own 9 1 encT v_1 l_1 :: fr) h_2 := hS.perm2 [0] 2 rfl rfl
 exact ⟨F, l_1, v_1, rfl, hK, hS, hM_rc_at, hB_bc, hM⟩

def query_Queries_Stop_l1 (q_now : Int) (q_first : Int) (Q : Int → (List (Str × Int)) → Int → (List (T_api_Addr × (Nat × Nat) × T_query_left)) → Prop) (r_1 : List Str) (K_1 : (List (Str × Int)) → Int → Prop) (q_1_0_2 : List (Str × Int)) (n_1 : Int) : Prop :=
 (n_1 < (r_1.length : Int) → ((0 : Int) ≤ n_1 ∧ n_1 < (r_1.length : Int)) ∧ (clock_Clock_Cut_string_W q_1_0_2 (gi r_1 n_1) (fun r_2 cm_1 => (I64 (n_1 + 1)) ∧ (K_1 cm_1 (n_1 + 1))))) ∧ (¬ (n_1 < (r_1.length : Int)) → Q q_now q_1_0_2 q_first [])
def query_Queries_Stop_W (q_now : Int) (q_at_at : List (Str × Int)) (q_first : Int) (q_open : List (T_api_Addr × (Nat × Nat) × T_query_left)) (Q : Int → (List (Str × Int)) → Int → (List (T_api_Addr × (Nat × Nat) × T_query_left)) → Prop) : Prop :=
 clock_Clock_Keys_string_W q_at_at (fun r_1 => loopW (fun (K_1 : ((List (Str × Int)) × Int) → Prop) (s : (List (Str × Int)) × Int) => query_Queries_Stop_l1 q_now q_first Q r_1 (fun q_1_0_2 n_1 => K_1 (q_1_0_2, n_1)) s.1 s.2) (q_at_at, 0))
set_option maxHeartbeats 40000000 in
set_option maxRecDepth 100000 in
theorem query_Queries_Stop_walk {F : Fz} {fr : List Ow} {h0 : Heap} (q_now : Int) (q_at_at : List (Str × Int)) (q_first : Int) (q_open : List (T_api_Addr × (Nat × Nat) × T_query_left)) (bq : Nat) (bq_at : Nat) (rq_at_at : Nat) (rq_open : Nat) (hS : St F (Ow.box bq 73 #[.int .i64 q_now, .pointer (some ⟨bq_at, 0, none⟩), .int .i64 q_first, .map (some rq_open)] :: Ow.box bq_at 110 #[.map (some rq_at_at)] :: Ow.map rq_at_at kT kI q_at_at :: Ow.pm rq_open (fun (x : T_api_Addr) => .agg (e_api_Addr x).toArray) pv_query_left th_query_left q_open none :: fr) h0)  (hD : DM.on = false) {Q : Int → (List (Str × Int)) → Int → (List (T_api_Addr × (Nat × Nat) × T_query_left)) → Prop} (hM : query_Queries_Stop_W q_now q_at_at q_first q_open Q) :
  HC Try.prog 32 #[.pointer (some ⟨bq, 0, none⟩)] h0 fun u h' => ∃ (F' : Fz) (q_now_1 : Int) (qm_1 : List (Str × Int)) (q_first_1 : Int) (qm_2 : List (T_api_Addr × (Nat × Nat) × T_query_left)), u = .tuple #[] ∧ Kp F h0 F' h' ∧ St F' (Ow.box bq 73 #[.int .i64 q_now_1, .pointer (some ⟨bq_at, 0, none⟩), .int .i64 q_first_1, .map (some rq_open)] :: Ow.box bq_at 110 #[.map (some rq_at_at)] :: Ow.map rq_at_at kT kI qm_1 :: Ow.pm rq_open (fun (x : T_api_Addr) => .agg (e_api_Addr x).toArray) pv_query_left th_query_left qm_2 none :: fr) h' ∧ Q q_now_1 qm_1 q_first_1 qm_2 := by
 unfold query_Queries_Stop_W at hM
 have hK := Kp.refl F h0
 refine HC.of_HW (n := 27) Try.func32 rfl rfl (Nat.le_of_ble_eq_true rfl) ?_
 refine HW.seq ?_
 refine HW.seq ?_
 refine HW.region ?_
 refine oM (.pointer (some ⟨bq, 0, none⟩)) rfl rfl ?_
 refine oV (.bool false) (q_eqlPnil Try.underlying22 rfl rfl rfl) rfl ?_
 refine HO.nil (thenQ_normal (?_))
 refine HW.condF rfl ?_
 refine HW.skip (thenQ_normal (?_))
 refine HW.seq ?_
 refine HW.seq ?_
 refine HW.region ?_
 refine oM (.pointer (some ⟨bq, 0, none⟩)) rfl rfl ?_
 refine oV (.pointer (some ⟨bq, 0, none⟩)) (q_nilCheck rfl) rfl ?_
 refine oV (.pointer (some ⟨bq, 1, none⟩)) (q_fieldAddr fa_73_1 rfl rfl) rfl ?_
 refine oV (.pointer (some ⟨bq_at, 0, none⟩)) (q_load to_69 rfl (Blk.cell (hS.box 0 rfl) rfl)) rfl ?_
 replace hS : St F (Ow.box bq_at 110 #[.map (some rq_at_at)] :: Ow.box bq 73 #[.int .i64 q_now, .pointer (some ⟨bq_at, 0, none⟩), .int .i64 q_first, .map (some rq_open)] :: Ow.map rq_at_at kT kI q_at_at :: Ow.pm rq_open (fun (x : T_api_Addr) => .agg (e_api_Addr x).toArray) pv_query_left th_query_left q_open none :: fr) h0 := hS.perm2 [1, 0, 2, 3] 4 rfl rfl
 have hZ_1 := hS
 have hkz_1 := (hS.freeze).2
 replace hS := hS.freeze.1
 have hL_1 := hZ_1.lent
 replace hS : St (fun bz_ => F bz_ ∨ (Ow.box bq_at 110 #[.map (some rq_at_at)]).foot bz_) (Ow.map rq_at_at kT kI q_at_at :: Ow.box bq 73 #[.int .i64 q_now, .pointer (some ⟨bq_at, 0, none⟩), .int .i64 q_first, .map (some rq_open)] :: Ow.pm rq_open (fun (x : T_api_Addr) => .agg (e_api_Addr x).toArray) pv_query_left th_query_left q_open none :: fr) h0 := hS.perm2 [1, 0, 2] 3 rfl rfl
 have hZ_2 := hS
 have hkz_2 := (hS.freeze).2
 replace hS := hS.freeze.1
 have hL_2 := hZ_2.lent
 refine HO.call (want_none) rfl (ec en_66 rfl rfl) (clock_Clock_Keys_string_walk (fr := (Ow.box bq 73 #[.int .i64 q_now, .pointer (some ⟨bq_at, 0, none⟩), .int .i64 q_first, .map (some rq_open)] :: Ow.pm rq_open (fun (x : T_api_Addr) => .agg (e_api_Addr x).toArray) pv_query_left th_query_left q_open none :: fr)) q_at_at bq_at rq_at_at hS hL_2 (hL_1.kp hkz_2) hD hM) ?_
 rintro vr_1 h_1 ⟨F_1, r_1, _, rfl, hk, hS, _, _, hM⟩
 obtain ⟨hS, hk⟩ := hZ_2.back hk hS
 obtain ⟨hS, hk⟩ := hZ_1.back hk hS
 generalize (fun bz_ => (fun bz_ => F_1 bz_ ∧ ¬ (Ow.map rq_at_at kT kI q_at_at).foot bz_) bz_ ∧ ¬ (Ow.box bq_at 110 #[.map (some rq_at_at)]).foot bz_) = F_2 at hS hk
 replace hK := hK.trans hk
 refine oV (.int .i64 (r_1.length : Int)) (q_len ts_105 (shp (hS.own 2 rfl).slice) rfl rfl) rfl ?_
 refine oM (.int .i64 0) rfl rfl ?_
 refine HO.nil (thenQ_normal (?_))
 refine HW.block ?_
 obtain ⟨I_1, m_1, hI_1, hR_1⟩ := hM
 replace hS : St F_2 (Ow.box bq 73 #[.int .i64 q_now, .pointer (some ⟨bq_at, 0, none⟩), .int .i64 q_first, .map (some rq_open)] :: Ow.box bq_at 110 #[.map (some rq_at_at)] :: Ow.map rq_at_at kT kI q_at_at :: Ow.pm rq_open (fun (x : T_api_Addr) => .agg (e_api_Addr x).toArray) pv_query_left th_query_left q_open none :: Ow.own 9 1 encT vr_1 r_1 :: fr) h_1 := hS.perm2 [3, 0, 1, 4, 2] 5 rfl rfl
 refine HW.loop (S := (List (Str × Int)) × Int) (fun s f h => match s with | (q_1_0_2, n_1) => ∃ (F' : Fz), f 0 = .pointer (some ⟨bq, 0, none⟩) ∧ f 10 = vr_1 ∧ f 11 = .int .i64 (r_1.length : Int) ∧ f 12 = .int .i64 n_1 ∧ Kp F h0 F' h ∧ St F' (Ow.box bq 73 #[.int .i64 q_now, .pointer (some ⟨bq_at, 0, none⟩), .int .i64 q_first, .map (some rq_open)] :: Ow.box bq_at 110 #[.map (some rq_at_at)] :: Ow.map rq_at_at kT kI q_1_0_2 :: Ow.pm rq_open (fun (x : T_api_Addr) => .agg (e_api_Addr x).toArray) pv_query_left th_query_left q_open none :: Ow.own 9 1 encT vr_1 r_1 :: fr) h ∧ I_1 (q_1_0_2, n_1)) m_1 (q_at_at, 0) ⟨F_2, rfl, rfl, rfl, rfl, hK, hS, hI_1⟩ ?_
 rintro ⟨q_1_0_2, n_1⟩ f_1 h_2 ⟨F_3, e0, e10, e11, e12, hK, hS, hI0⟩
 obtain ⟨K_1, hKe_1⟩ : ∃ K : (List (Str × Int)) → Int → Prop, K = fun q_1_0_2' n_1' => I_1 (q_1_0_2', n_1') ∧ m_1 (q_1_0_2', n_1') < m_1 (q_1_0_2, n_1) := ⟨_, rfl⟩
 have hM : query_Queries_Stop_l1 q_now q_first Q r_1 K_1 q_1_0_2 n_1 := by rw [hKe_1]; exact hR_1 (q_1_0_2, n_1) hI0
 unfold query_Queries_Stop_l1 at hM
 refine HW.fr [(0, .pointer (some ⟨bq, 0, none⟩)), (10, vr_1), (11, .int .i64 (r_1.length : Int)), (12, .int .i64 n_1)] ⟨e0, e10, e11, e12, trivial⟩ ?_
 refine HW.seq ?_
 refine HW.region ?_
 refine oV (.bool (decide (n_1 < (r_1.length : Int)))) (q_lss rfl rfl) rfl ?_
 refine HO.nil (thenQ_normal (?_))
 refine HW.seq ?_
 refine HW.cond (decide (n_1 < (r_1.length : Int))) rfl (fun c_1 => ?_) (fun c_1 => ?_)
 ·
  replace hM := hM.1 (of_decide_eq_true c_1)
  refine HW.skip (thenQ_normal (?_))
  refine HW.seq ?_
  refine HW.block ?_
  refine HW.seq ?_
  refine HW.region ?_
  obtain ⟨ho_1, hM⟩ := hM
  refine oV (elemPtr 1 vr_1 (n_1).toNat) (q_idx ts_105 (hS.own 4 rfl).slice rfl rfl ho_1) rfl ?_
  refine oV (.string (bs (gi r_1 n_1))) (q_ldElem to_9 (hS.own 4 rfl).slice rfl ho_1 rfl) rfl ?_
  refine oA (.string (bs (gi r_1 n_1))) rfl rfl ?_
  refine HO.nil (thenQ_normal (?_))
  refine HW.region ?_
  refine oM (.pointer (some ⟨bq, 0, none⟩)) rfl rfl ?_
  refine oV (.pointer (some ⟨bq, 0, none⟩)) (q_nilCheck rfl) rfl ?_
  refine oV (.pointer (some ⟨bq, 1, none⟩)) (q_fieldAddr fa_73_1 rfl rfl) rfl ?_
  refine oV (.pointer (some ⟨bq_at, 0, none⟩)) (q_load to_69 rfl (Blk.cell (hS.box 0 rfl) rfl)) rfl ?_
  refine oM (.string (bs (gi r_1 n_1))) rfl rfl ?_
  replace hS : St F_3 (Ow.box bq_at 110 #[.map (some rq_at_at)] :: Ow.map rq_at_at kT kI q_1_0_2 :: Ow.box bq 73 #[.int .i64 q_now, .pointer (some ⟨bq_at, 0, none⟩), .int .i64 q_first, .map (some rq_open)] :: Ow.pm rq_open (fun (x : T_api_Addr) => .agg (e_api_Addr x).toArray) pv_query_left th_query_left q_open none :: Ow.own 9 1 encT vr_1 r_1 :: fr) h_2 := hS.perm2 [1, 2, 0, 3, 4] 5 rfl rfl
  refine HO.call (want_none) rfl (ec en_67 rfl rfl) (clock_Clock_Cut_string_walk (fr := (Ow.box bq 73 #[.int .i64 q_now, .pointer (some ⟨bq_at, 0, none⟩), .int .i64 q_first, .map (some rq_open)] :: Ow.pm rq_open (fun (x : T_api_Addr) => .agg (e_api_Addr x).toArray) pv_query_left th_query_left q_open none :: Ow.own 9 1 encT vr_1 r_1 :: fr)) q_1_0_2 (gi r_1 n_1) bq_at rq_at_at hS hM) ?_
  rintro _ h_3 ⟨F_4, r_2, cm_1, rfl, hk, hS, hM⟩
  replace hK := hK.trans hk
  refine HO.nil (blockQ_normal (thenQ_normal (?_)))
  refine HW.region ?_
  obtain ⟨ho_2, hM⟩ := hM
  refine oV (.int .i64 (n_1 + 1)) (q_addN _ rfl rfl rfl ho_2.1 ho_2.2) rfl ?_
  refine oM (.int .i64 (n_1 + 1)) rfl rfl ?_
  refine HO.nil (thenQ_normal (?_))
  replace hS : St F_4 (Ow.box bq 73 #[.int .i64 q_now, .pointer (some ⟨bq_at, 0, none⟩), .int .i64 q_first, .map (some rq_open)] :: Ow.box bq_at 110 #[.map (some rq_at_at)] :: Ow.map rq_at_at kT kI cm_1 :: Ow.pm rq_open (fun (x : T_api_Addr) => .agg (e_api_Addr x).toArray) pv_query_left th_query_left q_open none :: Ow.own 9 1 encT vr_1 r_1 :: fr) h_3 := hS.perm2 [2, 0, 1, 3, 4] 5 rfl rfl
  rw [hKe_1] at hM
  exact ⟨(cm_1, n_1 + 1), ⟨F_4, rfl, rfl, rfl, rfl, hK, hS, hM.1⟩, hM.2⟩
 ·
  replace hM := hM.2 (of_decide_eq_false c_1)
  refine HW.exit (thenQ_exit (thenQ_exit (blockQ_exit (thenQ_normal (?_)))))
  refine HW.region ?_
  refine oM (.pointer (some ⟨bq, 0, none⟩)) rfl rfl ?_
  refine oV (.pointer (some ⟨bq, 0, none⟩)) (q_nilCheck rfl) rfl ?_
  refine oV (.pointer (some ⟨bq, 3, none⟩)) (q_fieldAddr fa_73_3 rfl rfl) rfl ?_
  refine oV (.map (some rq_open)) (q_load to_71 rfl (Blk.cell (hS.box 0 rfl) rfl)) rfl ?_
  refine HO.eff (want_none) rfl (st_pmClear hS (i := 3) rfl Try.underlying71 rfl rfl) ?_
  rintro _ h_4 ⟨rfl, hS, hk⟩
  replace hK := hK.trans hk
  refine HO.nil (?_)
  refine ⟨.inl rfl, .tuple #[], res0 rfl , ?_⟩
  replace hS : St F_3 (Ow.box bq 73 #[.int .i64 q_now, .pointer (some ⟨bq_at, 0, none⟩), .int .i64 q_first, .map (some rq_open)] :: Ow.box bq_at 110 #[.map (some rq_at_at)] :: Ow.map rq_at_at kT kI q_1_0_2 :: Ow.pm rq_open (fun (x : T_api_Addr) => .agg (e_api_Addr x).toArray) pv_query_left th_query_left ([] : List (T_api_Addr × (Nat × Nat) × T_query_left)) none :: fr) h_4 := hS.perm2 [0, 1, 2, 3] 5 rfl rfl
  exact ⟨F_3, q_now, q_1_0_2, q_first, [], rfl, hK, hS, hM⟩

def query_Queries_Cancel_W (q_now : Int) (q_at_at : List (Str × Int)) (q_first : Int) (q_open : List (T_api_Addr × (Nat × Nat) × T_query_left)) (g : T_api_Addr) (Q : Bool → Int → (List (Str × Int)) → Int → (List (T_api_Addr × (Nat × Nat) × T_query_left)) → Prop) : Prop :=
 query_Queries_cancel_W q_now q_at_at q_first q_open g (fun r_2 q_now_2 qm_3 q_first_2 qm_4 => Q r_2 q_now_2 qm_3 q_first_2 qm_4)
set_option maxHeartbeats 40000000 in
set_option maxRecDepth 100000 in
theorem query_Queries_Cancel_walk {F : Fz} {fr : List Ow} {h0 : Heap} (q_now : Int) (q_at_at : List (Str × Int)) (q_first : Int) (q_open : List (T_api_Addr × (Nat × Nat) × T_query_left)) (g : T_api_Addr) (bq : Nat) (bq_at : Nat) (rq_at_at : Nat) (rq_open : Nat) (hS : St F (Ow.box bq 73 #[.int .i64 q_now, .pointer (some ⟨bq_at, 0, none⟩), .int .i64 q_first, .map (some rq_open)] :: Ow.box bq_at 110 #[.map (some rq_at_at)] :: Ow.map rq_at_at kT kI q_at_at :: Ow.pm rq_open (fun (x : T_api_Addr) => .agg (e_api_Addr x).toArray) pv_query_left th_query_left q_open none :: fr) h0)  {Q : Bool → Int → (List (Str × Int)) → Int → (List (T_api_Addr × (Nat × Nat) × T_query_left)) → Prop} (hM : query_Queries_Cancel_W q_now q_at_at q_first q_open g Q) :
  HC Try.prog 33 #[.pointer (some ⟨bq, 0, none⟩), .agg (e_api_Addr g).toArray] h0 fun u h' => ∃ (F' : Fz) (r_1 : Bool) (q_now_1 : Int) (qm_1 : List (Str × Int)) (q_first_1 : Int) (qm_2 : List (T_api_Addr × (Nat × Nat) × T_query_left)), u = .bool r_1 ∧ Kp F h0 F' h' ∧ St F' (Ow.box bq 73 #[.int .i64 q_now_1, .pointer (some ⟨bq_at, 0, none⟩), .int .i64 q_first_1, .map (some rq_open)] :: Ow.box bq_at 110 #[.map (some rq_at_at)] :: Ow.map rq_at_at kT kI qm_1 :: Ow.pm rq_open (fun (x : T_api_Addr) => .agg (e_api_Addr x).toArray) pv_query_left th_query_left qm_2 none :: fr) h' ∧ Q r_1 q_now_1 qm_1 q_first_1 qm_2 := by
 unfold query_Queries_Cancel_W at hM
 have hK := Kp.refl F h0
 refine HC.of_HW (n := 12) Try.func33 rfl rfl (Nat.le_of_ble_eq_true rfl) ?_
 refine HW.seq ?_
 refine HW.region ?_
 refine HO.eff (want_none) rfl (st_box (c := (e_api_Addr g).toArray) (k' := 17) hS rfl rfl) ?_
 rintro _ h_1 ⟨b_1, rfl, hS, hk⟩
 replace hK := hK.trans hk
 refine oA (.bool false) rfl rfl ?_
 refine HO.nil (thenQ_normal (?_))
 refine HW.seq ?_
 refine HW.region ?_
 refine oM (.pointer (some ⟨bq, 0, none⟩)) rfl rfl ?_
 refine oV (.bool true) (q_neqPnil Try.underlying22 rfl rfl rfl) rfl ?_
 refine oM (.bool true) rfl rfl ?_
 refine HO.val (v := .pointer (some ⟨bq, 0, none⟩)) (want_some rfl rfl) rfl (q_move rfl) ?_
 refine HO.val (v := .agg (e_api_Addr g).toArray) (want_some rfl rfl) rfl (q_loadAgg (cs := (e_api_Addr g)) ta_30 rfl rfl (Blk.cells (k := 17) (hS.box 0 rfl) rfl)) ?_
 replace hS : St F (Ow.box bq 73 #[.int .i64 q_now, .pointer (some ⟨bq_at, 0, none⟩), .int .i64 q_first, .map (some rq_open)] :: Ow.box bq_at 110 #[.map (some rq_at_at)] :: Ow.map rq_at_at kT kI q_at_at :: Ow.pm rq_open (fun (x : T_api_Addr) => .agg (e_api_Addr x).toArray) pv_query_left th_query_left q_open none :: Ow.box b_1 30 (e_api_Addr g).toArray :: fr) h_1 := hS.perm2 [1, 2, 3, 4, 0] 5 rfl rfl
 refine HO.call (want_some rfl rfl) rfl (ec en_47 rfl rfl) (query_Queries_cancel_walk (fr := (Ow.box b_1 30 (e_api_Addr g).toArray :: fr)) q_now q_at_at q_first q_open g bq bq_at rq_at_at rq_open hS hM) ?_
 rintro _ h_2 ⟨F_1, r_2, q_now_2, qm_3, q_first_2, qm_4, rfl, hk, hS, hM⟩
 replace hK := hK.trans hk
 refine oV (.bool r_2) (q_pick rfl rfl) rfl ?_
 refine oA (.bool r_2) rfl rfl ?_
 refine HO.nil (thenQ_normal (?_))
 refine HW.ret (?_)
 refine ⟨.inr rfl, .bool r_2, res1 rfl (rt rfl), ?_⟩
 replace hS : St F_1 (Ow.box bq 73 #[.int .i64 q_now_2, .pointer (some ⟨bq_at, 0, none⟩), .int .i64 q_first_2, .map (some rq_open)] :: Ow.box bq_at 110 #[.map (some rq_at_at)] :: Ow.map rq_at_at kT kI qm_3 :: Ow.pm rq_open (fun (x : T_api_Addr) => .agg (e_api_Addr x).toArray) pv_query_left th_query_left qm_4 none :: fr) h_2 := hS.perm2 [0, 1, 2, 3] 5 rfl rfl
 exact ⟨F_1, r_2, q_now_2, qm_3, q_first_2, qm_4, rfl, hK, hS, hM⟩

def query_Queries_Start_nil0_W (now : Int) (t : T_api_Tune) (Q : Prop) : Prop :=
 Q
set_option maxHeartbeats 40000000 in
set_option maxRecDepth 100000 in
theorem query_Queries_Start_nil0_walk {F : Fz} {fr : List Ow} {h0 : Heap} (now : Int) (t : T_api_Tune) (hS : St F (fr) h0)  {Q : Prop} (hM : query_Queries_Start_nil0_W now t Q) :
  HC Try.prog 31 #[.pointer none, .int .i64 now, .agg (e_api_Tune t).toArray] h0 fun u h' => ∃ (F' : Fz), u = .tuple #[] ∧ Kp F h0 F' h' ∧ St F' (fr) h' ∧ Q := by
 unfold query_Queries_Start_nil0_W at hM
 have hK := Kp.refl F h0
 refine HC.of_HW (n := 24) Try.func31 rfl rfl (Nat.le_of_ble_eq_true rfl) ?_
 refine HW.seq ?_
 refine HW.region ?_
 refine HO.eff (want_none) rfl (st_box (c := (e_api_Tune t).toArray) (k' := 5) hS rfl rfl) ?_
 rintro _ h_1 ⟨b_1, rfl, hS, hk⟩
 replace hK := hK.trans hk
 refine HO.nil (thenQ_normal (?_))
 refine HW.seq ?_
 refine HW.seq ?_
 refine HW.region ?_
 refine oM (.pointer none) rfl rfl ?_
 refine oV (.bool true) (q_eqlPnil Try.underlying22 rfl rfl rfl) rfl ?_
 refine HO.nil (thenQ_normal (?_))
 refine HW.condT rfl ?_
 refine HW.ret (thenQ_ret (?_))
 refine ⟨.inr rfl, .tuple #[], res0 rfl , ?_⟩
 replace hS : St F (fr) h_1 := hS.perm2 [] 1 rfl rfl
 exact ⟨F, rfl, hK, hS, hM⟩

def query_Queries_Stop_nil0_W (Q : Prop) : Prop :=
 Q
set_option maxHeartbeats 40000000 in
set_option maxRecDepth 100000 in
theorem query_Queries_Stop_nil0_walk {F : Fz} {fr : List Ow} {h0 : Heap}  (hS : St F (fr) h0)  {Q : Prop} (hM : query_Queries_Stop_nil0_W Q) :
  HC Try.prog 32 #[.pointer none] h0 fun u h' => ∃ (F' : Fz), u = .tuple #[] ∧ Kp F h0 F' h' ∧ St F' (fr) h' ∧ Q := by
 unfold query_Queries_Stop_nil0_W at hM
 have hK := Kp.refl F h0
 refine HC.of_HW (n := 27) Try.func32 rfl rfl (Nat.le_of_ble_eq_true rfl) ?_
 refine HW.seq ?_
 refine HW.seq ?_
 refine HW.region ?_
 refine oM (.pointer none) rfl rfl ?_
 refine oV (.bool true) (q_eqlPnil Try.underlying22 rfl rfl rfl) rfl ?_
 refine HO.nil (thenQ_normal (?_))
 refine HW.condT rfl ?_
 refine HW.ret (thenQ_ret (?_))
 refine ⟨.inr rfl, .tuple #[], res0 rfl , ?_⟩
 exact ⟨F, rfl, hK, hS, hM⟩

def query_Queries_Due_nil0_W (now : Int) (t : T_api_Tune) (Q : Bool → (List T_api_Asked) → Prop) : Prop :=
 Q false []
set_option maxHeartbeats 40000000 in
set_option maxRecDepth 100000 in
theorem query_Queries_Due_nil0_walk {F : Fz} {fr : List Ow} {h0 : Heap} (now : Int) (t : T_api_Tune) (hS : St F (fr) h0)  {Q : Bool → (List T_api_Asked) → Prop} (hM : query_Queries_Due_nil0_W now t Q) :
  HC Try.prog 16 #[.pointer none, .int .i64 now, .agg (e_api_Tune t).toArray] h0 fun u h' => ∃ (F' : Fz) (r0_1 : Bool) (r1_1 : List T_api_Asked) (vr1_1 : Value), u = .tuple #[.bool r0_1, vr1_1] ∧ Kp F h0 F' h' ∧ St F' (Ow.own 34 19 e_api_Asked vr1_1 r1_1 :: fr) h' ∧ (NfL nf_api_Asked F' h' r1_1) ∧ Q r0_1 r1_1 := by
 unfold query_Queries_Due_nil0_W at hM
 have hK := Kp.refl F h0
 refine HC.of_HW (n := 91) Try.func16 rfl rfl (Nat.le_of_ble_eq_true rfl) ?_
 refine HW.seq ?_
 refine HW.region ?_
 refine HO.eff (want_none) rfl (st_box (c := (e_api_Tune t).toArray) (k' := 5) hS rfl rfl) ?_
 rintro _ h_1 ⟨b_1, rfl, hS, hk⟩
 replace hK := hK.trans hk
 refine oA (.bool false) rfl rfl ?_
 refine oA (.slice none 0 0) rfl rfl ?_
 refine HO.nil (thenQ_normal (?_))
 refine HW.seq ?_
 refine HW.region ?_
 refine oA (.slice none 0 0) rfl rfl ?_
 refine HO.nil (thenQ_normal (?_))
 refine HW.seq ?_
 refine HW.seq ?_
 refine HW.region ?_
 refine oM (.pointer none) rfl rfl ?_
 refine oV (.bool true) (q_eqlPnil Try.underlying22 rfl rfl rfl) rfl ?_
 refine HO.nil (thenQ_normal (?_))
 refine HW.condT rfl ?_
 refine HW.seq ?_
 refine HW.region ?_
 refine oA (.bool false) rfl rfl ?_
 refine oA (.slice none 0 0) rfl rfl ?_
 refine HO.nil (thenQ_normal (?_))
 refine HW.ret (thenQ_ret (?_))
 refine ⟨.inr rfl, .tuple #[.bool false, .slice none 0 0], res2 rfl (rt rfl) (rt rfl), ?_⟩
 replace hS := hS.nilOwn 34 19 e_api_Asked
 have hN_2 : NfL nf_api_Asked F h_1 ([] : List T_api_Asked) := NfL.nil _ _ _
 replace hS : St F (Ow.own 34 19 e_api_Asked (.slice none 0 0) ([] : List T_api_Asked) :: fr) h_1 := hS.perm2 [0] 2 rfl rfl
 exact ⟨F, false, [], .slice none 0 0, rfl, hK, hS, hN_2, hM⟩

def query_Queries_Next_nil0_W (Q : Int → Bool → Prop) : Prop :=
 Q 0 false
set_option maxHeartbeats 40000000 in
set_option maxRecDepth 100000 in
theorem query_Queries_Next_nil0_walk {F : Fz} {fr : List Ow} {h0 : Heap}  (hS : St F (fr) h0)  {Q : Int → Bool → Prop} (hM : query_Queries_Next_nil0_W Q) :
  HC Try.prog 17 #[.pointer none] h0 fun u h' => ∃ (F' : Fz) (r0_1 : Int) (r1_1 : Bool), u = .tuple #[.int .i64 r0_1, .bool r1_1] ∧ Kp F h0 F' h' ∧ St F' (fr) h' ∧ Q r0_1 r1_1 := by
 unfold query_Queries_Next_nil0_W at hM
 have hK := Kp.refl F h0
 refine HC.of_HW (n := 20) Try.func17 rfl rfl (Nat.le_of_ble_eq_true rfl) ?_
 refine HW.seq ?_
 refine HW.region ?_
 refine oA (.int .i64 0) rfl rfl ?_
 refine oA (.bool false) rfl rfl ?_
 refine HO.nil (thenQ_normal (?_))
 refine HW.seq ?_
 refine HW.seq ?_
 refine HW.region ?_
 refine oM (.pointer none) rfl rfl ?_
 refine oV (.bool true) (q_eqlPnil Try.underlying22 rfl rfl rfl) rfl ?_
 refine HO.nil (thenQ_normal (?_))
 refine HW.condT rfl ?_
 refine HW.seq ?_
 refine HW.region ?_
 refine oA (.int .i64 0) rfl rfl ?_
 refine oA (.bool false) rfl rfl ?_
 refine HO.nil (thenQ_normal (?_))
 refine HW.ret (thenQ_ret (?_))
 refine ⟨.inr rfl, .tuple #[.int .i64 0, .bool false], res2 rfl (rt rfl) (rt rfl), ?_⟩
 exact ⟨F, 0, false, rfl, hK, hS, hM⟩

def query_Queries_Want_nil0_W (now : Int) (t : T_api_Tune) (a_Group : T_api_Addr) (a_All : Bool) (a_Sources : List T_api_Addr) (Q : Bool → Prop) : Prop :=
 Q false
set_option maxHeartbeats 40000000 in
set_option maxRecDepth 100000 in
theorem query_Queries_Want_nil0_walk {F : Fz} {fr : List Ow} {h0 : Heap} (now : Int) (t : T_api_Tune) (a_Group : T_api_Addr) (a_All : Bool) (a_Sources : List T_api_Addr) (va_Sources : Value) (hS : St F (fr) h0) (hL_a_Sources : SliceF F h0 17 e_api_Addr va_Sources a_Sources) {Q : Bool → Prop} (hM : query_Queries_Want_nil0_W now t a_Group a_All a_Sources Q) :
  HC Try.prog 9 #[.pointer none, .int .i64 now, .agg (e_api_Tune t).toArray, .agg (c_api_Asked a_Group (.bool a_All) va_Sources).toArray] h0 fun u h' => ∃ (F' : Fz) (r_1 : Bool), u = .bool r_1 ∧ Kp F h0 F' h' ∧ St F' (fr) h' ∧ (SliceF F' h' 17 e_api_Addr va_Sources a_Sources) ∧ Q r_1 := by
 unfold query_Queries_Want_nil0_W at hM
 have hK := Kp.refl F h0
 refine HC.of_HW (n := 97) Try.func9 rfl rfl (Nat.le_of_ble_eq_true rfl) ?_
 refine HW.seq ?_
 refine HW.region ?_
 refine HO.eff (want_none) rfl (st_box (c := (e_api_Tune t).toArray) (k' := 5) hS rfl rfl) ?_
 rintro _ h_1 ⟨b_1, rfl, hS, hk⟩
 replace hK := hK.trans hk
 replace hL_a_Sources := hL_a_Sources.kp hk
 refine HO.eff (want_none) rfl (st_box (c := (c_api_Asked a_Group (.bool a_All) va_Sources).toArray) (k' := 19) hS rfl rfl) ?_
 rintro _ h_2 ⟨b_2, rfl, hS, hk⟩
 replace hK := hK.trans hk
 replace hL_a_Sources := hL_a_Sources.kp hk
 refine oA (.bool false) rfl rfl ?_
 refine HO.nil (thenQ_normal (?_))
 refine HW.seq ?_
 refine HW.seq ?_
 refine HW.region ?_
 refine oM (.pointer none) rfl rfl ?_
 refine oV (.bool true) (q_eqlPnil Try.underlying22 rfl rfl rfl) rfl ?_
 refine HO.nil (thenQ_normal (?_))
 refine HW.condT rfl ?_
 refine HW.seq ?_
 refine HW.region ?_
 refine oA (.bool false) rfl rfl ?_
 refine HO.nil (thenQ_normal (?_))
 refine HW.ret (thenQ_ret (?_))
 refine ⟨.inr rfl, .bool false, res1 rfl (rt rfl), ?_⟩
 replace hS : St F (fr) h_2 := hS.perm2 [] 2 rfl rfl
 exact ⟨F, false, rfl, hK, hS, hL_a_Sources, hM⟩

def query_Queries_Cancel_nil0_W (g : T_api_Addr) (Q : Bool → Prop) : Prop :=
 Q false
set_option maxHeartbeats 40000000 in
set_option maxRecDepth 100000 in
theorem query_Queries_Cancel_nil0_walk {F : Fz} {fr : List Ow} {h0 : Heap} (g : T_api_Addr) (hS : St F (fr) h0)  {Q : Bool → Prop} (hM : query_Queries_Cancel_nil0_W g Q) :
  HC Try.prog 33 #[.pointer none, .agg (e_api_Addr g).toArray] h0 fun u h' => ∃ (F' : Fz) (r_1 : Bool), u = .bool r_1 ∧ Kp F h0 F' h' ∧ St F' (fr) h' ∧ Q r_1 := by
 unfold query_Queries_Cancel_nil0_W at hM
 have hK := Kp.refl F h0
 refine HC.of_HW (n := 12) Try.func33 rfl rfl (Nat.le_of_ble_eq_true rfl) ?_
 refine HW.seq ?_
 refine HW.region ?_
 refine HO.eff (want_none) rfl (st_box (c := (e_api_Addr g).toArray) (k' := 17) hS rfl rfl) ?_
 rintro _ h_1 ⟨b_1, rfl, hS, hk⟩
 replace hK := hK.trans hk
 refine oA (.bool false) rfl rfl ?_
 refine HO.nil (thenQ_normal (?_))
 refine HW.seq ?_
 refine HW.region ?_
 refine oM (.pointer none) rfl rfl ?_
 refine oV (.bool false) (q_neqPnil Try.underlying22 rfl rfl rfl) rfl ?_
 refine oM (.bool false) rfl rfl ?_
 refine HO.past (past_some rfl rfl) rfl ?_
 refine HO.past (past_some rfl rfl) rfl ?_
 refine HO.past (past_some rfl rfl) rfl ?_
 refine oV (.bool false) (q_pick rfl rfl) rfl ?_
 refine oA (.bool false) rfl rfl ?_
 refine HO.nil (thenQ_normal (?_))
 refine HW.ret (?_)
 refine ⟨.inr rfl, .bool false, res1 rfl (rt rfl), ?_⟩
 replace hS : St F (fr) h_1 := hS.perm2 [] 1 rfl rfl
 exact ⟨F, false, rfl, hK, hS, hM⟩

def query_Queries_Open_nil0_W (Q : (List T_api_Asked) → Prop) : Prop :=
 Q []
set_option maxHeartbeats 40000000 in
set_option maxRecDepth 100000 in
theorem query_Queries_Open_nil0_walk {F : Fz} {fr : List Ow} {h0 : Heap}  (hS : St F (fr) h0)  {Q : (List T_api_Asked) → Prop} (hM : query_Queries_Open_nil0_W Q) :
  HC Try.prog 12 #[.pointer none] h0 fun u h' => ∃ (F' : Fz) (r_1 : List T_api_Asked) (vr_1 : Value), u = vr_1 ∧ Kp F h0 F' h' ∧ St F' (Ow.own 34 19 e_api_Asked vr_1 r_1 :: fr) h' ∧ (NfL nf_api_Asked F' h' r_1) ∧ Q r_1 := by
 unfold query_Queries_Open_nil0_W at hM
 have hK := Kp.refl F h0
 refine HC.of_HW (n := 28) Try.func12 rfl rfl (Nat.le_of_ble_eq_true rfl) ?_
 refine HW.seq ?_
 refine HW.region ?_
 refine oA (.slice none 0 0) rfl rfl ?_
 refine HO.nil (thenQ_normal (?_))
 refine HW.seq ?_
 refine HW.region ?_
 refine oA (.slice none 0 0) rfl rfl ?_
 refine HO.nil (thenQ_normal (?_))
 refine HW.seq ?_
 refine HW.seq ?_
 refine HW.region ?_
 refine oM (.pointer none) rfl rfl ?_
 refine oV (.bool true) (q_eqlPnil Try.underlying22 rfl rfl rfl) rfl ?_
 refine HO.nil (thenQ_normal (?_))
 refine HW.condT rfl ?_
 refine HW.seq ?_
 refine HW.region ?_
 refine oA (.slice none 0 0) rfl rfl ?_
 refine HO.nil (thenQ_normal (?_))
 refine HW.ret (thenQ_ret (?_))
 refine ⟨.inr rfl, .slice none 0 0, res1 rfl (rt rfl), ?_⟩
 replace hS := hS.nilOwn 34 19 e_api_Asked
 have hN_2 : NfL nf_api_Asked F h0 ([] : List T_api_Asked) := NfL.nil _ _ _
 exact ⟨F, [], .slice none 0 0, rfl, hK, hS, hN_2, hM⟩

def law22_QueryNil_W (now : Int) (a_Group : T_api_Addr) (a_All : Bool) (a_Sources : List T_api_Addr) (Q : Bool → Prop) : Prop :=
 law18_Usual_W  (fun r_2 => query_Queries_Start_nil0_W now r_2 (query_Queries_Stop_nil0_W  (law18_Usual_W  (fun r_3 => query_Queries_Due_nil0_W now r_3 (fun r0_1 r1_1 => query_Queries_Next_nil0_W  (fun r0_2 r1_2 => law18_Usual_W  (fun r_4 => query_Queries_Want_nil0_W now r_4 a_Group a_All a_Sources (fun r_5 => ((!r_5) = true → query_Queries_Cancel_nil0_W a_Group (fun r_6 => ((!r_6) = true → ((!r0_1) = true → ((r1_1.length : Int) = 0 → ((!r1_2) = true → query_Queries_Open_nil0_W  (fun r_7 => ((r_7.length : Int) = 0 → law22_lives_W  (fun r_8 => Q r_8)) ∧ (¬ ((r_7.length : Int) = 0) → Q false))) ∧ ((!r1_2) = false → Q false)) ∧ (¬ ((r1_1.length : Int) = 0) → Q false)) ∧ ((!r0_1) = false → Q false)) ∧ ((!r_6) = false → Q false))) ∧ ((!r_5) = false → Q false)))))))))
set_option maxHeartbeats 40000000 in
set_option maxRecDepth 100000 in
theorem law22_QueryNil_walk {F : Fz} {fr : List Ow} {h0 : Heap} (now : Int) (a_Group : T_api_Addr) (a_All : Bool) (a_Sources : List T_api_Addr) (va_Sources : Value) (hS : St F (fr) h0) (hL_a_Sources : SliceF F h0 17 e_api_Addr va_Sources a_Sources) {Q : Bool → Prop} (hM : law22_QueryNil_W now a_Group a_All a_Sources Q) :
  HC Try.prog 7 #[.int .i64 now, .agg (c_api_Asked a_Group (.bool a_All) va_Sources).toArray] h0 fun u h' => ∃ (F' : Fz) (r_1 : Bool), u = .bool r_1 ∧ Kp F h0 F' h' ∧ St F' (fr) h' ∧ (SliceF F' h' 17 e_api_Addr va_Sources a_Sources) ∧ Q r_1 := by
 unfold law22_QueryNil_W at hM
 have hK := Kp.refl F h0
 refine HC.of_HW (n := 63) Try.func7 rfl rfl (Nat.le_of_ble_eq_true rfl) ?_
 refine HW.seq ?_
 refine HW.region ?_
 refine HO.eff (want_none) rfl (st_box (c := (c_api_Asked a_Group (.bool a_All) va_Sources).toArray) (k' := 19) hS rfl rfl) ?_
 rintro _ h_1 ⟨b_1, rfl, hS, hk⟩
 replace hK := hK.trans hk
 replace hL_a_Sources := hL_a_Sources.kp hk
 refine oA (.bool false) rfl rfl ?_
 refine HO.nil (thenQ_normal (?_))
 refine HW.seq ?_
 refine HW.region ?_
 refine oA (.pointer none) rfl rfl ?_
 refine HO.nil (thenQ_normal (?_))
 refine HW.seq ?_
 refine HW.region ?_
 refine oM (.pointer none) rfl rfl ?_
 refine oM (.int .i64 now) rfl rfl ?_
 refine HO.call (want_none) rfl (ec en_10 rfl rfl) (law18_Usual_walk (fr := (Ow.box b_1 34 (c_api_Asked a_Group (.bool a_All) va_Sources).toArray :: fr))  hS hM) ?_
 rintro _ h_2 ⟨F_1, r_2, rfl, hk, hS, hM⟩
 replace hK := hK.trans hk
 replace hL_a_Sources := hL_a_Sources.kp hk
 refine HO.call (want_none) rfl (ec en_31 rfl rfl) (query_Queries_Start_nil0_walk (fr := (Ow.box b_1 34 (c_api_Asked a_Group (.bool a_All) va_Sources).toArray :: fr)) now r_2 hS hM) ?_
 rintro _ h_3 ⟨F_2, rfl, hk, hS, hM⟩
 replace hK := hK.trans hk
 replace hL_a_Sources := hL_a_Sources.kp hk
 refine HO.nil (thenQ_normal (?_))
 refine HW.seq ?_
 refine HW.region ?_
 refine oM (.pointer none) rfl rfl ?_
 refine HO.call (want_none) rfl (ec en_32 rfl rfl) (query_Queries_Stop_nil0_walk (fr := (Ow.box b_1 34 (c_api_Asked a_Group (.bool a_All) va_Sources).toArray :: fr))  hS hM) ?_
 rintro _ h_4 ⟨F_3, rfl, hk, hS, hM⟩
 replace hK := hK.trans hk
 replace hL_a_Sources := hL_a_Sources.kp hk
 refine HO.nil (thenQ_normal (?_))
 refine HW.seq ?_
 refine HW.region ?_
 refine oM (.pointer none) rfl rfl ?_
 refine oM (.int .i64 now) rfl rfl ?_
 refine HO.call (want_none) rfl (ec en_10 rfl rfl) (law18_Usual_walk (fr := (Ow.box b_1 34 (c_api_Asked a_Group (.bool a_All) va_Sources).toArray :: fr))  hS hM) ?_
 rintro _ h_5 ⟨F_4, r_3, rfl, hk, hS, hM⟩
 replace hK := hK.trans hk
 replace hL_a_Sources := hL_a_Sources.kp hk
 refine HO.call (want_none) rfl (ec en_16 rfl rfl) (query_Queries_Due_nil0_walk (fr := (Ow.box b_1 34 (c_api_Asked a_Group (.bool a_All) va_Sources).toArray :: fr)) now r_3 hS hM) ?_
 rintro _ h_6 ⟨F_5, r0_1, r1_1, vr1_1, rfl, hk, hS, hL_1, hM⟩
 replace hK := hK.trans hk
 replace hL_a_Sources := hL_a_Sources.kp hk
 refine oM (.tuple #[.bool r0_1, vr1_1]) rfl rfl ?_
 refine oV (.bool r0_1) (q_extract rfl rfl) rfl ?_
 refine oV (vr1_1) (q_extract rfl rfl) rfl ?_
 refine oA (.bool r0_1) rfl rfl ?_
 refine oA (vr1_1) rfl rfl ?_
 refine HO.nil (thenQ_normal (?_))
 refine HW.seq ?_
 refine HW.region ?_
 refine oM (.pointer none) rfl rfl ?_
 refine HO.call (want_none) rfl (ec en_17 rfl rfl) (query_Queries_Next_nil0_walk (fr := (Ow.own 34 19 e_api_Asked vr1_1 r1_1 :: Ow.box b_1 34 (c_api_Asked a_Group (.bool a_All) va_Sources).toArray :: fr))  hS hM) ?_
 rintro _ h_7 ⟨F_6, r0_2, r1_2, rfl, hk, hS, hM⟩
 replace hK := hK.trans hk
 replace hL_a_Sources := hL_a_Sources.kp hk
 refine oM (.tuple #[.int .i64 r0_2, .bool r1_2]) rfl rfl ?_
 refine oV (.int .i64 r0_2) (q_extract rfl rfl) rfl ?_
 refine oV (.bool r1_2) (q_extract rfl rfl) rfl ?_
 refine oA (.int .i64 r0_2) rfl rfl ?_
 refine oA (.bool r1_2) rfl rfl ?_
 refine HO.nil (thenQ_normal (?_))
 refine HW.seq ?_
 refine HW.regionA 36 mixed (fun h => (OwnIs h 0 34 19 e_api_Asked vr1_1 r1_1) ∧ (Blk h b_1 (.cells (c_api_Asked a_Group (.bool a_All) va_Sources).toArray 34 (0, 0)))) [] (by kernel_rfl) ?_
 refine HA.val (k := 0) (v := .pointer none) rfl rfl (by kernel_rfl) (by kernel_rfl) (want_none) rfl (fun _ ⟨c202, c201⟩ => q_move rfl) ?_
 refine HA.val (k := 1) (v := .int .i64 now) rfl rfl (by kernel_rfl) (by kernel_rfl) (want_none) rfl (fun _ ⟨c202, c201⟩ => q_move rfl) ?_
 refine HA.val (k := 3) (v := .agg (c_api_Asked a_Group (.bool a_All) va_Sources).toArray) rfl rfl (by kernel_rfl) (by kernel_rfl) (want_none) rfl (fun _ ⟨c202, c201⟩ => q_loadAgg (cs := (c_api_Asked a_Group (.bool a_All) va_Sources)) ta_34 rfl rfl (Blk.cells (k := 19) c201 rfl)) ?_
 refine HA.one (k := 2) ⟨⟨(hS.own 0 rfl), (hS.box 1 rfl)⟩, (Go.Wk.at_nil _ _)⟩ (by kernel_rfl) ?_
 refine HS.call rfl (want_none) rfl (ec en_10 rfl rfl) (law18_Usual_walk (fr := (Ow.own 34 19 e_api_Asked vr1_1 r1_1 :: Ow.box b_1 34 (c_api_Asked a_Group (.bool a_All) va_Sources).toArray :: fr))  hS hM) ?_
 rintro _ h_8 ⟨F_7, r_4, rfl, hk, hS, hM⟩
 replace hK := hK.trans hk
 replace hL_a_Sources := hL_a_Sources.kp hk
 refine HA.one (k := 4) ⟨⟨(hS.own 0 rfl), (hS.box 1 rfl)⟩, (Go.Wk.at_nil _ _)⟩ (by kernel_rfl) ?_
 refine HS.call rfl (want_none) rfl (ec en_9 rfl rfl) (query_Queries_Want_nil0_walk (fr := (Ow.own 34 19 e_api_Asked vr1_1 r1_1 :: Ow.box b_1 34 (c_api_Asked a_Group (.bool a_All) va_Sources).toArray :: fr)) now r_4 a_Group a_All a_Sources va_Sources hS hL_a_Sources hM) ?_
 rintro _ h_9 ⟨F_8, r_5, rfl, hk, hS, _, hM⟩
 replace hK := hK.trans hk
 replace hL_a_Sources := hL_a_Sources.kp hk
 refine HA.val (k := 5) (v := .bool (!r_5)) rfl rfl (by kernel_rfl) (by kernel_rfl) (want_none) rfl (fun _ ⟨c202, c201⟩ => q_not rfl) ?_
 refine HA.val (k := 6) (v := .bool (!r_5)) rfl rfl (by kernel_rfl) (by kernel_rfl) (want_none) rfl (fun _ ⟨c202, c201⟩ => q_move rfl) ?_
 rcases Bool.eq_false_or_eq_true (!r_5) with c_1 | c_1
 ·
  replace hM := hM.1 c_1
  refine HA.val (k := 7) (v := .pointer none) rfl rfl (by kernel_rfl) (by kernel_rfl) (want_by rfl rfl c_1) rfl (fun _ ⟨c202, c201⟩ => q_move rfl) ?_
  refine HA.val (k := 8) (v := .pointer (some ⟨b_1, 0, none⟩)) rfl rfl (by kernel_rfl) (by kernel_rfl) (want_by rfl rfl c_1) rfl (fun _ ⟨c202, c201⟩ => q_fieldAddr fa_34_0 rfl rfl) ?_
  refine HA.val (k := 9) (v := .agg (e_api_Addr a_Group).toArray) rfl rfl (by kernel_rfl) (by kernel_rfl) (want_by rfl rfl c_1) rfl (fun _ ⟨c202, c201⟩ => q_loadAgg (cs := (e_api_Addr a_Group)) ta_30 rfl rfl (Blk.cells (k := 17) c201 rfl)) ?_
  refine HA.one (k := 10) ⟨⟨(hS.own 0 rfl), (hS.box 1 rfl)⟩, (Go.Wk.at_nil _ _)⟩ (by kernel_rfl) ?_
  refine HS.call rfl (want_by rfl rfl c_1) rfl (ec en_33 rfl rfl) (query_Queries_Cancel_nil0_walk (fr := (Ow.own 34 19 e_api_Asked vr1_1 r1_1 :: Ow.box b_1 34 (c_api_Asked a_Group (.bool a_All) va_Sources).toArray :: fr)) a_Group hS hM) ?_
  rintro _ h_10 ⟨F_9, r_6, rfl, hk, hS, hM⟩
  replace hK := hK.trans hk
  replace hL_a_Sources := hL_a_Sources.kp hk
  refine HA.val (k := 11) (v := .bool (!r_6)) rfl rfl (by kernel_rfl) (by kernel_rfl) (want_by rfl rfl c_1) rfl (fun _ ⟨c202, c201⟩ => q_not rfl) ?_
  refine HA.val (k := 12) (v := .bool (!r_6)) rfl rfl (by kernel_rfl) (by kernel_rfl) (want_none) rfl (fun _ ⟨c202, c201⟩ => q_pickK true rfl c_1 rfl) ?_
  refine HA.val (k := 13) (v := .bool (!r_6)) rfl rfl (by kernel_rfl) (by kernel_rfl) (want_none) rfl (fun _ ⟨c202, c201⟩ => q_move rfl) ?_
  rcases Bool.eq_false_or_eq_true (!r_6) with c_2 | c_2
  ·
   replace hM := hM.1 c_2
   refine HA.val (k := 14) (v := .bool r0_1) rfl rfl (by kernel_rfl) (by kernel_rfl) (want_by rfl rfl c_2) rfl (fun _ ⟨c202, c201⟩ => q_move rfl) ?_
   refine HA.val (k := 15) (v := .bool (!r0_1)) rfl rfl (by kernel_rfl) (by kernel_rfl) (want_by rfl rfl c_2) rfl (fun _ ⟨c202, c201⟩ => q_not rfl) ?_
   refine HA.val (k := 16) (v := .bool (!r0_1)) rfl rfl (by kernel_rfl) (by kernel_rfl) (want_none) rfl (fun _ ⟨c202, c201⟩ => q_pickK true rfl c_2 rfl) ?_
   refine HA.val (k := 17) (v := .bool (!r0_1)) rfl rfl (by kernel_rfl) (by kernel_rfl) (want_none) rfl (fun _ ⟨c202, c201⟩ => q_move rfl) ?_
   rcases Bool.eq_false_or_eq_true (!r0_1) with c_3 | c_3
   ·
    replace hM := hM.1 c_3
    refine HA.val (k := 18) (v := vr1_1) rfl rfl (by kernel_rfl) (by kernel_rfl) (want_by rfl rfl c_3) rfl (fun _ ⟨c202, c201⟩ => q_move rfl) ?_
    refine HA.val (k := 19) (v := .int .i64 (r1_1.length : Int)) rfl rfl (by kernel_rfl) (by kernel_rfl) (want_by rfl rfl c_3) rfl (fun _ ⟨c202, c201⟩ => q_len ts_35 (shp c202.slice) rfl rfl) ?_
    refine HA.val (k := 20) (v := .bool (decide ((r1_1.length : Int) = 0))) rfl rfl (by kernel_rfl) (by kernel_rfl) (want_by rfl rfl c_3) rfl (fun _ ⟨c202, c201⟩ => q_eql rfl rfl) ?_
    refine HA.val (k := 21) (v := .bool (decide ((r1_1.length : Int) = 0))) rfl rfl (by kernel_rfl) (by kernel_rfl) (want_none) rfl (fun _ ⟨c202, c201⟩ => q_pickK true rfl c_3 rfl) ?_
    refine HA.val (k := 22) (v := .bool (decide ((r1_1.length : Int) = 0))) rfl rfl (by kernel_rfl) (by kernel_rfl) (want_none) rfl (fun _ ⟨c202, c201⟩ => q_move rfl) ?_
    rcases Bool.eq_false_or_eq_true (decide ((r1_1.length : Int) = 0)) with c_4 | c_4
    ·
     replace hM := hM.1 (of_decide_eq_true c_4)
     refine HA.val (k := 23) (v := .bool r1_2) rfl rfl (by kernel_rfl) (by kernel_rfl) (want_by rfl rfl c_4) rfl (fun _ ⟨c202, c201⟩ => q_move rfl) ?_
     refine HA.val (k := 24) (v := .bool (!r1_2)) rfl rfl (by kernel_rfl) (by kernel_rfl) (want_by rfl rfl c_4) rfl (fun _ ⟨c202, c201⟩ => q_not rfl) ?_
     refine HA.val (k := 25) (v := .bool (!r1_2)) rfl rfl (by kernel_rfl) (by kernel_rfl) (want_none) rfl (fun _ ⟨c202, c201⟩ => q_pickK true rfl c_4 rfl) ?_
     refine HA.val (k := 26) (v := .bool (!r1_2)) rfl rfl (by kernel_rfl) (by kernel_rfl) (want_none) rfl (fun _ ⟨c202, c201⟩ => q_move rfl) ?_
     rcases Bool.eq_false_or_eq_true (!r1_2) with c_5 | c_5
     ·
      replace hM := hM.1 c_5
      refine HA.val (k := 27) (v := .pointer none) rfl rfl (by kernel_rfl) (by kernel_rfl) (want_by rfl rfl c_5) rfl (fun _ ⟨c202, c201⟩ => q_move rfl) ?_
      refine HA.one (k := 28) ⟨⟨(hS.own 0 rfl), (hS.box 1 rfl)⟩, (Go.Wk.at_nil _ _)⟩ (by kernel_rfl) ?_
      refine HS.call rfl (want_by rfl rfl c_5) rfl (ec en_12 rfl rfl) (query_Queries_Open_nil0_walk (fr := (Ow.own 34 19 e_api_Asked vr1_1 r1_1 :: Ow.box b_1 34 (c_api_Asked a_Group (.bool a_All) va_Sources).toArray :: fr))  hS hM) ?_
      rintro vr_1 h_11 ⟨F_10, r_7, _, rfl, hk, hS, hL_2, hM⟩
      replace hK := hK.trans hk
      replace hL_a_Sources := hL_a_Sources.kp hk
      refine Go.Wk.HA.re (fun h => (OwnIs h 0 34 19 e_api_Asked vr_1 r_7) ∧ (OwnIs h 0 34 19 e_api_Asked vr1_1 r1_1) ∧ (Blk h b_1 (.cells (c_api_Asked a_Group (.bool a_All) va_Sources).toArray 34 (0, 0)))) [] (fun L_ h_ hL_ ⟨c371, c202, c201⟩ hs_ => ⟨⟨c202, c201⟩, (Go.Wk.at_nil _ _)⟩) ?_
      refine HA.val (k := 29) (v := .int .i64 (r_7.length : Int)) rfl rfl (by kernel_rfl) (by kernel_rfl) (want_by rfl rfl c_5) rfl (fun _ ⟨c371, c202, c201⟩ => q_len ts_35 (shp c371.slice) rfl rfl) ?_
      refine HA.val (k := 30) (v := .bool (decide ((r_7.length : Int) = 0))) rfl rfl (by kernel_rfl) (by kernel_rfl) (want_by rfl rfl c_5) rfl (fun _ ⟨c371, c202, c201⟩ => q_eql rfl rfl) ?_
      refine HA.val (k := 31) (v := .bool (decide ((r_7.length : Int) = 0))) rfl rfl (by kernel_rfl) (by kernel_rfl) (want_none) rfl (fun _ ⟨c371, c202, c201⟩ => q_pickK true rfl c_5 rfl) ?_
      refine HA.val (k := 32) (v := .bool (decide ((r_7.length : Int) = 0))) rfl rfl (by kernel_rfl) (by kernel_rfl) (want_none) rfl (fun _ ⟨c371, c202, c201⟩ => q_move rfl) ?_
      rcases Bool.eq_false_or_eq_true (decide ((r_7.length : Int) = 0)) with c_6 | c_6
      ·
       replace hM := hM.1 (of_decide_eq_true c_6)
       refine HA.one (k := 33) ⟨⟨(hS.own 0 rfl), (hS.own 1 rfl), (hS.box 2 rfl)⟩, (Go.Wk.at_nil _ _)⟩ (by kernel_rfl) ?_
       refine HS.call rfl (want_by rfl rfl c_6) rfl (ec en_13 rfl rfl) (law22_lives_walk (fr := (Ow.own 34 19 e_api_Asked vr_1 r_7 :: Ow.own 34 19 e_api_Asked vr1_1 r1_1 :: Ow.box b_1 34 (c_api_Asked a_Group (.bool a_All) va_Sources).toArray :: fr))  hS hM) ?_
       rintro _ h_12 ⟨F_11, r_8, rfl, hk, hS, hM⟩
       replace hK := hK.trans hk
       replace hL_a_Sources := hL_a_Sources.kp hk
       refine HA.val (k := 34) (v := .bool r_8) rfl rfl (by kernel_rfl) (by kernel_rfl) (want_none) rfl (fun _ ⟨c371, c202, c201⟩ => q_pickK true rfl c_6 rfl) ?_
       refine HA.val (k := 35) (v := .bool r_8) rfl rfl (by kernel_rfl) (by kernel_rfl) (want_none) rfl (fun _ ⟨c371, c202, c201⟩ => q_assign rfl) ?_
       refine HA.nil ⟨⟨(hS.own 0 rfl), (hS.own 1 rfl), (hS.box 2 rfl)⟩, (Go.Wk.at_nil _ _)⟩ (by kernel_rfl) (thenQ_normal (?_))
       refine HW.ret (?_)
       refine ⟨.inr rfl, .bool r_8, res1 rfl (rt rfl), ?_⟩
       replace hS : St F_11 (fr) h_12 := hS.perm2 [] 3 rfl rfl
       exact ⟨F_11, r_8, rfl, hK, hS, hL_a_Sources, hM⟩
      ·
       replace hM := hM.2 (of_decide_eq_false c_6)
       refine HA.one (k := 33) ⟨⟨(hS.own 0 rfl), (hS.own 1 rfl), (hS.box 2 rfl)⟩, (Go.Wk.at_nil _ _)⟩ (by kernel_rfl) ?_
       refine HS.past rfl (past_by rfl rfl c_6) rfl ?_
       refine HA.val (k := 34) (v := .bool false) rfl rfl (by kernel_rfl) (by kernel_rfl) (want_none) rfl (fun _ ⟨c371, c202, c201⟩ => q_pickK false rfl c_6 rfl) ?_
       refine HA.val (k := 35) (v := .bool false) rfl rfl (by kernel_rfl) (by kernel_rfl) (want_none) rfl (fun _ ⟨c371, c202, c201⟩ => q_assign rfl) ?_
       refine HA.nil ⟨⟨(hS.own 0 rfl), (hS.own 1 rfl), (hS.box 2 rfl)⟩, (Go.Wk.at_nil _ _)⟩ (by kernel_rfl) (thenQ_normal (?_))
       refine HW.ret (?_)
       refine ⟨.inr rfl, .bool false, res1 rfl (rt rfl), ?_⟩
       replace hS : St F_10 (fr) h_11 := hS.perm2 [] 3 rfl rfl
       exact ⟨F_10, false, rfl, hK, hS, hL_a_Sources, hM⟩
     ·
      replace hM := hM.2 c_5
      refine HA.past (k := 27) rfl rfl (by kernel_rfl) (by kernel_rfl) (past_by rfl rfl c_5) rfl ?_
      refine HA.one (k := 28) ⟨⟨(hS.own 0 rfl), (hS.box 1 rfl)⟩, (Go.Wk.at_nil _ _)⟩ (by kernel_rfl) ?_
      refine HS.past rfl (past_by rfl rfl c_5) rfl ?_
      refine HA.past (k := 29) rfl rfl (by kernel_rfl) (by kernel_rfl) (past_by rfl rfl c_5) rfl ?_
      refine HA.past (k := 30) rfl rfl (by kernel_rfl) (by kernel_rfl) (past_by rfl rfl c_5) rfl ?_
      refine HA.val (k := 31) (v := .bool false) rfl rfl (by kernel_rfl) (by kernel_rfl) (want_none) rfl (fun _ ⟨c202, c201⟩ => q_pickK false rfl c_5 rfl) ?_
      refine HA.val (k := 32) (v := .bool false) rfl rfl (by kernel_rfl) (by kernel_rfl) (want_none) rfl (fun _ ⟨c202, c201⟩ => q_move rfl) ?_
      refine HA.one (k := 33) ⟨⟨(hS.own 0 rfl), (hS.box 1 rfl)⟩, (Go.Wk.at_nil _ _)⟩ (by kernel_rfl) ?_
      refine HS.past rfl (past_some rfl rfl) rfl ?_
      refine HA.val (k := 34) (v := .bool false) rfl rfl (by kernel_rfl) (by kernel_rfl) (want_none) rfl (fun _ ⟨c202, c201⟩ => q_pick rfl rfl) ?_
      refine HA.val (k := 35) (v := .bool false) rfl rfl (by kernel_rfl) (by kernel_rfl) (want_none) rfl (fun _ ⟨c202, c201⟩ => q_assign rfl) ?_
      refine HA.nil ⟨⟨(hS.own 0 rfl), (hS.box 1 rfl)⟩, (Go.Wk.at_nil _ _)⟩ (by kernel_rfl) (thenQ_normal (?_))
      refine HW.ret (?_)
      refine ⟨.inr rfl, .bool false, res1 rfl (rt rfl), ?_⟩
      replace hS : St F_9 (fr) h_10 := hS.perm2 [] 2 rfl rfl
      exact ⟨F_9, false, rfl, hK, hS, hL_a_Sources, hM⟩
    ·
     replace hM := hM.2 (of_decide_eq_false c_4)
     refine HA.past (k := 23) rfl rfl (by kernel_rfl) (by kernel_rfl) (past_by rfl rfl c_4) rfl ?_
     refine HA.past (k := 24) rfl rfl (by kernel_rfl) (by kernel_rfl) (past_by rfl rfl c_4) rfl ?_
     refine HA.val (k := 25) (v := .bool false) rfl rfl (by kernel_rfl) (by kernel_rfl) (want_none) rfl (fun _ ⟨c202, c201⟩ => q_pickK false rfl c_4 rfl) ?_
     refine HA.val (k := 26) (v := .bool false) rfl rfl (by kernel_rfl) (by kernel_rfl) (want_none) rfl (fun _ ⟨c202, c201⟩ => q_move rfl) ?_
     refine HA.past (k := 27) rfl rfl (by kernel_rfl) (by kernel_rfl) (past_some rfl rfl) rfl ?_
     refine HA.one (k := 28) ⟨⟨(hS.own 0 rfl), (hS.box 1 rfl)⟩, (Go.Wk.at_nil _ _)⟩ (by kernel_rfl) ?_
     refine HS.past rfl (past_some rfl rfl) rfl ?_
     refine HA.past (k := 29) rfl rfl (by kernel_rfl) (by kernel_rfl) (past_some rfl rfl) rfl ?_
     refine HA.past (k := 30) rfl rfl (by kernel_rfl) (by kernel_rfl) (past_some rfl rfl) rfl ?_
     refine HA.val (k := 31) (v := .bool false) rfl rfl (by kernel_rfl) (by kernel_rfl) (want_none) rfl (fun _ ⟨c202, c201⟩ => q_pick rfl rfl) ?_
     refine HA.val (k := 32) (v := .bool false) rfl rfl (by kernel_rfl) (by kernel_rfl) (want_none) rfl (fun _ ⟨c202, c201⟩ => q_move rfl) ?_
     refine HA.one (k := 33) ⟨⟨(hS.own 0 rfl), (hS.box 1 rfl)⟩, (Go.Wk.at_nil _ _)⟩ (by kernel_rfl) ?_
     refine HS.past rfl (past_some rfl rfl) rfl ?_
     refine HA.val (k := 34) (v := .bool false) rfl rfl (by kernel_rfl) (by kernel_rfl) (want_none) rfl (fun _ ⟨c202, c201⟩ => q_pick rfl rfl) ?_
     refine HA.val (k := 35) (v := .bool false) rfl rfl (by kernel_rfl) (by kernel_rfl) (want_none) rfl (fun _ ⟨c202, c201⟩ => q_assign rfl) ?_
     refine HA.nil ⟨⟨(hS.own 0 rfl), (hS.box 1 rfl)⟩, (Go.Wk.at_nil _ _)⟩ (by kernel_rfl) (thenQ_normal (?_))
     refine HW.ret (?_)
     refine ⟨.inr rfl, .bool false, res1 rfl (rt rfl), ?_⟩
     replace hS : St F_9 (fr) h_10 := hS.perm2 [] 2 rfl rfl
     exact ⟨F_9, false, rfl, hK, hS, hL_a_Sources, hM⟩
   ·
    replace hM := hM.2 c_3
    refine HA.past (k := 18) rfl rfl (by kernel_rfl) (by kernel_rfl) (past_by rfl rfl c_3) rfl ?_
    refine HA.past (k := 19) rfl rfl (by kernel_rfl) (by kernel_rfl) (past_by rfl rfl c_3) rfl ?_
    refine HA.past (k := 20) rfl rfl (by kernel_rfl) (by kernel_rfl) (past_by rfl rfl c_3) rfl ?_
    refine HA.val (k := 21) (v := .bool false) rfl rfl (by kernel_rfl) (by kernel_rfl) (want_none) rfl (fun _ ⟨c202, c201⟩ => q_pickK false rfl c_3 rfl) ?_
    refine HA.val (k := 22) (v := .bool false) rfl rfl (by kernel_rfl) (by kernel_rfl) (want_none) rfl (fun _ ⟨c202, c201⟩ => q_move rfl) ?_
    refine HA.past (k := 23) rfl rfl (by kernel_rfl) (by kernel_rfl) (past_some rfl rfl) rfl ?_
    refine HA.past (k := 24) rfl rfl (by kernel_rfl) (by kernel_rfl) (past_some rfl rfl) rfl ?_
    refine HA.val (k := 25) (v := .bool false) rfl rfl (by kernel_rfl) (by kernel_rfl) (want_none) rfl (fun _ ⟨c202, c201⟩ => q_pick rfl rfl) ?_
    refine HA.val (k := 26) (v := .bool false) rfl rfl (by kernel_rfl) (by kernel_rfl) (want_none) rfl (fun _ ⟨c202, c201⟩ => q_move rfl) ?_
    refine HA.past (k := 27) rfl rfl (by kernel_rfl) (by kernel_rfl) (past_some rfl rfl) rfl ?_
    refine HA.one (k := 28) ⟨⟨(hS.own 0 rfl), (hS.box 1 rfl)⟩, (Go.Wk.at_nil _ _)⟩ (by kernel_rfl) ?_
    refine HS.past rfl (past_some rfl rfl) rfl ?_
    refine HA.past (k := 29) rfl rfl (by kernel_rfl) (by kernel_rfl) (past_some rfl rfl) rfl ?_
    refine HA.past (k := 30) rfl rfl (by kernel_rfl) (by kernel_rfl) (past_some rfl rfl) rfl ?_
    refine HA.val (k := 31) (v := .bool false) rfl rfl (by kernel_rfl) (by kernel_rfl) (want_none) rfl (fun _ ⟨c202, c201⟩ => q_pick rfl rfl) ?_
    refine HA.val (k := 32) (v := .bool false) rfl rfl (by kernel_rfl) (by kernel_rfl) (want_none) rfl (fun _ ⟨c202, c201⟩ => q_move rfl) ?_
    refine HA.one (k := 33) ⟨⟨(hS.own 0 rfl), (hS.box 1 rfl)⟩, (Go.Wk.at_nil _ _)⟩ (by kernel_rfl) ?_
    refine HS.past rfl (past_some rfl rfl) rfl ?_
    refine HA.val (k := 34) (v := .bool false) rfl rfl (by kernel_rfl) (by kernel_rfl) (want_none) rfl (fun _ ⟨c202, c201⟩ => q_pick rfl rfl) ?_
    refine HA.val (k := 35) (v := .bool false) rfl rfl (by kernel_rfl) (by kernel_rfl) (want_none) rfl (fun _ ⟨c202, c201⟩ => q_assign rfl) ?_
    refine HA.nil ⟨⟨(hS.own 0 rfl), (hS.box 1 rfl)⟩, (Go.Wk.at_nil _ _)⟩ (by kernel_rfl) (thenQ_normal (?_))
    refine HW.ret (?_)
    refine ⟨.inr rfl, .bool false, res1 rfl (rt rfl), ?_⟩
    replace hS : St F_9 (fr) h_10 := hS.perm2 [] 2 rfl rfl
    exact ⟨F_9, false, rfl, hK, hS, hL_a_Sources, hM⟩
  ·
   replace hM := hM.2 c_2
   refine HA.past (k := 14) rfl rfl (by kernel_rfl) (by kernel_rfl) (past_by rfl rfl c_2) rfl ?_
   refine HA.past (k := 15) rfl rfl (by kernel_rfl) (by kernel_rfl) (past_by rfl rfl c_2) rfl ?_
   refine HA.val (k := 16) (v := .bool false) rfl rfl (by kernel_rfl) (by kernel_rfl) (want_none) rfl (fun _ ⟨c202, c201⟩ => q_pickK false rfl c_2 rfl) ?_
   refine HA.val (k := 17) (v := .bool false) rfl rfl (by kernel_rfl) (by kernel_rfl) (want_none) rfl (fun _ ⟨c202, c201⟩ => q_move rfl) ?_
   refine HA.past (k := 18) rfl rfl (by kernel_rfl) (by kernel_rfl) (past_some rfl rfl) rfl ?_
   refine HA.past (k := 19) rfl rfl (by kernel_rfl) (by kernel_rfl) (past_some rfl rfl) rfl ?_
   refine HA.past (k := 20) rfl rfl (by kernel_rfl) (by kernel_rfl) (past_some rfl rfl) rfl ?_
   refine HA.val (k := 21) (v := .bool false) rfl rfl (by kernel_rfl) (by kernel_rfl) (want_none) rfl (fun _ ⟨c202, c201⟩ => q_pick rfl rfl) ?_
   refine HA.val (k := 22) (v := .bool false) rfl rfl (by kernel_rfl) (by kernel_rfl) (want_none) rfl (fun _ ⟨c202, c201⟩ => q_move rfl) ?_
   refine HA.past (k := 23) rfl rfl (by kernel_rfl) (by kernel_rfl) (past_some rfl rfl) rfl ?_
   refine HA.past (k := 24) rfl rfl (by kernel_rfl) (by kernel_rfl) (past_some rfl rfl) rfl ?_
   refine HA.val (k := 25) (v := .bool false) rfl rfl (by kernel_rfl) (by kernel_rfl) (want_none) rfl (fun _ ⟨c202, c201⟩ => q_pick rfl rfl) ?_
   refine HA.val (k := 26) (v := .bool false) rfl rfl (by kernel_rfl) (by kernel_rfl) (want_none) rfl (fun _ ⟨c202, c201⟩ => q_move rfl) ?_
   refine HA.past (k := 27) rfl rfl (by kernel_rfl) (by kernel_rfl) (past_some rfl rfl) rfl ?_
   refine HA.one (k := 28) ⟨⟨(hS.own 0 rfl), (hS.box 1 rfl)⟩, (Go.Wk.at_nil _ _)⟩ (by kernel_rfl) ?_
   refine HS.past rfl (past_some rfl rfl) rfl ?_
   refine HA.past (k := 29) rfl rfl (by kernel_rfl) (by kernel_rfl) (past_some rfl rfl) rfl ?_
   refine HA.past (k := 30) rfl rfl (by kernel_rfl) (by kernel_rfl) (past_some rfl rfl) rfl ?_
   refine HA.val (k := 31) (v := .bool false) rfl rfl (by kernel_rfl) (by kernel_rfl) (want_none) rfl (fun _ ⟨c202, c201⟩ => q_pick rfl rfl) ?_
   refine HA.val (k := 32) (v := .bool false) rfl rfl (by kernel_rfl) (by kernel_rfl) (want_none) rfl (fun _ ⟨c202, c201⟩ => q_move rfl) ?_
   refine HA.one (k := 33) ⟨⟨(hS.own 0 rfl), (hS.box 1 rfl)⟩, (Go.Wk.at_nil _ _)⟩ (by kernel_rfl) ?_
   refine HS.past rfl (past_some rfl rfl) rfl ?_
   refine HA.val (k := 34) (v := .bool false) rfl rfl (by kernel_rfl) (by kernel_rfl) (want_none) rfl (fun _ ⟨c202, c201⟩ => q_pick rfl rfl) ?_
   refine HA.val (k := 35) (v := .bool false) rfl rfl (by kernel_rfl) (by kernel_rfl) (want_none) rfl (fun _ ⟨c202, c201⟩ => q_assign rfl) ?_
   refine HA.nil ⟨⟨(hS.own 0 rfl), (hS.box 1 rfl)⟩, (Go.Wk.at_nil _ _)⟩ (by kernel_rfl) (thenQ_normal (?_))
   refine HW.ret (?_)
   refine ⟨.inr rfl, .bool false, res1 rfl (rt rfl), ?_⟩
   replace hS : St F_9 (fr) h_10 := hS.perm2 [] 2 rfl rfl
   exact ⟨F_9, false, rfl, hK, hS, hL_a_Sources, hM⟩
 ·
  replace hM := hM.2 c_1
  refine HA.past (k := 7) rfl rfl (by kernel_rfl) (by kernel_rfl) (past_by rfl rfl c_1) rfl ?_
  refine HA.past (k := 8) rfl rfl (by kernel_rfl) (by kernel_rfl) (past_by rfl rfl c_1) rfl ?_
  refine HA.past (k := 9) rfl rfl (by kernel_rfl) (by kernel_rfl) (past_by rfl rfl c_1) rfl ?_
  refine HA.one (k := 10) ⟨⟨(hS.own 0 rfl), (hS.box 1 rfl)⟩, (Go.Wk.at_nil _ _)⟩ (by kernel_rfl) ?_
  refine HS.past rfl (past_by rfl rfl c_1) rfl ?_
  refine HA.past (k := 11) rfl rfl (by kernel_rfl) (by kernel_rfl) (past_by rfl rfl c_1) rfl ?_
  refine HA.val (k := 12) (v := .bool false) rfl rfl (by kernel_rfl) (by kernel_rfl) (want_none) rfl (fun _ ⟨c202, c201⟩ => q_pickK false rfl c_1 rfl) ?_
  refine HA.val (k := 13) (v := .bool false) rfl rfl (by kernel_rfl) (by kernel_rfl) (want_none) rfl (fun _ ⟨c202, c201⟩ => q_move rfl) ?_
  refine HA.past (k := 14) rfl rfl (by kernel_rfl) (by kernel_rfl) (past_some rfl rfl) rfl ?_
  refine HA.past (k := 15) rfl rfl (by kernel_rfl) (by kernel_rfl) (past_some rfl rfl) rfl ?_
  refine HA.val (k := 16) (v := .bool false) rfl rfl (by kernel_rfl) (by kernel_rfl) (want_none) rfl (fun _ ⟨c202, c201⟩ => q_pick rfl rfl) ?_
  refine HA.val (k := 17) (v := .bool false) rfl rfl (by kernel_rfl) (by kernel_rfl) (want_none) rfl (fun _ ⟨c202, c201⟩ => q_move rfl) ?_
  refine HA.past (k := 18) rfl rfl (by kernel_rfl) (by kernel_rfl) (past_some rfl rfl) rfl ?_
  refine HA.past (k := 19) rfl rfl (by kernel_rfl) (by kernel_rfl) (past_some rfl rfl) rfl ?_
  refine HA.past (k := 20) rfl rfl (by kernel_rfl) (by kernel_rfl) (past_some rfl rfl) rfl ?_
  refine HA.val (k := 21) (v := .bool false) rfl rfl (by kernel_rfl) (by kernel_rfl) (want_none) rfl (fun _ ⟨c202, c201⟩ => q_pick rfl rfl) ?_
  refine HA.val (k := 22) (v := .bool false) rfl rfl (by kernel_rfl) (by kernel_rfl) (want_none) rfl (fun _ ⟨c202, c201⟩ => q_move rfl) ?_
  refine HA.past (k := 23) rfl rfl (by kernel_rfl) (by kernel_rfl) (past_some rfl rfl) rfl ?_
  refine HA.past (k := 24) rfl rfl (by kernel_rfl) (by kernel_rfl) (past_some rfl rfl) rfl ?_
  refine HA.val (k := 25) (v := .bool false) rfl rfl (by kernel_rfl) (by kernel_rfl) (want_none) rfl (fun _ ⟨c202, c201⟩ => q_pick rfl rfl) ?_
  refine HA.val (k := 26) (v := .bool false) rfl rfl (by kernel_rfl) (by kernel_rfl) (want_none) rfl (fun _ ⟨c202, c201⟩ => q_move rfl) ?_
  refine HA.past (k := 27) rfl rfl (by kernel_rfl) (by kernel_rfl) (past_some rfl rfl) rfl ?_
  refine HA.one (k := 28) ⟨⟨(hS.own 0 rfl), (hS.box 1 rfl)⟩, (Go.Wk.at_nil _ _)⟩ (by kernel_rfl) ?_
  refine HS.past rfl (past_some rfl rfl) rfl ?_
  refine HA.past (k := 29) rfl rfl (by kernel_rfl) (by kernel_rfl) (past_some rfl rfl) rfl ?_
  refine HA.past (k := 30) rfl rfl (by kernel_rfl) (by kernel_rfl) (past_some rfl rfl) rfl ?_
  refine HA.val (k := 31) (v := .bool false) rfl rfl (by kernel_rfl) (by kernel_rfl) (want_none) rfl (fun _ ⟨c202, c201⟩ => q_pick rfl rfl) ?_
  refine HA.val (k := 32) (v := .bool false) rfl rfl (by kernel_rfl) (by kernel_rfl) (want_none) rfl (fun _ ⟨c202, c201⟩ => q_move rfl) ?_
  refine HA.one (k := 33) ⟨⟨(hS.own 0 rfl), (hS.box 1 rfl)⟩, (Go.Wk.at_nil _ _)⟩ (by kernel_rfl) ?_
  refine HS.past rfl (past_some rfl rfl) rfl ?_
  refine HA.val (k := 34) (v := .bool false) rfl rfl (by kernel_rfl) (by kernel_rfl) (want_none) rfl (fun _ ⟨c202, c201⟩ => q_pick rfl rfl) ?_
  refine HA.val (k := 35) (v := .bool false) rfl rfl (by kernel_rfl) (by kernel_rfl) (want_none) rfl (fun _ ⟨c202, c201⟩ => q_assign rfl) ?_
  refine HA.nil ⟨⟨(hS.own 0 rfl), (hS.box 1 rfl)⟩, (Go.Wk.at_nil _ _)⟩ (by kernel_rfl) (thenQ_normal (?_))
  refine HW.ret (?_)
  refine ⟨.inr rfl, .bool false, res1 rfl (rt rfl), ?_⟩
  replace hS : St F_8 (fr) h_9 := hS.perm2 [] 2 rfl rfl
  exact ⟨F_8, false, rfl, hK, hS, hL_a_Sources, hM⟩
end Go.Wk
