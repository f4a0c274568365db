/- Walks of Host and Proxy. -/
import Derived.Test.YtmbkoonblmfdpaaGreatHzW1
set_option linter.unusedSimpArgs false
set_option linter.unusedVariables false
set_option linter.unusedSectionVars false
set_option maxHeartbeats 40000000
set_option maxRecDepth 100000
namespace Go.Wk
open Go.HL
open Go.Proofs hiding encI
variable [DM]
def host_New_W (v6 : Bool) (Q : Prop) : Prop :=
 Q
theorem host_New_walk {F : Fz} {fr : List Ow} {h0 : Heap} (v6 : Bool) (hS : St F (fr) h0)  {Q : Prop} (hM : host_New_W v6 Q) :
  HC Tryz.prog 15 #[.bool v6] h0 fun u h' => ∃ (F' : Fz) (b_1 : Nat) (r_1 : Nat), u = .pointer (some ⟨b_1, 0, none⟩) ∧ Kp F h0 F' h' ∧ St F' (Ow.box b_1 97 #[.bool v6, .int .i64 0, .map (some r_1), .int .i64 0, .int .i64 0] :: Ow.map r_1 (fun (x : T_api_Addr) => .agg (e_api_Addr x).toArray) (fun (x : T_api_Filter) => .agg #[.bool x.1, x.2.1]) ([] : List (T_api_Addr × T_api_Filter)) :: fr) h' ∧ (NfL nf_api_Filter F' h' (([] : List (T_api_Addr × T_api_Filter)).map (·.2))) ∧ Q := by
 unfold host_New_W at hM
 have hK := Kp.refl F h0
 refine HC.of_HW (n := 7) Tryz.func15 rfl rfl (Nat.le_of_ble_eq_true rfl) ?_
 refine HW.seq ?_
 refine HW.region ?_
 refine oA (.pointer none) rfl rfl ?_
 refine HO.nil (thenQ_normal (?_))
 refine HW.seq ?_
 refine HW.region ?_
 refine oM (.bool v6) rfl rfl ?_
 refine HO.eff (want_none) rfl (st_makeMap (κ := T_api_Addr) (ν := T_api_Filter) (fun (x : T_api_Addr) => .agg (e_api_Addr x).toArray) (fun (x : T_api_Filter) => .agg #[.bool x.1, x.2.1]) hS) ?_
 rintro _ h_1 ⟨r_2, rfl, hS, hk⟩
 replace hK := hK.trans hk
 have hN_2 : NfL nf_api_Filter F h_1 (([] : List (T_api_Addr × T_api_Filter)).map (·.2)) := NfL.nil _ _ _
 refine oV (.agg #[.bool v6, .int .i64 0, .map (some r_2), .int .i64 0, .int .i64 0]) (q_build tp_97 rfl) rfl ?_
 refine HO.eff (want_none) rfl (st_box (c := #[.bool v6, .int .i64 0, .map (some r_2), .int .i64 0, .int .i64 0]) (k' := 5) hS rfl rfl) ?_
 rintro _ h_2 ⟨b_2, rfl, hS, hk⟩
 replace hK := hK.trans hk
 replace hN_2 := hN_2.kp hk
 refine oA (.pointer (some ⟨b_2, 0, none⟩)) rfl rfl ?_
 refine HO.nil (thenQ_normal (?_))
 refine HW.ret (?_)
 refine ⟨.inr rfl, .pointer (some ⟨b_2, 0, none⟩), res1 rfl (rt rfl), ?_⟩
 exact ⟨F, b_2, r_2, rfl, hK, hS, hN_2, hM⟩
def host_Host_settle_W (h_v6 : Bool) (h_now : Int) (h_want : List (T_api_Addr × T_api_Filter)) (h_one : Int) (h_two : Int) (now : Int) (Q : Int → Bool → Int → (List (T_api_Addr × T_api_Filter)) → Int → Int → Prop) : Prop :=
 Q (max h_now (min now 1000000000000)) h_v6 (max h_now (min now 1000000000000)) h_want h_one h_two
theorem host_Host_settle_walk {F : Fz} {fr : List Ow} {h0 : Heap} (h_v6 : Bool) (h_now : Int) (h_want : List (T_api_Addr × T_api_Filter)) (h_one : Int) (h_two : Int) (now : Int) (bh : Nat) (rh_want : Nat) (hS : St F (Ow.box bh 97 #[.bool h_v6, .int .i64 h_now, .map (some rh_want), .int .i64 h_one, .int .i64 h_two] :: Ow.map rh_want (fun (x : T_api_Addr) => .agg (e_api_Addr x).toArray) (fun (x : T_api_Filter) => .agg #[.bool x.1, x.2.1]) h_want :: fr) h0) (hN_h_want : NfL nf_api_Filter F h0 (h_want.map (·.2))) {Q : Int → Bool → Int → (List (T_api_Addr × T_api_Filter)) → Int → Int → Prop} (hM : host_Host_settle_W h_v6 h_now h_want h_one h_two now Q) :
  HC Tryz.prog 47 #[.pointer (some ⟨bh, 0, none⟩), .int .i64 now] h0 fun u h' => ∃ (F' : Fz) (r_1 : Int) (a0_v6_1 : Bool) (a0_now_1 : Int) (a0m_1 : List (T_api_Addr × T_api_Filter)) (a0_one_1 : Int) (a0_two_1 : Int), u = .int .i64 r_1 ∧ Kp F h0 F' h' ∧ St F' (Ow.box bh 97 #[.bool a0_v6_1, .int .i64 a0_now_1, .map (some rh_want), .int .i64 a0_one_1, .int .i64 a0_two_1] :: Ow.map rh_want (fun (x : T_api_Addr) => .agg (e_api_Addr x).toArray) (fun (x : T_api_Filter) => .agg #[.bool x.1, x.2.1]) a0m_1 :: fr) h' ∧ (NfL nf_api_Filter F' h' (h_want.map (·.2))) ∧ (NfL nf_api_Filter F' h' (a0m_1.map (·.2))) ∧ Q r_1 a0_v6_1 a0_now_1 a0m_1 a0_one_1 a0_two_1 := by
 unfold host_Host_settle_W at hM
 have hK := Kp.refl F h0
 refine HC.of_HW (n := 19) Tryz.func47 rfl rfl (Nat.le_of_ble_eq_true rfl) ?_
 refine HW.seq ?_
 refine HW.region ?_
 refine oA (.int .i64 0) rfl rfl ?_
 refine HO.nil (thenQ_normal (?_))
 refine HW.seq ?_
 refine HW.region ?_
 refine oM (.pointer (some ⟨bh, 0, none⟩)) rfl rfl ?_
 refine oM (.pointer (some ⟨bh, 0, none⟩)) rfl rfl ?_
 refine oV (.pointer (some ⟨bh, 0, none⟩)) (q_nilCheck rfl) rfl ?_
 refine oV (.pointer (some ⟨bh, 1, none⟩)) (q_fieldAddr fa_97_1 rfl rfl) rfl ?_
 refine oV (.int .i64 h_now) (q_load to_3 rfl (Blk.cell (hS.box 0 rfl) rfl)) rfl ?_
 refine oM (.int .i64 now) rfl rfl ?_
 refine oV (.int .i64 (min now 1000000000000)) (q_min rfl rfl) rfl ?_
 refine oV (.int .i64 (max h_now (min now 1000000000000))) (q_max rfl rfl) rfl ?_
 refine oV (.pointer (some ⟨bh, 0, none⟩)) (q_nilCheck rfl) rfl ?_
 refine oV (.pointer (some ⟨bh, 1, none⟩)) (q_fieldAddr fa_97_1 rfl rfl) rfl ?_
 refine HO.sto (want_none) rfl (st_store (c' := #[.bool h_v6, .int .i64 (max h_now (min now 1000000000000)), .map (some rh_want), .int .i64 h_one, .int .i64 h_two]) hS (i := 0) rfl to_3 rfl rfl rfl rfl (Nat.le_of_ble_eq_true rfl) rfl) ?_
 rintro h_1 ⟨hS, hk⟩
 replace hK := hK.trans hk
 replace hN_h_want := hN_h_want.kp hk
 refine HO.nil (thenQ_normal (?_))
 refine HW.seq ?_
 refine HW.region ?_
 refine oM (.pointer (some ⟨bh, 0, none⟩)) rfl rfl ?_
 refine oV (.pointer (some ⟨bh, 0, none⟩)) (q_nilCheck rfl) rfl ?_
 refine oV (.pointer (some ⟨bh, 1, none⟩)) (q_fieldAddr fa_97_1 rfl rfl) rfl ?_
 refine oV (.int .i64 (max h_now (min now 1000000000000))) (q_load to_3 rfl (Blk.cell (hS.box 0 rfl) rfl)) rfl ?_
 refine oA (.int .i64 (max h_now (min now 1000000000000))) rfl rfl ?_
 refine HO.nil (thenQ_normal (?_))
 refine HW.ret (?_)
 refine ⟨.inr rfl, .int .i64 (max h_now (min now 1000000000000)), res1 rfl (rt rfl), ?_⟩
 exact ⟨F, max h_now (min now 1000000000000), h_v6, max h_now (min now 1000000000000), h_want, h_one, h_two, rfl, hK, hS, hN_h_want, hN_h_want, hM⟩
def addr_Ip4_W (a : Int) (b : Int) (c : Int) (d : Int) (Q : T_api_Addr → Prop) : Prop :=
 ((0 : Int) ≤ d ∧ d < 256) ∧ (((0 : Int) ≤ c ∧ c < 256) ∧ (((0 : Int) ≤ b ∧ b < 256) ∧ (((0 : Int) ≤ a ∧ a < 256) ∧ (Q (false, mkB 16 [a, b, c, d, 0, 0, 0, 0, 0, 0, 0, 0, 0, 0, 0, 0])))))
theorem addr_Ip4_walk {F : Fz} {fr : List Ow} {h0 : Heap} (a : Int) (b : Int) (c : Int) (d : Int) (hS : St F (fr) h0)  {Q : T_api_Addr → Prop} (hM : addr_Ip4_W a b c d Q) :
  HC Tryz.prog 101 #[.int .u8 a, .int .u8 b, .int .u8 c, .int .u8 d] h0 fun u h' => ∃ (F' : Fz) (r_1 : T_api_Addr), u = .agg (e_api_Addr r_1).toArray ∧ Kp F h0 F' h' ∧ St F' (fr) h' ∧ Q r_1 := by
 unfold addr_Ip4_W at hM
 have hK := Kp.refl F h0
 refine HC.of_HW (n := 15) Tryz.func101 rfl rfl (Nat.le_of_ble_eq_true rfl) ?_
 refine HW.seq ?_
 refine HW.region ?_
 refine HO.eff (want_none) rfl (st_alloc (c := (e_api_Addr (false, (default : Ba 16))).toArray) hS tz_28 rfl) ?_
 rintro _ h_1 ⟨b_1, rfl, hS, hk⟩
 replace hK := hK.trans hk
 refine HO.nil (thenQ_normal (?_))
 refine HW.seq ?_
 refine HW.region ?_
 refine oM (.int .u8 a) rfl rfl ?_
 refine oM (.int .u8 b) rfl rfl ?_
 refine oM (.int .u8 c) rfl rfl ?_
 refine oM (.int .u8 d) rfl rfl ?_
 obtain ⟨ho_1, hM⟩ := hM
 obtain ⟨ho_2, hM⟩ := hM
 obtain ⟨ho_3, hM⟩ := hM
 obtain ⟨ho_4, hM⟩ := hM
 refine oV (.agg (arrCells (mkB 16 [a, b, c, d, 0, 0, 0, 0, 0, 0, 0, 0, 0, 0, 0, 0])).toArray) ((q_buildA (cells := #[.int .u8 a, .int .u8 b, .int .u8 c, .int .u8 d, .int .u8 0, .int .u8 0, .int .u8 0, .int .u8 0, .int .u8 0, .int .u8 0, .int .u8 0, .int .u8 0, .int .u8 0, .int .u8 0, .int .u8 0, .int .u8 0]) tb_26 rfl).of_eq (mkB_agg (n := 16) (l := [a, b, c, d, 0, 0, 0, 0, 0, 0, 0, 0, 0, 0, 0, 0]) rfl ⟨ho_4, ⟨ho_3, ⟨ho_2, ⟨ho_1, ⟨⟨by decide, by decide⟩, ⟨⟨by decide, by decide⟩, ⟨⟨by decide, by decide⟩, ⟨⟨by decide, by decide⟩, ⟨⟨by decide, by decide⟩, ⟨⟨by decide, by decide⟩, ⟨⟨by decide, by decide⟩, ⟨⟨by decide, by decide⟩, ⟨⟨by decide, by decide⟩, ⟨⟨by decide, by decide⟩, ⟨⟨by decide, by decide⟩, ⟨⟨by decide, by decide⟩, trivial⟩⟩⟩⟩⟩⟩⟩⟩⟩⟩⟩⟩⟩⟩⟩⟩)) rfl ?_
 refine oV (.agg (e_api_Addr (false, mkB 16 [a, b, c, d, 0, 0, 0, 0, 0, 0, 0, 0, 0, 0, 0, 0])).toArray) (q_build tp_28 (fill_cons (cs' := (e_api_Addr (false, mkB 16 [a, b, c, d, 0, 0, 0, 0, 0, 0, 0, 0, 0, 0, 0, 0])).toArray) (vc := (arrCells (mkB 16 [a, b, c, d, 0, 0, 0, 0, 0, 0, 0, 0, 0, 0, 0, 0])).toArray) rfl rfl rfl (Nat.le_of_ble_eq_true rfl) rfl rfl)) rfl ?_
 refine HO.sto (want_none) rfl (st_storeAgg (c' := (e_api_Addr (false, mkB 16 [a, b, c, d, 0, 0, 0, 0, 0, 0, 0, 0, 0, 0, 0, 0])).toArray) hS (i := 0) rfl ta_28 rfl rfl rfl (one_e_api_Addr _) (Nat.le_of_ble_eq_true rfl) rfl) ?_
 rintro h_2 ⟨hS, hk⟩
 replace hK := hK.trans hk
 refine HO.nil (thenQ_normal (?_))
 refine HW.ret (?_)
 refine ⟨.inr rfl, .agg (e_api_Addr (false, mkB 16 [a, b, c, d, 0, 0, 0, 0, 0, 0, 0, 0, 0, 0, 0, 0])).toArray, res1 rfl (rca (cs := (e_api_Addr (false, mkB 16 [a, b, c, d, 0, 0, 0, 0, 0, 0, 0, 0, 0, 0, 0, 0]))) ta_28 rfl rfl (Blk.cells (k := 17) (hS.box 0 rfl) rfl)), ?_⟩
 replace hS : St F (fr) h_2 := hS.perm2 [] 1 rfl rfl
 exact ⟨F, (false, mkB 16 [a, b, c, d, 0, 0, 0, 0, 0, 0, 0, 0, 0, 0, 0, 0]), rfl, hK, hS, hM⟩
def addr_Good_W (a : T_api_Addr) (Q : Bool → Prop) : Prop :=
 (a.1 = true → Q true) ∧ (a.1 = false → addr_Ip4_W (b8 a.2 0) (b8 a.2 1) (b8 a.2 2) (b8 a.2 3) (fun r_2 => Q (decide ((a : T_api_Addr) = r_2))))
theorem addr_Good_walk {F : Fz} {fr : List Ow} {h0 : Heap} (a : T_api_Addr) (hS : St F (fr) h0)  {Q : Bool → Prop} (hM : addr_Good_W a Q) :
  HC Tryz.prog 48 #[.agg (e_api_Addr a).toArray] h0 fun u h' => ∃ (F' : Fz) (r_1 : Bool), u = .bool r_1 ∧ Kp F h0 F' h' ∧ St F' (fr) h' ∧ Q r_1 := by
 unfold addr_Good_W at hM
 have hK := Kp.refl F h0
 refine HC.of_HW (n := 22) Tryz.func48 rfl rfl (Nat.le_of_ble_eq_true rfl) ?_
 refine HW.seq ?_
 refine HW.region ?_
 refine HO.eff (want_none) rfl (st_box (c := (e_api_Addr a).toArray) (k' := 17) hS rfl rfl) ?_
 rintro _ h_1 ⟨b_1, rfl, hS, hk⟩
 replace hK := hK.trans hk
 refine oA (.bool false) rfl rfl ?_
 refine HO.nil (thenQ_normal (?_))
 refine HW.seq ?_
 refine HW.regionA 20 mixed (fun h => (Blk h b_1 (.cells (e_api_Addr a).toArray 28 (0, 0)))) [] (by kernel_rfl) ?_
 refine HA.val (k := 0) (v := .pointer (some ⟨b_1, 0, none⟩)) rfl rfl (by kernel_rfl) (by kernel_rfl) (want_none) rfl (fun _ c201 => q_fieldAddr fa_28_0 rfl rfl) ?_
 refine HA.val (k := 1) (v := .bool a.1) rfl rfl (by kernel_rfl) (by kernel_rfl) (want_none) rfl (fun _ c201 => q_load to_4 rfl (Blk.cell c201 rfl)) ?_
 refine HA.val (k := 2) (v := .bool a.1) rfl rfl (by kernel_rfl) (by kernel_rfl) (want_none) rfl (fun _ c201 => q_move rfl) ?_
 rcases Bool.eq_false_or_eq_true a.1 with c_1 | c_1
 ·
  replace hM := hM.1 c_1
  refine HA.past (k := 3) rfl rfl (by kernel_rfl) (by kernel_rfl) (past_by rfl rfl c_1) rfl ?_
  refine HA.past (k := 4) rfl rfl (by kernel_rfl) (by kernel_rfl) (past_by rfl rfl c_1) rfl ?_
  refine HA.past (k := 5) rfl rfl (by kernel_rfl) (by kernel_rfl) (past_by rfl rfl c_1) rfl ?_
  refine HA.past (k := 6) rfl rfl (by kernel_rfl) (by kernel_rfl) (past_by rfl rfl c_1) rfl ?_
  refine HA.past (k := 7) rfl rfl (by kernel_rfl) (by kernel_rfl) (past_by rfl rfl c_1) rfl ?_
  refine HA.past (k := 8) rfl rfl (by kernel_rfl) (by kernel_rfl) (past_by rfl rfl c_1) rfl ?_
  refine HA.past (k := 9) rfl rfl (by kernel_rfl) (by kernel_rfl) (past_by rfl rfl c_1) rfl ?_
  refine HA.past (k := 10) rfl rfl (by kernel_rfl) (by kernel_rfl) (past_by rfl rfl c_1) rfl ?_
  refine HA.past (k := 11) rfl rfl (by kernel_rfl) (by kernel_rfl) (past_by rfl rfl c_1) rfl ?_
  refine HA.past (k := 12) rfl rfl (by kernel_rfl) (by kernel_rfl) (past_by rfl rfl c_1) rfl ?_
  refine HA.past (k := 13) rfl rfl (by kernel_rfl) (by kernel_rfl) (past_by rfl rfl c_1) rfl ?_
  refine HA.past (k := 14) rfl rfl (by kernel_rfl) (by kernel_rfl) (past_by rfl rfl c_1) rfl ?_
  refine HA.past (k := 15) rfl rfl (by kernel_rfl) (by kernel_rfl) (past_by rfl rfl c_1) rfl ?_
  refine HA.one (k := 16) ⟨(hS.box 0 rfl), (Go.Wk.at_nil _ _)⟩ (by kernel_rfl) ?_
  refine HS.past rfl (past_by rfl rfl c_1) rfl ?_
  refine HA.past (k := 17) rfl rfl (by kernel_rfl) (by kernel_rfl) (past_by rfl rfl c_1) rfl ?_
  refine HA.val (k := 18) (v := .bool true) rfl rfl (by kernel_rfl) (by kernel_rfl) (want_none) rfl (fun _ c201 => q_pickK true rfl c_1 rfl) ?_
  refine HA.val (k := 19) (v := .bool true) rfl rfl (by kernel_rfl) (by kernel_rfl) (want_none) rfl (fun _ c201 => q_assign rfl) ?_
  refine HA.nil ⟨(hS.box 0 rfl), (Go.Wk.at_nil _ _)⟩ (by kernel_rfl) (thenQ_normal (?_))
  refine HW.ret (?_)
  refine ⟨.inr rfl, .bool true, res1 rfl (rt rfl), ?_⟩
  replace hS : St F (fr) h_1 := hS.perm2 [] 1 rfl rfl
  exact ⟨F, true, rfl, hK, hS, hM⟩
 ·
  replace hM := hM.2 c_1
  refine HA.val (k := 3) (v := .agg (e_api_Addr a).toArray) rfl rfl (by kernel_rfl) (by kernel_rfl) (want_by rfl rfl c_1) rfl (fun _ c201 => q_loadAgg (cs := (e_api_Addr a)) ta_28 rfl rfl (Blk.cells (k := 17) c201 rfl)) ?_
  refine HA.val (k := 4) (v := .pointer (some ⟨b_1, 1, none⟩)) rfl rfl (by kernel_rfl) (by kernel_rfl) (want_by rfl rfl c_1) rfl (fun _ c201 => q_fieldAddr fa_28_1 rfl rfl) ?_
  refine HA.val (k := 5) (v := .pointer (some ⟨b_1, 1, none⟩)) rfl rfl (by kernel_rfl) (by kernel_rfl) (want_by rfl rfl c_1) rfl (fun _ c201 => q_idxA (o := 1) (t := 0) tr_26 rfl rfl ⟨by decide, by decide⟩) ?_
  refine HA.val (k := 6) (v := .int .u8 (b8 a.2 0)) rfl rfl (by kernel_rfl) (by kernel_rfl) (want_by rfl rfl c_1) rfl (fun _ c201 => q_load to_5 rfl (Blk.cell c201 rfl)) ?_
  refine HA.val (k := 7) (v := .pointer (some ⟨b_1, 1, none⟩)) rfl rfl (by kernel_rfl) (by kernel_rfl) (want_by rfl rfl c_1) rfl (fun _ c201 => q_fieldAddr fa_28_1 rfl rfl) ?_
  refine HA.val (k := 8) (v := .pointer (some ⟨b_1, 2, none⟩)) rfl rfl (by kernel_rfl) (by kernel_rfl) (want_by rfl rfl c_1) rfl (fun _ c201 => q_idxA (o := 1) (t := 1) tr_26 rfl rfl ⟨by decide, by decide⟩) ?_
  refine HA.val (k := 9) (v := .int .u8 (b8 a.2 1)) rfl rfl (by kernel_rfl) (by kernel_rfl) (want_by rfl rfl c_1) rfl (fun _ c201 => q_load to_5 rfl (Blk.cell c201 rfl)) ?_
  refine HA.val (k := 10) (v := .pointer (some ⟨b_1, 1, none⟩)) rfl rfl (by kernel_rfl) (by kernel_rfl) (want_by rfl rfl c_1) rfl (fun _ c201 => q_fieldAddr fa_28_1 rfl rfl) ?_
  refine HA.val (k := 11) (v := .pointer (some ⟨b_1, 3, none⟩)) rfl rfl (by kernel_rfl) (by kernel_rfl) (want_by rfl rfl c_1) rfl (fun _ c201 => q_idxA (o := 1) (t := 2) tr_26 rfl rfl ⟨by decide, by decide⟩) ?_
  refine HA.val (k := 12) (v := .int .u8 (b8 a.2 2)) rfl rfl (by kernel_rfl) (by kernel_rfl) (want_by rfl rfl c_1) rfl (fun _ c201 => q_load to_5 rfl (Blk.cell c201 rfl)) ?_
  refine HA.val (k := 13) (v := .pointer (some ⟨b_1, 1, none⟩)) rfl rfl (by kernel_rfl) (by kernel_rfl) (want_by rfl rfl c_1) rfl (fun _ c201 => q_fieldAddr fa_28_1 rfl rfl) ?_
  refine HA.val (k := 14) (v := .pointer (some ⟨b_1, 4, none⟩)) rfl rfl (by kernel_rfl) (by kernel_rfl) (want_by rfl rfl c_1) rfl (fun _ c201 => q_idxA (o := 1) (t := 3) tr_26 rfl rfl ⟨by decide, by decide⟩) ?_
  refine HA.val (k := 15) (v := .int .u8 (b8 a.2 3)) rfl rfl (by kernel_rfl) (by kernel_rfl) (want_by rfl rfl c_1) rfl (fun _ c201 => q_load to_5 rfl (Blk.cell c201 rfl)) ?_
  refine HA.one (k := 16) ⟨(hS.box 0 rfl), (Go.Wk.at_nil _ _)⟩ (by kernel_rfl) ?_
  refine HS.call rfl (want_by rfl rfl c_1) rfl (ec en_101 rfl rfl) (addr_Ip4_walk (fr := (Ow.box b_1 28 (e_api_Addr a).toArray :: fr)) (b8 a.2 0) (b8 a.2 1) (b8 a.2 2) (b8 a.2 3) hS hM) ?_
  rintro _ h_2 ⟨F_1, r_2, rfl, hk, hS, hM⟩
  replace hK := hK.trans hk
  refine HA.val (k := 17) (v := .bool (decide ((a : T_api_Addr) = r_2))) rfl rfl (by kernel_rfl) (by kernel_rfl) (want_by rfl rfl c_1) rfl (fun _ c201 => q_eqlAgg (a := a) (b := r_2) (fun a b w => teq_28 9997 a b w) (by kernel_rfl) rfl rfl rfl rfl) ?_
  refine HA.val (k := 18) (v := .bool (decide ((a : T_api_Addr) = r_2))) rfl rfl (by kernel_rfl) (by kernel_rfl) (want_none) rfl (fun _ c201 => q_pickK false rfl c_1 rfl) ?_
  refine HA.val (k := 19) (v := .bool (decide ((a : T_api_Addr) = r_2))) rfl rfl (by kernel_rfl) (by kernel_rfl) (want_none) rfl (fun _ c201 => q_assign rfl) ?_
  refine HA.nil ⟨(hS.box 0 rfl), (Go.Wk.at_nil _ _)⟩ (by kernel_rfl) (thenQ_normal (?_))
  refine HW.ret (?_)
  refine ⟨.inr rfl, .bool (decide ((a : T_api_Addr) = r_2)), res1 rfl (rt rfl), ?_⟩
  replace hS : St F_1 (fr) h_2 := hS.perm2 [] 1 rfl rfl
  exact ⟨F_1, decide ((a : T_api_Addr) = r_2), rfl, hK, hS, hM⟩
def addr_group_W (a : T_api_Addr) (Q : Bool → Prop) : Prop :=
 (a.1 = true → Q (decide ((b8 a.2 0) = 255))) ∧ (a.1 = false → Q (decide (((b8 a.2 0).fdiv (2 ^ (min (4 : Int).toNat IntKind.u8.bits))) = 14)))
theorem addr_group_walk {F : Fz} {fr : List Ow} {h0 : Heap} (a : T_api_Addr) (hS : St F (fr) h0)  {Q : Bool → Prop} (hM : addr_group_W a Q) :
  HC Tryz.prog 102 #[.agg (e_api_Addr a).toArray] h0 fun u h' => ∃ (F' : Fz) (r_1 : Bool), u = .bool r_1 ∧ Kp F h0 F' h' ∧ St F' (fr) h' ∧ Q r_1 := by
 unfold addr_group_W at hM
 have hK := Kp.refl F h0
 refine HC.of_HW (n := 14) Tryz.func102 rfl rfl (Nat.le_of_ble_eq_true rfl) ?_
 refine HW.seq ?_
 refine HW.region ?_
 refine HO.eff (want_none) rfl (st_box (c := (e_api_Addr a).toArray) (k' := 17) hS rfl rfl) ?_
 rintro _ h_1 ⟨b_1, rfl, hS, hk⟩
 replace hK := hK.trans hk
 refine oA (.bool false) rfl rfl ?_
 refine HO.nil (thenQ_normal (?_))
 refine HW.seq ?_
 refine HW.seq ?_
 refine HW.region ?_
 refine oV (.pointer (some ⟨b_1, 0, none⟩)) (q_fieldAddr fa_28_0 rfl rfl) rfl ?_
 refine oV (.bool a.1) (q_load to_4 rfl (Blk.cell (hS.box 0 rfl) rfl)) rfl ?_
 refine HO.nil (thenQ_normal (?_))
 refine HW.cond a.1 rfl (fun c_1 => ?_) (fun c_1 => ?_)
 ·
  replace hM := hM.1 c_1
  refine HW.seq ?_
  refine HW.region ?_
  refine oV (.pointer (some ⟨b_1, 1, none⟩)) (q_fieldAddr fa_28_1 rfl rfl) rfl ?_
  refine oV (.pointer (some ⟨b_1, 1, none⟩)) (q_idxA (o := 1) (t := 0) tr_26 rfl rfl ⟨by decide, by decide⟩) rfl ?_
  refine oV (.int .u8 (b8 a.2 0)) (q_load to_5 rfl (Blk.cell (hS.box 0 rfl) rfl)) rfl ?_
  refine oV (.bool (decide ((b8 a.2 0) = 255))) (q_eql rfl rfl) rfl ?_
  refine oA (.bool (decide ((b8 a.2 0) = 255))) rfl rfl ?_
  refine HO.nil (thenQ_normal (?_))
  refine HW.ret (thenQ_ret (?_))
  refine ⟨.inr rfl, .bool (decide ((b8 a.2 0) = 255)), res1 rfl (rt rfl), ?_⟩
  replace hS : St F (fr) h_1 := hS.perm2 [] 1 rfl rfl
  exact ⟨F, decide ((b8 a.2 0) = 255), rfl, hK, hS, hM⟩
 ·
  replace hM := hM.2 c_1
  refine HW.skip (thenQ_normal (?_))
  refine HW.seq ?_
  refine HW.region ?_
  refine oV (.pointer (some ⟨b_1, 1, none⟩)) (q_fieldAddr fa_28_1 rfl rfl) rfl ?_
  refine oV (.pointer (some ⟨b_1, 1, none⟩)) (q_idxA (o := 1) (t := 0) tr_26 rfl rfl ⟨by decide, by decide⟩) rfl ?_
  refine oV (.int .u8 (b8 a.2 0)) (q_load to_5 rfl (Blk.cell (hS.box 0 rfl) rfl)) rfl ?_
  refine oV (.int .u8 ((b8 a.2 0).fdiv (2 ^ (min (4 : Int).toNat IntKind.u8.bits)))) (q_shr rfl rfl (by decide) rfl) rfl ?_
  refine oV (.bool (decide (((b8 a.2 0).fdiv (2 ^ (min (4 : Int).toNat IntKind.u8.bits))) = 14))) (q_eql rfl rfl) rfl ?_
  refine oA (.bool (decide (((b8 a.2 0).fdiv (2 ^ (min (4 : Int).toNat IntKind.u8.bits))) = 14))) rfl rfl ?_
  refine HO.nil (thenQ_normal (?_))
  refine HW.ret (?_)
  refine ⟨.inr rfl, .bool (decide (((b8 a.2 0).fdiv (2 ^ (min (4 : Int).toNat IntKind.u8.bits))) = 14)), res1 rfl (rt rfl), ?_⟩
  replace hS : St F (fr) h_1 := hS.perm2 [] 1 rfl rfl
  exact ⟨F, decide (((b8 a.2 0).fdiv (2 ^ (min (4 : Int).toNat IntKind.u8.bits))) = 14), rfl, hK, hS, hM⟩
def addr_Group_W (a : T_api_Addr) (Q : Bool → Prop) : Prop :=
 addr_group_W a (fun r_2 => Q r_2)
theorem addr_Group_walk {F : Fz} {fr : List Ow} {h0 : Heap} (a : T_api_Addr) (hS : St F (fr) h0)  {Q : Bool → Prop} (hM : addr_Group_W a Q) :
  HC Tryz.prog 49 #[.agg (e_api_Addr a).toArray] h0 fun u h' => ∃ (F' : Fz) (r_1 : Bool), u = .bool r_1 ∧ Kp F h0 F' h' ∧ St F' (fr) h' ∧ Q r_1 := by
 unfold addr_Group_W at hM
 have hK := Kp.refl F h0
 refine HC.of_HW (n := 5) Tryz.func49 rfl rfl (Nat.le_of_ble_eq_true rfl) ?_
 refine HW.seq ?_
 refine HW.region ?_
 refine HO.eff (want_none) rfl (st_box (c := (e_api_Addr a).toArray) (k' := 17) hS rfl rfl) ?_
 rintro _ h_1 ⟨b_1, rfl, hS, hk⟩
 replace hK := hK.trans hk
 refine oA (.bool false) rfl rfl ?_
 refine HO.nil (thenQ_normal (?_))
 refine HW.seq ?_
 refine HW.region ?_
 refine oV (.agg (e_api_Addr a).toArray) (q_loadAgg (cs := (e_api_Addr a)) ta_28 rfl rfl (Blk.cells (k := 17) (hS.box 0 rfl) rfl)) rfl ?_
 refine HO.call (want_none) rfl (ec en_102 rfl rfl) (addr_group_walk (fr := (Ow.box b_1 28 (e_api_Addr a).toArray :: fr)) a hS hM) ?_
 rintro _ h_2 ⟨F_1, r_2, rfl, hk, hS, hM⟩
 replace hK := hK.trans hk
 refine oA (.bool r_2) rfl rfl ?_
 refine HO.nil (thenQ_normal (?_))
 refine HW.ret (?_)
 refine ⟨.inr rfl, .bool r_2, res1 rfl (rt rfl), ?_⟩
 replace hS : St F_1 (fr) h_2 := hS.perm2 [] 1 rfl rfl
 exact ⟨F_1, r_2, rfl, hK, hS, hM⟩
def internal_stringslite_HasPrefix_W (s1 : Str) (prefix1 : Str) (Q : Bool → Prop) : Prop :=
 ((prefix1.length : Int) ≤ (s1.length : Int) → ((0 : Int) ≤ (prefix1.length : Int) ∧ (prefix1.length : Int) ≤ (s1.length : Int)) ∧ (Q (decide ((cut s1 0 (prefix1.length : Int) : Str) = prefix1)))) ∧ (¬ ((prefix1.length : Int) ≤ (s1.length : Int)) → Q false)
theorem internal_stringslite_HasPrefix_walk {F : Fz} {fr : List Ow} {h0 : Heap} (s1 : Str) (prefix1 : Str) (hS : St F (fr) h0)  {Q : Bool → Prop} (hM : internal_stringslite_HasPrefix_W s1 prefix1 Q) :
  HC Tryz.prog 166 #[.string (bs s1), .string (bs prefix1)] h0 fun u h' => ∃ (F' : Fz) (r_1 : Bool), u = .bool r_1 ∧ Kp F h0 F' h' ∧ St F' (fr) h' ∧ Q r_1 := by
 unfold internal_stringslite_HasPrefix_W at hM
 have hK := Kp.refl F h0
 refine HC.of_HW (n := 18) Tryz.func166 rfl rfl (Nat.le_of_ble_eq_true rfl) ?_
 refine HW.seq ?_
 refine HW.region ?_
 refine oA (.bool false) rfl rfl ?_
 refine HO.nil (thenQ_normal (?_))
 refine HW.seq ?_
 refine HW.region ?_
 refine oM (.string (bs s1)) rfl rfl ?_
 refine oV (.int .i64 (s1.length : Int)) (q_lenT Tryz.underlying9 rfl rfl) rfl ?_
 refine oM (.string (bs prefix1)) rfl rfl ?_
 refine oV (.int .i64 (prefix1.length : Int)) (q_lenT Tryz.underlying9 rfl rfl) rfl ?_
 refine oV (.bool (decide ((prefix1.length : Int) ≤ (s1.length : Int)))) (q_geq rfl rfl) rfl ?_
 refine oM (.bool (decide ((prefix1.length : Int) ≤ (s1.length : Int)))) rfl rfl ?_
 rcases Bool.eq_false_or_eq_true (decide ((prefix1.length : Int) ≤ (s1.length : Int))) with c_1 | c_1
 ·
  replace hM := hM.1 (of_decide_eq_true c_1)
  refine HO.val (v := .string (bs s1)) (want_by rfl rfl c_1) rfl (q_move rfl) ?_
  refine HO.val (v := .string (bs prefix1)) (want_by rfl rfl c_1) rfl (q_move rfl) ?_
  refine HO.val (v := .int .i64 (prefix1.length : Int)) (want_by rfl rfl c_1) rfl (q_lenT Tryz.underlying9 rfl rfl) ?_
  obtain ⟨ho_1, hM⟩ := hM
  refine HO.val (v := .string (bs (cut s1 0 (prefix1.length : Int)))) (want_by rfl rfl c_1) rfl (q_strH Tryz.underlying9 rfl rfl ho_1) ?_
  refine HO.val (v := .string (bs prefix1)) (want_by rfl rfl c_1) rfl (q_move rfl) ?_
  refine HO.val (v := .bool (decide ((cut s1 0 (prefix1.length : Int) : Str) = prefix1))) (want_by rfl rfl c_1) rfl (q_eqlT rfl rfl) ?_
  refine oV (.bool (decide ((cut s1 0 (prefix1.length : Int) : Str) = prefix1))) (q_pickK true rfl c_1 rfl) rfl ?_
  refine oA (.bool (decide ((cut s1 0 (prefix1.length : Int) : Str) = prefix1))) rfl rfl ?_
  refine HO.nil (thenQ_normal (?_))
  refine HW.ret (?_)
  refine ⟨.inr rfl, .bool (decide ((cut s1 0 (prefix1.length : Int) : Str) = prefix1)), res1 rfl (rt rfl), ?_⟩
  exact ⟨F, decide ((cut s1 0 (prefix1.length : Int) : Str) = prefix1), rfl, hK, hS, hM⟩
 ·
  replace hM := hM.2 (of_decide_eq_false c_1)
  refine HO.past (past_by rfl rfl c_1) rfl ?_
  refine HO.past (past_by rfl rfl c_1) rfl ?_
  refine HO.past (past_by rfl rfl c_1) rfl ?_
  refine HO.past (past_by rfl rfl c_1) rfl ?_
  refine HO.past (past_by rfl rfl c_1) rfl ?_
  refine HO.past (past_by rfl rfl c_1) rfl ?_
  refine oV (.bool false) (q_pickK false rfl c_1 rfl) rfl ?_
  refine oA (.bool false) rfl rfl ?_
  refine HO.nil (thenQ_normal (?_))
  refine HW.ret (?_)
  refine ⟨.inr rfl, .bool false, res1 rfl (rt rfl), ?_⟩
  exact ⟨F, false, rfl, hK, hS, hM⟩
def strings_HasPrefix_W (s1 : Str) (prefix1 : Str) (Q : Bool → Prop) : Prop :=
 internal_stringslite_HasPrefix_W s1 prefix1 (fun r_2 => Q r_2)
theorem strings_HasPrefix_walk {F : Fz} {fr : List Ow} {h0 : Heap} (s1 : Str) (prefix1 : Str) (hS : St F (fr) h0)  {Q : Bool → Prop} (hM : strings_HasPrefix_W s1 prefix1 Q) :
  HC Tryz.prog 156 #[.string (bs s1), .string (bs prefix1)] h0 fun u h' => ∃ (F' : Fz) (r_1 : Bool), u = .bool r_1 ∧ Kp F h0 F' h' ∧ St F' (fr) h' ∧ Q r_1 := by
 unfold strings_HasPrefix_W at hM
 have hK := Kp.refl F h0
 refine HC.of_HW (n := 8) Tryz.func156 rfl rfl (Nat.le_of_ble_eq_true rfl) ?_
 refine HW.seq ?_
 refine HW.region ?_
 refine oA (.bool false) rfl rfl ?_
 refine HO.nil (thenQ_normal (?_))
 refine HW.seq ?_
 refine HW.region ?_
 refine oM (.string (bs s1)) rfl rfl ?_
 refine oM (.string (bs prefix1)) rfl rfl ?_
 refine HO.call (want_none) rfl (ec en_166 rfl rfl) (internal_stringslite_HasPrefix_walk (fr := (fr)) s1 prefix1 hS hM) ?_
 rintro _ h_1 ⟨F_1, r_2, rfl, hk, hS, hM⟩
 replace hK := hK.trans hk
 refine oA (.bool r_2) rfl rfl ?_
 refine HO.nil (thenQ_normal (?_))
 refine HW.ret (?_)
 refine ⟨.inr rfl, .bool r_2, res1 rfl (rt rfl), ?_⟩
 exact ⟨F_1, r_2, rfl, hK, hS, hM⟩
def addr_begins_W (a : T_api_Addr) (b : List UInt8) (Q : Bool → Prop) : Prop :=
 strings_HasPrefix_W (cut a.2.1 0 16) b (fun r_2 => Q r_2)
theorem addr_begins_walk {F : Fz} {fr : List Ow} {h0 : Heap} (a : T_api_Addr) (b : List UInt8) (vb : Value) (hS : St F (fr) h0) (hL_b : SliceF F h0 1 enc8 vb b) {Q : Bool → Prop} (hM : addr_begins_W a b Q) :
  HC Tryz.prog 138 #[.agg (e_api_Addr a).toArray, vb] h0 fun u h' => ∃ (F' : Fz) (r_1 : Bool), u = .bool r_1 ∧ Kp F h0 F' h' ∧ St F' (fr) h' ∧ (SliceF F' h' 1 enc8 vb b) ∧ Q r_1 := by
 unfold addr_begins_W at hM
 have hK := Kp.refl F h0
 refine HC.of_HW (n := 11) Tryz.func138 rfl rfl (Nat.le_of_ble_eq_true rfl) ?_
 refine HW.seq ?_
 refine HW.region ?_
 refine HO.eff (want_none) rfl (st_box (c := (e_api_Addr a).toArray) (k' := 17) hS rfl rfl) ?_
 rintro _ h_1 ⟨b_1, rfl, hS, hk⟩
 replace hK := hK.trans hk
 replace hL_b := hL_b.kp hk
 refine oA (.bool false) rfl rfl ?_
 refine HO.nil (thenQ_normal (?_))
 refine HW.seq ?_
 refine HW.regionA 7 mixed (fun h => (SliceIs h 1 enc8 vb b) ∧ (Blk h b_1 (.cells (e_api_Addr a).toArray 28 (0, 0)))) [] (by kernel_rfl) ?_
 refine HA.val (k := 0) (v := .pointer (some ⟨b_1, 1, none⟩)) rfl rfl (by kernel_rfl) (by kernel_rfl) (want_none) rfl (fun _ ⟨hL_b, c201⟩ => q_fieldAddr fa_28_1 rfl rfl) ?_
 refine HA.val (k := 1) (v := arrV b_1 1 16 0 16) rfl rfl (by kernel_rfl) (by kernel_rfl) (want_none) rfl (fun _ ⟨hL_b, c201⟩ => q_sliceA (o := 1) (lo := 0) (hi := 16) (kl := .i64) (kh := .i64) tr_26 rfl (.inl ⟨rfl, rfl⟩) (.inl ⟨rfl, rfl⟩) ⟨by decide, by decide, by decide⟩) ?_
 refine HA.val (k := 2) (v := .string (bs (cut a.2.1 0 16))) rfl rfl (by kernel_rfl) (by kernel_rfl) (want_none) rfl (fun _ ⟨hL_b, c201⟩ => q_bytesStr ts_184 Tryz.underlying5 Tryz.underlying9 (arrSl (o := 1) (n := 16) (X := a.2) (lo := 0) (hi := 16) c201 rfl ⟨by decide, by decide, by decide⟩ (by decide)) rfl) ?_
 refine HA.val (k := 3) (v := vb) rfl rfl (by kernel_rfl) (by kernel_rfl) (want_none) rfl (fun _ ⟨hL_b, c201⟩ => q_move rfl) ?_
 refine HA.val (k := 4) (v := .string (bs b)) rfl rfl (by kernel_rfl) (by kernel_rfl) (want_none) rfl (fun _ ⟨hL_b, c201⟩ => q_bytesStr ts_184 Tryz.underlying5 Tryz.underlying9 hL_b rfl) ?_
 refine HA.one (k := 5) ⟨⟨hL_b.is, (hS.box 0 rfl)⟩, (Go.Wk.at_nil _ _)⟩ (by kernel_rfl) ?_
 refine HS.call rfl (want_none) rfl (ec en_156 rfl rfl) (strings_HasPrefix_walk (fr := (Ow.box b_1 28 (e_api_Addr a).toArray :: fr)) (cut a.2.1 0 16) b hS hM) ?_
 rintro _ h_2 ⟨F_1, r_2, rfl, hk, hS, hM⟩
 replace hK := hK.trans hk
 replace hL_b := hL_b.kp hk
 refine HA.val (k := 6) (v := .bool r_2) rfl rfl (by kernel_rfl) (by kernel_rfl) (want_none) rfl (fun _ ⟨hL_b, c201⟩ => q_assign rfl) ?_
 refine HA.nil ⟨⟨hL_b.is, (hS.box 0 rfl)⟩, (Go.Wk.at_nil _ _)⟩ (by kernel_rfl) (thenQ_normal (?_))
 refine HW.ret (?_)
 refine ⟨.inr rfl, .bool r_2, res1 rfl (rt rfl), ?_⟩
 replace hS : St F_1 (fr) h_2 := hS.perm2 [] 1 rfl rfl
 exact ⟨F_1, r_2, rfl, hK, hS, hL_b, hM⟩
def addr_scope_W (a : T_api_Addr) (Q : Int → Prop) : Prop :=
 addr_group_W a (fun r_2 => ((!r_2) = true → Q 0) ∧ ((!r_2) = false → (a.1 = true → (I64 (bits .and .u8 (b8 a.2 1) 15)) ∧ (Q (bits .and .u8 (b8 a.2 1) 15))) ∧ (a.1 = false → addr_begins_W a ([(224 : UInt8), (0 : UInt8), (0 : UInt8)] : List UInt8) (fun r_3 => (r_3 = true → Q 2) ∧ (r_3 = false → addr_begins_W a ([(239 : UInt8), (255 : UInt8)] : List UInt8) (fun r_4 => (r_4 = true → Q 3) ∧ (r_4 = false → ((b8 a.2 0) = 239 → (((b8 a.2 1).fdiv (2 ^ (min (2 : Int).toNat IntKind.u8.bits))) = 48 → Q 8) ∧ (¬ (((b8 a.2 1).fdiv (2 ^ (min (2 : Int).toNat IntKind.u8.bits))) = 48) → Q 14)) ∧ (¬ ((b8 a.2 0) = 239) → Q 14))))))))
theorem addr_scope_walk {F : Fz} {fr : List Ow} {h0 : Heap} (a : T_api_Addr) (hS : St F (fr) h0)  {Q : Int → Prop} (hM : addr_scope_W a Q) :
  HC Tryz.prog 103 #[.agg (e_api_Addr a).toArray] h0 fun u h' => ∃ (F' : Fz) (r_1 : Int), u = .int .i64 r_1 ∧ Kp F h0 F' h' ∧ St F' (fr) h' ∧ Q r_1 := by
 unfold addr_scope_W at hM
 have hK := Kp.refl F h0
 refine HC.of_HW (n := 35) Tryz.func103 rfl rfl (Nat.le_of_ble_eq_true rfl) ?_
 refine HW.seq ?_
 refine HW.region ?_
 refine HO.eff (want_none) rfl (st_box (c := (e_api_Addr a).toArray) (k' := 17) hS rfl rfl) ?_
 rintro _ h_1 ⟨b_1, rfl, hS, hk⟩
 replace hK := hK.trans hk
 refine oA (.int .i64 0) rfl rfl ?_
 refine HO.nil (thenQ_normal (?_))
 refine HW.seq ?_
 refine HW.block ?_
 refine HW.seq ?_
 refine HW.region ?_
 refine oV (.agg (e_api_Addr a).toArray) (q_loadAgg (cs := (e_api_Addr a)) ta_28 rfl rfl (Blk.cells (k := 17) (hS.box 0 rfl) rfl)) rfl ?_
 refine HO.call (want_none) rfl (ec en_102 rfl rfl) (addr_group_walk (fr := (Ow.box b_1 28 (e_api_Addr a).toArray :: fr)) a hS hM) ?_
 rintro _ h_2 ⟨F_1, r_2, rfl, hk, hS, hM⟩
 replace hK := hK.trans hk
 refine oV (.bool (!r_2)) (q_not rfl) rfl ?_
 refine oA (.bool (!r_2)) rfl rfl ?_
 refine HO.nil (thenQ_normal (?_))
 refine HW.cond (!r_2) rfl (fun c_1 => ?_) (fun c_1 => ?_)
 ·
  replace hM := hM.1 c_1
  refine HW.seq ?_
  refine HW.region ?_
  refine oA (.int .i64 0) rfl rfl ?_
  refine HO.nil (thenQ_normal (?_))
  refine HW.ret (blockQ_ret (thenQ_ret (?_)))
  refine ⟨.inr rfl, .int .i64 0, res1 rfl (rt rfl), ?_⟩
  replace hS : St F_1 (fr) h_2 := hS.perm2 [] 1 rfl rfl
  exact ⟨F_1, 0, rfl, hK, hS, hM⟩
 ·
  replace hM := hM.2 c_1
  refine HW.seq ?_
  refine HW.region ?_
  refine oV (.pointer (some ⟨b_1, 0, none⟩)) (q_fieldAddr fa_28_0 rfl rfl) rfl ?_
  refine oV (.bool a.1) (q_load to_4 rfl (Blk.cell (hS.box 0 rfl) rfl)) rfl ?_
  refine oA (.bool a.1) rfl rfl ?_
  refine HO.nil (thenQ_normal (?_))
  refine HW.cond a.1 rfl (fun c_2 => ?_) (fun c_2 => ?_)
  ·
   replace hM := hM.1 c_2
   refine HW.seq ?_
   refine HW.region ?_
   refine oV (.pointer (some ⟨b_1, 1, none⟩)) (q_fieldAddr fa_28_1 rfl rfl) rfl ?_
   refine oV (.pointer (some ⟨b_1, 2, none⟩)) (q_idxA (o := 1) (t := 1) tr_26 rfl rfl ⟨by decide, by decide⟩) rfl ?_
   refine oV (.int .u8 (b8 a.2 1)) (q_load to_5 rfl (Blk.cell (hS.box 0 rfl) rfl)) rfl ?_
   refine oV (.int .u8 (bits .and .u8 (b8 a.2 1) 15)) (q_bits (by simp) rfl rfl) rfl ?_
   obtain ⟨ho_1, hM⟩ := hM
   refine oV (.int .i64 (bits .and .u8 (b8 a.2 1) 15)) (q_convInt Tryz.underlying5 Tryz.underlying3 rfl (wrap_i64 ho_1.1 ho_1.2)) rfl ?_
   refine oA (.int .i64 (bits .and .u8 (b8 a.2 1) 15)) rfl rfl ?_
   refine HO.nil (thenQ_normal (?_))
   refine HW.ret (blockQ_ret (thenQ_ret (?_)))
   refine ⟨.inr rfl, .int .i64 (bits .and .u8 (b8 a.2 1) 15), res1 rfl (rt rfl), ?_⟩
   replace hS : St F_1 (fr) h_2 := hS.perm2 [] 1 rfl rfl
   exact ⟨F_1, bits .and .u8 (b8 a.2 1) 15, rfl, hK, hS, hM⟩
  ·
   replace hM := hM.2 c_2
   refine HW.seq ?_
   refine HW.region ?_
   refine oV (.agg (e_api_Addr a).toArray) (q_loadAgg (cs := (e_api_Addr a)) ta_28 rfl rfl (Blk.cells (k := 17) (hS.box 0 rfl) rfl)) rfl ?_
   refine HO.eff (want_none) rfl (st_lit (enc := enc8) (cells := #[.int .u8 224, .int .u8 0, .int .u8 0]) #[.int .u8 0, .int .u8 0, .int .u8 0] ([(224 : UInt8), (0 : UInt8), (0 : UInt8)] : List UInt8) hS tl_184 (by decide) (by decide) (by kernel_rfl) (by kernel_rfl) rfl (by intro x hx; rfl) rfl) ?_
   rintro _ h_3 ⟨b_2, rfl, hS, hk⟩
   replace hK := hK.trans hk
   replace hS : St F_1 (Ow.own 5 1 enc8 (.slice (some ⟨b_2, 0, none⟩) 3 3) ([(224 : UInt8), (0 : UInt8), (0 : UInt8)] : List UInt8) :: Ow.box b_1 28 (e_api_Addr a).toArray :: fr) h_3 := hS
   have hZ_1 := hS
   have hkz_1 := (hS.freeze).2
   replace hS := hS.freeze.1
   have hL_1 : SliceF (fun bz_ => F_1 bz_ ∨ (Ow.own 5 1 enc8 (.slice (some ⟨b_2, 0, none⟩) 3 3) ([(224 : UInt8), (0 : UInt8), (0 : UInt8)] : List UInt8)).foot bz_) h_3 1 enc8 (.slice (some ⟨b_2, 0, none⟩) 3 3) ([(224 : UInt8), (0 : UInt8), (0 : UInt8)] : List UInt8) := ⟨(hZ_1.own 0 rfl).slice, fun _ b hb => .inr hb⟩
   refine HO.call (want_none) rfl (ec en_138 rfl rfl) (addr_begins_walk (fr := (Ow.box b_1 28 (e_api_Addr a).toArray :: fr)) a ([(224 : UInt8), (0 : UInt8), (0 : UInt8)] : List UInt8) (.slice (some ⟨b_2, 0, none⟩) 3 3) hS hL_1 hM) ?_
   rintro _ h_4 ⟨F_2, r_3, rfl, hk, hS, _, hM⟩
   obtain ⟨hS, hk⟩ := hZ_1.back hk hS
   generalize (fun bz_ => F_2 bz_ ∧ ¬ (Ow.own 5 1 enc8 (.slice (some ⟨b_2, 0, none⟩) 3 3) ([(224 : UInt8), (0 : UInt8), (0 : UInt8)] : List UInt8)).foot bz_) = F_3 at hS hk
   replace hK := hK.trans hk
   refine oA (.bool r_3) rfl rfl ?_
   refine HO.nil (thenQ_normal (?_))
   refine HW.cond r_3 rfl (fun c_3 => ?_) (fun c_3 => ?_)
   ·
    replace hM := hM.1 c_3
    refine HW.seq ?_
    refine HW.region ?_
    refine oA (.int .i64 2) rfl rfl ?_
    refine HO.nil (thenQ_normal (?_))
    refine HW.ret (blockQ_ret (thenQ_ret (?_)))
    refine ⟨.inr rfl, .int .i64 2, res1 rfl (rt rfl), ?_⟩
    replace hS : St F_3 (fr) h_4 := hS.perm2 [] 2 rfl rfl
    exact ⟨F_3, 2, rfl, hK, hS, hM⟩
   ·
    replace hM := hM.2 c_3
    refine HW.seq ?_
    refine HW.region ?_
    refine oV (.agg (e_api_Addr a).toArray) (q_loadAgg (cs := (e_api_Addr a)) ta_28 rfl rfl (Blk.cells (k := 17) (hS.box 1 rfl) rfl)) rfl ?_
    refine HO.eff (want_none) rfl (st_lit (enc := enc8) (cells := #[.int .u8 239, .int .u8 255]) #[.int .u8 0, .int .u8 0] ([(239 : UInt8), (255 : UInt8)] : List UInt8) hS tl_184 (by decide) (by decide) (by kernel_rfl) (by kernel_rfl) rfl (by intro x hx; rfl) rfl) ?_
    rintro _ h_5 ⟨b_3, rfl, hS, hk⟩
    replace hK := hK.trans hk
    replace hS : St F_3 (Ow.own 5 1 enc8 (.slice (some ⟨b_3, 0, none⟩) 2 2) ([(239 : UInt8), (255 : UInt8)] : List UInt8) :: Ow.own 5 1 enc8 (.slice (some ⟨b_2, 0, none⟩) 3 3) ([(224 : UInt8), (0 : UInt8), (0 : UInt8)] : List UInt8) :: Ow.box b_1 28 (e_api_Addr a).toArray :: fr) h_5 := hS
    have hZ_2 := hS
    have hkz_2 := (hS.freeze).2
    replace hS := hS.freeze.1
    have hL_2 : SliceF (fun bz_ => F_3 bz_ ∨ (Ow.own 5 1 enc8 (.slice (some ⟨b_3, 0, none⟩) 2 2) ([(239 : UInt8), (255 : UInt8)] : List UInt8)).foot bz_) h_5 1 enc8 (.slice (some ⟨b_3, 0, none⟩) 2 2) ([(239 : UInt8), (255 : UInt8)] : List UInt8) := ⟨(hZ_2.own 0 rfl).slice, fun _ b hb => .inr hb⟩
    refine HO.call (want_none) rfl (ec en_138 rfl rfl) (addr_begins_walk (fr := (Ow.own 5 1 enc8 (.slice (some ⟨b_2, 0, none⟩) 3 3) ([(224 : UInt8), (0 : UInt8), (0 : UInt8)] : List UInt8) :: Ow.box b_1 28 (e_api_Addr a).toArray :: fr)) a ([(239 : UInt8), (255 : UInt8)] : List UInt8) (.slice (some ⟨b_3, 0, none⟩) 2 2) hS hL_2 hM) ?_
    rintro _ h_6 ⟨F_4, r_4, rfl, hk, hS, _, hM⟩
    obtain ⟨hS, hk⟩ := hZ_2.back hk hS
    generalize (fun bz_ => F_4 bz_ ∧ ¬ (Ow.own 5 1 enc8 (.slice (some ⟨b_3, 0, none⟩) 2 2) ([(239 : UInt8), (255 : UInt8)] : List UInt8)).foot bz_) = F_5 at hS hk
    replace hK := hK.trans hk
    refine oA (.bool r_4) rfl rfl ?_
    refine HO.nil (thenQ_normal (?_))
    refine HW.cond r_4 rfl (fun c_4 => ?_) (fun c_4 => ?_)
    ·
     replace hM := hM.1 c_4
     refine HW.seq ?_
     refine HW.region ?_
     refine oA (.int .i64 3) rfl rfl ?_
     refine HO.nil (thenQ_normal (?_))
     refine HW.ret (blockQ_ret (thenQ_ret (?_)))
     refine ⟨.inr rfl, .int .i64 3, res1 rfl (rt rfl), ?_⟩
     replace hS : St F_5 (fr) h_6 := hS.perm2 [] 3 rfl rfl
     exact ⟨F_5, 3, rfl, hK, hS, hM⟩
    ·
     replace hM := hM.2 c_4
     refine HW.seq ?_
     refine HW.region ?_
     refine oV (.pointer (some ⟨b_1, 1, none⟩)) (q_fieldAddr fa_28_1 rfl rfl) rfl ?_
     refine oV (.pointer (some ⟨b_1, 1, none⟩)) (q_idxA (o := 1) (t := 0) tr_26 rfl rfl ⟨by decide, by decide⟩) rfl ?_
     refine oV (.int .u8 (b8 a.2 0)) (q_load to_5 rfl (Blk.cell (hS.box 2 rfl) rfl)) rfl ?_
     refine oV (.bool (decide ((b8 a.2 0) = 239))) (q_eql rfl rfl) rfl ?_
     refine oM (.bool (decide ((b8 a.2 0) = 239))) rfl rfl ?_
     rcases Bool.eq_false_or_eq_true (decide ((b8 a.2 0) = 239)) with c_5 | c_5
     ·
      replace hM := hM.1 (of_decide_eq_true c_5)
      refine HO.val (v := .pointer (some ⟨b_1, 1, none⟩)) (want_by rfl rfl c_5) rfl (q_fieldAddr fa_28_1 rfl rfl) ?_
      refine HO.val (v := .pointer (some ⟨b_1, 2, none⟩)) (want_by rfl rfl c_5) rfl (q_idxA (o := 1) (t := 1) tr_26 rfl rfl ⟨by decide, by decide⟩) ?_
      refine HO.val (v := .int .u8 (b8 a.2 1)) (want_by rfl rfl c_5) rfl (q_load to_5 rfl (Blk.cell (hS.box 2 rfl) rfl)) ?_
      refine HO.val (v := .int .u8 ((b8 a.2 1).fdiv (2 ^ (min (2 : Int).toNat IntKind.u8.bits)))) (want_by rfl rfl c_5) rfl (q_shr rfl rfl (by decide) rfl) ?_
      refine HO.val (v := .bool (decide (((b8 a.2 1).fdiv (2 ^ (min (2 : Int).toNat IntKind.u8.bits))) = 48))) (want_by rfl rfl c_5) rfl (q_eql rfl rfl) ?_
      refine oV (.bool (decide (((b8 a.2 1).fdiv (2 ^ (min (2 : Int).toNat IntKind.u8.bits))) = 48))) (q_pickK true rfl c_5 rfl) rfl ?_
      refine oA (.bool (decide (((b8 a.2 1).fdiv (2 ^ (min (2 : Int).toNat IntKind.u8.bits))) = 48))) rfl rfl ?_
      refine HO.nil (thenQ_normal (?_))
      refine HW.cond (decide (((b8 a.2 1).fdiv (2 ^ (min (2 : Int).toNat IntKind.u8.bits))) = 48)) rfl (fun c_6 => ?_) (fun c_6 => ?_)
      ·
       replace hM := hM.1 (of_decide_eq_true c_6)
       refine HW.seq ?_
       refine HW.region ?_
       refine oA (.int .i64 8) rfl rfl ?_
       refine HO.nil (thenQ_normal (?_))
       refine HW.ret (blockQ_ret (thenQ_ret (?_)))
       refine ⟨.inr rfl, .int .i64 8, res1 rfl (rt rfl), ?_⟩
       replace hS : St F_5 (fr) h_6 := hS.perm2 [] 3 rfl rfl
       exact ⟨F_5, 8, rfl, hK, hS, hM⟩
      ·
       replace hM := hM.2 (of_decide_eq_false c_6)
       refine HW.skip (blockQ_normal (thenQ_normal (?_)))
       refine HW.seq ?_
       refine HW.region ?_
       refine oA (.int .i64 14) rfl rfl ?_
       refine HO.nil (thenQ_normal (?_))
       refine HW.ret (?_)
       refine ⟨.inr rfl, .int .i64 14, res1 rfl (rt rfl), ?_⟩
       replace hS : St F_5 (fr) h_6 := hS.perm2 [] 3 rfl rfl
       exact ⟨F_5, 14, rfl, hK, hS, hM⟩
     ·
      replace hM := hM.2 (of_decide_eq_false c_5)
      refine HO.past (past_by rfl rfl c_5) rfl ?_
      refine HO.past (past_by rfl rfl c_5) rfl ?_
      refine HO.past (past_by rfl rfl c_5) rfl ?_
      refine HO.past (past_by rfl rfl c_5) rfl ?_
      refine HO.past (past_by rfl rfl c_5) rfl ?_
      refine oV (.bool false) (q_pickK false rfl c_5 rfl) rfl ?_
      refine oA (.bool false) rfl rfl ?_
      refine HO.nil (thenQ_normal (?_))
      refine HW.condF rfl ?_
      refine HW.skip (blockQ_normal (thenQ_normal (?_)))
      refine HW.seq ?_
      refine HW.region ?_
      refine oA (.int .i64 14) rfl rfl ?_
      refine HO.nil (thenQ_normal (?_))
      refine HW.ret (?_)
      refine ⟨.inr rfl, .int .i64 14, res1 rfl (rt rfl), ?_⟩
      replace hS : St F_5 (fr) h_6 := hS.perm2 [] 3 rfl rfl
      exact ⟨F_5, 14, rfl, hK, hS, hM⟩
def addr_Local_W (a : T_api_Addr) (Q : Bool → Prop) : Prop :=
 addr_group_W a (fun r_2 => (r_2 = true → addr_scope_W a (fun r_3 => Q (decide (r_3 ≤ 2)))) ∧ (r_2 = false → Q false))
theorem addr_Local_walk {F : Fz} {fr : List Ow} {h0 : Heap} (a : T_api_Addr) (hS : St F (fr) h0)  {Q : Bool → Prop} (hM : addr_Local_W a Q) :
  HC Tryz.prog 50 #[.agg (e_api_Addr a).toArray] h0 fun u h' => ∃ (F' : Fz) (r_1 : Bool), u = .bool r_1 ∧ Kp F h0 F' h' ∧ St F' (fr) h' ∧ Q r_1 := by
 unfold addr_Local_W at hM
 have hK := Kp.refl F h0
 refine HC.of_HW (n := 10) Tryz.func50 rfl rfl (Nat.le_of_ble_eq_true rfl) ?_
 refine HW.seq ?_
 refine HW.region ?_
 refine HO.eff (want_none) rfl (st_box (c := (e_api_Addr a).toArray) (k' := 17) hS rfl rfl) ?_
 rintro _ h_1 ⟨b_1, rfl, hS, hk⟩
 replace hK := hK.trans hk
 refine oA (.bool false) rfl rfl ?_
 refine HO.nil (thenQ_normal (?_))
 refine HW.seq ?_
 refine HW.region ?_
 refine oV (.agg (e_api_Addr a).toArray) (q_loadAgg (cs := (e_api_Addr a)) ta_28 rfl rfl (Blk.cells (k := 17) (hS.box 0 rfl) rfl)) rfl ?_
 refine HO.call (want_none) rfl (ec en_102 rfl rfl) (addr_group_walk (fr := (Ow.box b_1 28 (e_api_Addr a).toArray :: fr)) a hS hM) ?_
 rintro _ h_2 ⟨F_1, r_2, rfl, hk, hS, hM⟩
 replace hK := hK.trans hk
 refine oM (.bool r_2) rfl rfl ?_
 rcases Bool.eq_false_or_eq_true r_2 with c_1 | c_1
 ·
  replace hM := hM.1 c_1
  refine HO.val (v := .agg (e_api_Addr a).toArray) (want_by rfl rfl c_1) rfl (q_loadAgg (cs := (e_api_Addr a)) ta_28 rfl rfl (Blk.cells (k := 17) (hS.box 0 rfl) rfl)) ?_
  refine HO.call (want_by rfl rfl c_1) rfl (ec en_103 rfl rfl) (addr_scope_walk (fr := (Ow.box b_1 28 (e_api_Addr a).toArray :: fr)) a hS hM) ?_
  rintro _ h_3 ⟨F_2, r_3, rfl, hk, hS, hM⟩
  replace hK := hK.trans hk
  refine HO.val (v := .bool (decide (r_3 ≤ 2))) (want_by rfl rfl c_1) rfl (q_leq rfl rfl) ?_
  refine oV (.bool (decide (r_3 ≤ 2))) (q_pickK true rfl c_1 rfl) rfl ?_
  refine oA (.bool (decide (r_3 ≤ 2))) rfl rfl ?_
  refine HO.nil (thenQ_normal (?_))
  refine HW.ret (?_)
  refine ⟨.inr rfl, .bool (decide (r_3 ≤ 2)), res1 rfl (rt rfl), ?_⟩
  replace hS : St F_2 (fr) h_3 := hS.perm2 [] 1 rfl rfl
  exact ⟨F_2, decide (r_3 ≤ 2), rfl, hK, hS, hM⟩
 ·
  replace hM := hM.2 c_1
  refine HO.past (past_by rfl rfl c_1) rfl ?_
  refine HO.past (past_by rfl rfl c_1) rfl ?_
  refine HO.past (past_by rfl rfl c_1) rfl ?_
  refine oV (.bool false) (q_pickK false rfl c_1 rfl) rfl ?_
  refine oA (.bool false) rfl rfl ?_
  refine HO.nil (thenQ_normal (?_))
  refine HW.ret (?_)
  refine ⟨.inr rfl, .bool false, res1 rfl (rt rfl), ?_⟩
  replace hS : St F_1 (fr) h_2 := hS.perm2 [] 1 rfl rfl
  exact ⟨F_1, false, rfl, hK, hS, hM⟩
def host_Host_kind_1_W (a : T_api_Addr) (c0_v_v6 : Bool) (c0_v_now : Int) (c0_v_want : List (T_api_Addr × T_api_Filter)) (c0_v_one : Int) (c0_v_two : Int) (Q : Bool → Prop) : Prop :=
 Q (!(a.1 == c0_v_v6))
theorem host_Host_kind_1_walk {F : Fz} {fr : List Ow} {h0 : Heap} (a : T_api_Addr) (c0_v_v6 : Bool) (c0_v_now : Int) (c0_v_want : List (T_api_Addr × T_api_Filter)) (c0_v_one : Int) (c0_v_two : Int) (bc0 : Nat) (bc0_v : Nat) (rc0_v_want : Nat) (hS : St F (fr) h0) (hN_c0_v_want : NfL nf_api_Filter F h0 (c0_v_want.map (·.2))) (hM_rc0_v_want : RoF (Ow.map rc0_v_want (fun (x : T_api_Addr) => .agg (e_api_Addr x).toArray) (fun (x : T_api_Filter) => .agg #[.bool x.1, x.2.1]) c0_v_want) F h0) (hB_bc0_v : RoF (Ow.box bc0_v 97 #[.bool c0_v_v6, .int .i64 c0_v_now, .map (some rc0_v_want), .int .i64 c0_v_one, .int .i64 c0_v_two]) F h0) (hB_bc0 : RoF (Ow.box bc0 42 #[.pointer (some ⟨bc0_v, 0, none⟩)]) F h0) {Q : Bool → Prop} (hM : host_Host_kind_1_W a c0_v_v6 c0_v_now c0_v_want c0_v_one c0_v_two Q) :
  HC Tryz.prog 105 #[.agg (e_api_Addr a).toArray, .pointer (some ⟨bc0, 0, none⟩)] h0 fun u h' => ∃ (F' : Fz) (r_1 : Bool), u = .bool r_1 ∧ Kp F h0 F' h' ∧ St F' (fr) h' ∧ (NfL nf_api_Filter F' h' (c0_v_want.map (·.2))) ∧ (RoF (Ow.map rc0_v_want (fun (x : T_api_Addr) => .agg (e_api_Addr x).toArray) (fun (x : T_api_Filter) => .agg #[.bool x.1, x.2.1]) c0_v_want) F' h') ∧ (RoF (Ow.box bc0_v 97 #[.bool c0_v_v6, .int .i64 c0_v_now, .map (some rc0_v_want), .int .i64 c0_v_one, .int .i64 c0_v_two]) F' h') ∧ (RoF (Ow.box bc0 42 #[.pointer (some ⟨bc0_v, 0, none⟩)]) F' h') ∧ Q r_1 := by
 unfold host_Host_kind_1_W at hM
 have hK := Kp.refl F h0
 refine HC.of_HW (n := 11) Tryz.func105 rfl rfl (Nat.le_of_ble_eq_true rfl) ?_
 refine HW.seq ?_
 refine HW.region ?_
 refine HO.eff (want_none) rfl (st_box (c := (e_api_Addr a).toArray) (k' := 17) hS rfl rfl) ?_
 rintro _ h_1 ⟨b_1, rfl, hS, hk⟩
 replace hK := hK.trans hk
 replace hN_c0_v_want := hN_c0_v_want.kp hk
 replace hM_rc0_v_want := hM_rc0_v_want.kp hk
 replace hB_bc0_v := hB_bc0_v.kp hk
 replace hB_bc0 := hB_bc0.kp hk
 refine oA (.bool false) rfl rfl ?_
 refine HO.nil (thenQ_normal (?_))
 refine HW.seq ?_
 refine HW.regionA 8 mixed (fun h => (NfI nf_api_Filter h (c0_v_want.map (·.2))) ∧ (MapIs h rc0_v_want (fun (x : T_api_Addr) => .agg (e_api_Addr x).toArray) (fun (x : T_api_Filter) => .agg #[.bool x.1, x.2.1]) c0_v_want) ∧ (Blk h bc0_v (.cells #[.bool c0_v_v6, .int .i64 c0_v_now, .map (some rc0_v_want), .int .i64 c0_v_one, .int .i64 c0_v_two] 97 (0, 0))) ∧ (Blk h bc0 (.cells #[.pointer (some ⟨bc0_v, 0, none⟩)] 42 (0, 0))) ∧ (Blk h b_1 (.cells (e_api_Addr a).toArray 28 (0, 0)))) [] (by kernel_rfl) ?_
 refine HA.val (k := 0) (v := .pointer (some ⟨b_1, 0, none⟩)) rfl rfl (by kernel_rfl) (by kernel_rfl) (want_none) rfl (fun _ ⟨hN_c0_v_want, hM_rc0_v_want, hB_bc0_v, hB_bc0, c201⟩ => q_fieldAddr fa_28_0 rfl rfl) ?_
 refine HA.val (k := 1) (v := .bool a.1) rfl rfl (by kernel_rfl) (by kernel_rfl) (want_none) rfl (fun _ ⟨hN_c0_v_want, hM_rc0_v_want, hB_bc0_v, hB_bc0, c201⟩ => q_load to_4 rfl (Blk.cell c201 rfl)) ?_
 refine HA.val (k := 2) (v := .pointer (some ⟨bc0_v, 0, none⟩)) rfl rfl (by kernel_rfl) (by kernel_rfl) (want_none) rfl (fun _ ⟨hN_c0_v_want, hM_rc0_v_want, hB_bc0_v, hB_bc0, c201⟩ => q_load to_42 rfl (Blk.cell hB_bc0 rfl)) ?_
 refine HA.val (k := 3) (v := .pointer (some ⟨bc0_v, 0, none⟩)) rfl rfl (by kernel_rfl) (by kernel_rfl) (want_none) rfl (fun _ ⟨hN_c0_v_want, hM_rc0_v_want, hB_bc0_v, hB_bc0, c201⟩ => q_nilCheck rfl) ?_
 refine HA.val (k := 4) (v := .pointer (some ⟨bc0_v, 0, none⟩)) rfl rfl (by kernel_rfl) (by kernel_rfl) (want_none) rfl (fun _ ⟨hN_c0_v_want, hM_rc0_v_want, hB_bc0_v, hB_bc0, c201⟩ => q_fieldAddr fa_97_0 rfl rfl) ?_
 refine HA.val (k := 5) (v := .bool c0_v_v6) rfl rfl (by kernel_rfl) (by kernel_rfl) (want_none) rfl (fun _ ⟨hN_c0_v_want, hM_rc0_v_want, hB_bc0_v, hB_bc0, c201⟩ => q_load to_4 rfl (Blk.cell hB_bc0_v rfl)) ?_
 refine HA.val (k := 6) (v := .bool (!(a.1 == c0_v_v6))) rfl rfl (by kernel_rfl) (by kernel_rfl) (want_none) rfl (fun _ ⟨hN_c0_v_want, hM_rc0_v_want, hB_bc0_v, hB_bc0, c201⟩ => q_neqB Tryz.underlying4 rfl rfl) ?_
 refine HA.val (k := 7) (v := .bool (!(a.1 == c0_v_v6))) rfl rfl (by kernel_rfl) (by kernel_rfl) (want_none) rfl (fun _ ⟨hN_c0_v_want, hM_rc0_v_want, hB_bc0_v, hB_bc0, c201⟩ => q_assign rfl) ?_
 refine HA.nil ⟨⟨hN_c0_v_want.is, hM_rc0_v_want.mp, hB_bc0_v.box, hB_bc0.box, (hS.box 0 rfl)⟩, (Go.Wk.at_nil _ _)⟩ (by kernel_rfl) (thenQ_normal (?_))
 refine HW.ret (?_)
 refine ⟨.inr rfl, .bool (!(a.1 == c0_v_v6)), res1 rfl (rt rfl), ?_⟩
 replace hS : St F (fr) h_1 := hS.perm2 [] 1 rfl rfl
 exact ⟨F, !(a.1 == c0_v_v6), rfl, hK, hS, hN_c0_v_want, hM_rc0_v_want, hB_bc0_v, hB_bc0, hM⟩
def slices_IndexFunc_s_api_Addr_api_Addr_l1 (s1 : List T_api_Addr) (cf_f : T_api_Addr → Bool) (Q : Int → Prop) (K_1 : Int → Prop) (n_1 : Int) : Prop :=
 (n_1 < (s1.length : Int) → ((0 : Int) ≤ n_1 ∧ n_1 < (s1.length : Int)) ∧ (((cf_f (gi s1 n_1)) = true → Q n_1) ∧ ((cf_f (gi s1 n_1)) = false → (I64 (n_1 + 1)) ∧ (K_1 (n_1 + 1))))) ∧ (¬ (n_1 < (s1.length : Int)) → Q (-1))
def slices_IndexFunc_s_api_Addr_api_Addr_W (s1 : List T_api_Addr) (cf_f : T_api_Addr → Bool) (Q : Int → Prop) : Prop :=
 loopW (fun (K_1 : Int → Prop) (s : Int) => slices_IndexFunc_s_api_Addr_api_Addr_l1 s1 cf_f Q K_1 s) 0
theorem slices_IndexFunc_s_api_Addr_api_Addr_walk {F : Fz} {fr : List Ow} {h0 : Heap} (s1 : List T_api_Addr) (cf_f : T_api_Addr → Bool) (vs : Value) (g_f : Nat) (fs_f : Array Value) (cs_f : Array Value) (hS : St F (fr) h0) (hL_s1 : SliceF F h0 17 e_api_Addr vs s1) (hF_cf_f : FnP Tryz.prog F h0 g_f fs_f cs_f (fun x : T_api_Addr => [.agg (e_api_Addr x).toArray]) (fun x => .bool (cf_f x))) {Q : Int → Prop} (hM : slices_IndexFunc_s_api_Addr_api_Addr_W s1 cf_f Q) :
  HC Tryz.prog 139 #[vs, .func (.func g_f) fs_f cs_f] h0 fun u h' => ∃ (F' : Fz) (r_1 : Int), u = .int .i64 r_1 ∧ Kp F h0 F' h' ∧ St F' (fr) h' ∧ (SliceF F' h' 17 e_api_Addr vs s1) ∧ (FnP Tryz.prog F' h' g_f fs_f cs_f (fun x : T_api_Addr => [.agg (e_api_Addr x).toArray]) (fun x => .bool (cf_f x))) ∧ Q r_1 := by
 unfold slices_IndexFunc_s_api_Addr_api_Addr_W at hM
 have hK := Kp.refl F h0
 refine HC.of_HW (n := 19) Tryz.func139 rfl rfl (Nat.le_of_ble_eq_true rfl) ?_
 refine HW.seq ?_
 refine HW.region ?_
 refine oA (.int .i64 0) rfl rfl ?_
 refine HO.nil (thenQ_normal (?_))
 refine HW.seq ?_
 refine HW.seq ?_
 refine HW.region ?_
 refine oM (vs) rfl rfl ?_
 refine oV (.int .i64 (s1.length : Int)) (q_len ts_29 (shp hL_s1.is) rfl rfl) rfl ?_
 refine oM (.int .i64 0) rfl rfl ?_
 refine HO.nil (thenQ_normal (?_))
 refine HW.block ?_
 obtain ⟨I_1, m_1, hI_1, hR_1⟩ := hM
 refine HW.loop (S := Int) (fun n_1 f h => ∃ (F' : Fz), f 0 = vs ∧ f 1 = .func (.func g_f) fs_f cs_f ∧ f 4 = .int .i64 0 ∧ f 7 = .int .i64 (s1.length : Int) ∧ f 8 = .int .i64 n_1 ∧ Kp F h0 F' h ∧ St F' (fr) h ∧ (SliceF F' h 17 e_api_Addr vs s1) ∧ (FnP Tryz.prog F' h g_f fs_f cs_f (fun x : T_api_Addr => [.agg (e_api_Addr x).toArray]) (fun x => .bool (cf_f x))) ∧ I_1 n_1) m_1 0 ⟨F, rfl, rfl, rfl, rfl, rfl, hK, hS, hL_s1, hF_cf_f, hI_1⟩ ?_
 rintro n_1 f_1 h_1 ⟨F_1, e0, e1, e4, e7, e8, hK, hS, hL_s1, hF_cf_f, hI0⟩
 obtain ⟨K_1, hKe_1⟩ : ∃ K : Int → Prop, K = fun n_1' => I_1 n_1' ∧ m_1 n_1' < m_1 n_1 := ⟨_, rfl⟩
 have hM : slices_IndexFunc_s_api_Addr_api_Addr_l1 s1 cf_f Q K_1 n_1 := by rw [hKe_1]; exact hR_1 n_1 hI0
 unfold slices_IndexFunc_s_api_Addr_api_Addr_l1 at hM
 refine HW.fr [(0, vs), (1, .func (.func g_f) fs_f cs_f), (4, .int .i64 0), (7, .int .i64 (s1.length : Int)), (8, .int .i64 n_1)] ⟨e0, e1, e4, e7, e8, trivial⟩ ?_
 refine HW.seq ?_
 refine HW.region ?_
 refine oV (.bool (decide (n_1 < (s1.length : Int)))) (q_lss rfl rfl) rfl ?_
 refine HO.nil (thenQ_normal (?_))
 refine HW.seq ?_
 refine HW.cond (decide (n_1 < (s1.length : Int))) rfl (fun c_1 => ?_) (fun c_1 => ?_)
 ·
  replace hM := hM.1 (of_decide_eq_true c_1)
  refine HW.skip (thenQ_normal (?_))
  refine HW.seq ?_
  refine HW.block ?_
  refine HW.seq ?_
  refine HW.region ?_
  refine oM (.int .i64 n_1) rfl rfl ?_
  refine oA (.int .i64 n_1) rfl rfl ?_
  refine HO.nil (thenQ_normal (?_))
  refine HW.seq ?_
  refine HW.region ?_
  refine oM (.func (.func g_f) fs_f cs_f) rfl rfl ?_
  refine oM (vs) rfl rfl ?_
  refine oM (.int .i64 n_1) rfl rfl ?_
  obtain ⟨ho_1, hM⟩ := hM
  refine oV (elemPtr 17 vs (n_1).toNat) (q_idx ts_29 hL_s1.is rfl rfl ho_1) rfl ?_
  refine oV (.agg (e_api_Addr (gi s1 n_1)).toArray) (q_ldElemAgg (cs := (e_api_Addr (gi s1 n_1))) ta_28 hL_s1.is rfl ho_1 rfl) rfl ?_
  refine HO.call (want_none) rfl (hF_cf_f.ec (gi s1 n_1) rfl rfl) (hF_cf_f.hc (gi s1 n_1) hS) ?_
  rintro _ h_2 ⟨rfl, hS, hk⟩
  replace hK := hK.trans hk
  replace hL_s1 := hL_s1.kp hk
  replace hF_cf_f := hF_cf_f.kp hk
  refine HO.nil (thenQ_normal (?_))
  refine HW.cond (cf_f (gi s1 n_1)) rfl (fun c_2 => ?_) (fun c_2 => ?_)
  ·
   replace hM := hM.1 c_2
   refine HW.seq ?_
   refine HW.region ?_
   refine oM (.int .i64 n_1) rfl rfl ?_
   refine oA (.int .i64 n_1) rfl rfl ?_
   refine HO.nil (thenQ_normal (?_))
   refine HW.ret (blockQ_ret (thenQ_ret (thenQ_ret (blockQ_ret (thenQ_ret (?_))))))
   refine ⟨.inr rfl, .int .i64 n_1, res1 rfl (rt rfl), ?_⟩
   exact ⟨F_1, n_1, rfl, hK, hS, hL_s1, hF_cf_f, hM⟩
  ·
   replace hM := hM.2 c_2
   refine HW.skip (blockQ_normal (thenQ_normal (?_)))
   refine HW.region ?_
   obtain ⟨ho_2, hM⟩ := hM
   refine oV (.int .i64 (n_1 + 1)) (q_addN _ rfl rfl rfl ho_2.1 ho_2.2) rfl ?_
   refine oM (.int .i64 (n_1 + 1)) rfl rfl ?_
   refine HO.nil (thenQ_normal (?_))
   rw [hKe_1] at hM
   exact ⟨n_1 + 1, ⟨F_1, rfl, rfl, rfl, rfl, rfl, hK, hS, hL_s1, hF_cf_f, hM.1⟩, hM.2⟩
 ·
  replace hM := hM.2 (of_decide_eq_false c_1)
  refine HW.exit (thenQ_exit (thenQ_exit (blockQ_exit (thenQ_normal (?_)))))
  refine HW.seq ?_
  refine HW.region ?_
  refine oA (.int .i64 (-1)) rfl rfl ?_
  refine HO.nil (thenQ_normal (?_))
  refine HW.ret (?_)
  refine ⟨.inr rfl, .int .i64 (-1), res1 rfl (rt rfl), ?_⟩
  exact ⟨F_1, (-1), rfl, hK, hS, hL_s1, hF_cf_f, hM⟩
def slices_ContainsFunc_s_api_Addr_api_Addr_W (s1 : List T_api_Addr) (cf_f : T_api_Addr → Bool) (Q : Bool → Prop) : Prop :=
 slices_IndexFunc_s_api_Addr_api_Addr_W s1 cf_f (fun r_2 => Q (decide (0 ≤ r_2)))
theorem slices_ContainsFunc_s_api_Addr_api_Addr_walk {F : Fz} {fr : List Ow} {h0 : Heap} (s1 : List T_api_Addr) (cf_f : T_api_Addr → Bool) (vs : Value) (g_f : Nat) (fs_f : Array Value) (cs_f : Array Value) (hS : St F (fr) h0) (hL_s1 : SliceF F h0 17 e_api_Addr vs s1) (hF_cf_f : FnP Tryz.prog F h0 g_f fs_f cs_f (fun x : T_api_Addr => [.agg (e_api_Addr x).toArray]) (fun x => .bool (cf_f x))) {Q : Bool → Prop} (hM : slices_ContainsFunc_s_api_Addr_api_Addr_W s1 cf_f Q) :
  HC Tryz.prog 104 #[vs, .func (.func g_f) fs_f cs_f] h0 fun u h' => ∃ (F' : Fz) (r_1 : Bool), u = .bool r_1 ∧ Kp F h0 F' h' ∧ St F' (fr) h' ∧ (SliceF F' h' 17 e_api_Addr vs s1) ∧ (FnP Tryz.prog F' h' g_f fs_f cs_f (fun x : T_api_Addr => [.agg (e_api_Addr x).toArray]) (fun x => .bool (cf_f x))) ∧ Q r_1 := by
 unfold slices_ContainsFunc_s_api_Addr_api_Addr_W at hM
 have hK := Kp.refl F h0
 refine HC.of_HW (n := 9) Tryz.func104 rfl rfl (Nat.le_of_ble_eq_true rfl) ?_
 refine HW.seq ?_
 refine HW.region ?_
 refine oA (.bool false) rfl rfl ?_
 refine HO.nil (thenQ_normal (?_))
 refine HW.seq ?_
 refine HW.region ?_
 refine oM (vs) rfl rfl ?_
 refine oM (.func (.func g_f) fs_f cs_f) rfl rfl ?_
 refine HO.call (want_none) rfl (ec en_139 rfl rfl) (slices_IndexFunc_s_api_Addr_api_Addr_walk (fr := (fr)) s1 cf_f vs g_f fs_f cs_f hS hL_s1 hF_cf_f hM) ?_
 rintro _ h_1 ⟨F_1, r_2, rfl, hk, hS, _, _, hM⟩
 replace hK := hK.trans hk
 replace hL_s1 := hL_s1.kp hk
 replace hF_cf_f := hF_cf_f.kp hk
 refine oV (.bool (decide (0 ≤ r_2))) (q_geq rfl rfl) rfl ?_
 refine oA (.bool (decide (0 ≤ r_2))) rfl rfl ?_
 refine HO.nil (thenQ_normal (?_))
 refine HW.ret (?_)
 refine ⟨.inr rfl, .bool (decide (0 ≤ r_2)), res1 rfl (rt rfl), ?_⟩
 exact ⟨F_1, decide (0 ≤ r_2), rfl, hK, hS, hL_s1, hF_cf_f, hM⟩
def host_Host_kind_W (h_v6 : Bool) (h_now : Int) (h_want : List (T_api_Addr × T_api_Filter)) (h_one : Int) (h_two : Int) (l : List T_api_Addr) (Q : Bool → Prop) : Prop :=
 ∃ cf_1 : T_api_Addr → Bool, (∀ x0, host_Host_kind_1_W x0 h_v6 h_now h_want h_one h_two (fun r => r = cf_1 x0)) ∧ (slices_ContainsFunc_s_api_Addr_api_Addr_W l cf_1 (fun r_2 => Q (!r_2)))
theorem host_Host_kind_walk {F : Fz} {fr : List Ow} {h0 : Heap} (h_v6 : Bool) (h_now : Int) (h_want : List (T_api_Addr × T_api_Filter)) (h_one : Int) (h_two : Int) (l : List T_api_Addr) (bh : Nat) (rh_want : Nat) (vl : Value) (hS : St F (fr) h0) (hN_h_want : NfL nf_api_Filter F h0 (h_want.map (·.2))) (hM_rh_want : RoF (Ow.map rh_want (fun (x : T_api_Addr) => .agg (e_api_Addr x).toArray) (fun (x : T_api_Filter) => .agg #[.bool x.1, x.2.1]) h_want) F h0) (hB_bh : RoF (Ow.box bh 97 #[.bool h_v6, .int .i64 h_now, .map (some rh_want), .int .i64 h_one, .int .i64 h_two]) F h0) (hL_l : SliceF F h0 17 e_api_Addr vl l) {Q : Bool → Prop} (hM : host_Host_kind_W h_v6 h_now h_want h_one h_two l Q) :
  HC Tryz.prog 51 #[.pointer (some ⟨bh, 0, none⟩), vl] h0 fun u h' => ∃ (F' : Fz) (r_1 : Bool), u = .bool r_1 ∧ Kp F h0 F' h' ∧ St F' (fr) h' ∧ (NfL nf_api_Filter F' h' (h_want.map (·.2))) ∧ (RoF (Ow.map rh_want (fun (x : T_api_Addr) => .agg (e_api_Addr x).toArray) (fun (x : T_api_Filter) => .agg #[.bool x.1, x.2.1]) h_want) F' h') ∧ (RoF (Ow.box bh 97 #[.bool h_v6, .int .i64 h_now, .map (some rh_want), .int .i64 h_one, .int .i64 h_two]) F' h') ∧ (SliceF F' h' 17 e_api_Addr vl l) ∧ Q r_1 := by
 unfold host_Host_kind_W at hM
 have hK := Kp.refl F h0
 refine HC.of_HW (n := 9) Tryz.func51 rfl rfl (Nat.le_of_ble_eq_true rfl) ?_
 refine HW.seq ?_
 refine HW.region ?_
 refine HO.eff (want_none) rfl (st_box (c := #[.pointer (some ⟨bh, 0, none⟩)]) (k' := 1) hS rfl rfl) ?_
 rintro _ h_1 ⟨b_1, rfl, hS, hk⟩
 replace hK := hK.trans hk
 replace hN_h_want := hN_h_want.kp hk
 replace hM_rh_want := hM_rh_want.kp hk
 replace hB_bh := hB_bh.kp hk
 replace hL_l := hL_l.kp hk
 refine oA (.bool false) rfl rfl ?_
 refine HO.nil (thenQ_normal (?_))
 refine HW.seq ?_
 refine HW.region ?_
 refine oM (vl) rfl rfl ?_
 refine oV (.func (.func 105) #[] #[.pointer (some ⟨b_1, 0, none⟩)]) (q_makeFunc rfl rfl) rfl ?_
 replace hS : St F (Ow.box b_1 42 #[.pointer (some ⟨bh, 0, none⟩)] :: fr) h_1 := hS
 have hZ_1 := hS
 have hkz_1 := (hS.freeze).2
 replace hS := hS.freeze.1
 have hL_1 := hZ_1.lent
 obtain ⟨cf_1, hc_1, hM⟩ := hM
 have hF_1 : FnP Tryz.prog (fun bz_ => F bz_ ∨ (Ow.box b_1 42 #[.pointer (some ⟨bh, 0, none⟩)]).foot bz_) h_1 105 #[] #[.pointer (some ⟨b_1, 0, none⟩)] (fun x : T_api_Addr => [.agg (e_api_Addr x).toArray]) (fun x => .bool (cf_1 x)) := FnP.of en_105 (fun x h' hk_ => @HC.mono ⟨true⟩ _ _ _ _ _ _ (@host_Host_kind_1_walk ⟨true⟩ (allF h') [] h' x h_v6 h_now h_want h_one h_two b_1 bh rh_want (St.init h') ((hN_h_want.kp hkz_1).kp hk_) ((hM_rh_want.kp hkz_1).kp hk_) ((hB_bh.kp hkz_1).kp hk_) (hL_1.kp hk_) (fun r => r = cf_1 x) (hc_1 x)) (fun u h'' ⟨F', r, hu, k_, _, _, _, _, _, hr⟩ => ⟨by rw [hu, hr], F', k_⟩))
 refine HO.call (want_none) rfl (ec en_104 rfl rfl) (slices_ContainsFunc_s_api_Addr_api_Addr_walk (fr := (fr)) l cf_1 vl 105 (#[]) (#[.pointer (some ⟨b_1, 0, none⟩)]) hS (hL_l.kp hkz_1) hF_1 hM) ?_
 rintro _ h_2 ⟨F_1, r_2, rfl, hk, hS, _, _, hM⟩
 obtain ⟨hS, hk⟩ := hZ_1.back hk hS
 generalize (fun bz_ => F_1 bz_ ∧ ¬ (Ow.box b_1 42 #[.pointer (some ⟨bh, 0, none⟩)]).foot bz_) = F_2 at hS hk
 replace hK := hK.trans hk
 replace hN_h_want := hN_h_want.kp hk
 replace hM_rh_want := hM_rh_want.kp hk
 replace hB_bh := hB_bh.kp hk
 replace hL_l := hL_l.kp hk
 refine oV (.bool (!r_2)) (q_not rfl) rfl ?_
 refine oA (.bool (!r_2)) rfl rfl ?_
 refine HO.nil (thenQ_normal (?_))
 refine HW.ret (?_)
 refine ⟨.inr rfl, .bool (!r_2), res1 rfl (rt rfl), ?_⟩
 replace hS : St F_2 (fr) h_2 := hS.perm2 [] 1 rfl rfl
 exact ⟨F_2, !r_2, rfl, hK, hS, hN_h_want, hM_rh_want, hB_bh, hL_l, hM⟩
def addr_bytes_W (a : T_api_Addr) (Q : Str → Prop) : Prop :=
 (a.1 = true → Q (cut a.2.1 0 16)) ∧ (a.1 = false → Q (cut a.2.1 0 4))
theorem addr_bytes_walk {F : Fz} {fr : List Ow} {h0 : Heap} (a : T_api_Addr) (hS : St F (fr) h0)  {Q : Str → Prop} (hM : addr_bytes_W a Q) :
  HC Tryz.prog 141 #[.agg (e_api_Addr a).toArray] h0 fun u h' => ∃ (F' : Fz) (r_1 : Str), u = .string (bs r_1) ∧ Kp F h0 F' h' ∧ St F' (fr) h' ∧ Q r_1 := by
 unfold addr_bytes_W at hM
 have hK := Kp.refl F h0
 refine HC.of_HW (n := 11) Tryz.func141 rfl rfl (Nat.le_of_ble_eq_true rfl) ?_
 refine HW.seq ?_
 refine HW.region ?_
 refine HO.eff (want_none) rfl (st_box (c := (e_api_Addr a).toArray) (k' := 17) hS rfl rfl) ?_
 rintro _ h_1 ⟨b_1, rfl, hS, hk⟩
 replace hK := hK.trans hk
 refine oA (.string (bs [])) rfl rfl ?_
 refine HO.nil (thenQ_normal (?_))
 refine HW.seq ?_
 refine HW.seq ?_
 refine HW.region ?_
 refine oV (.pointer (some ⟨b_1, 0, none⟩)) (q_fieldAddr fa_28_0 rfl rfl) rfl ?_
 refine oV (.bool a.1) (q_load to_4 rfl (Blk.cell (hS.box 0 rfl) rfl)) rfl ?_
 refine HO.nil (thenQ_normal (?_))
 refine HW.cond a.1 rfl (fun c_1 => ?_) (fun c_1 => ?_)
 ·
  replace hM := hM.1 c_1
  refine HW.seq ?_
  refine HW.region ?_
  refine oV (.pointer (some ⟨b_1, 1, none⟩)) (q_fieldAddr fa_28_1 rfl rfl) rfl ?_
  refine oV (arrV b_1 1 16 0 16) (q_sliceA (o := 1) (lo := 0) (hi := 16) (kl := .i64) (kh := .i64) tr_26 rfl (.inl ⟨rfl, rfl⟩) (.inl ⟨rfl, rfl⟩) ⟨by decide, by decide, by decide⟩) rfl ?_
  refine oV (.string (bs (cut a.2.1 0 16))) (q_bytesStr ts_184 Tryz.underlying5 Tryz.underlying9 (arrSl (o := 1) (n := 16) (X := a.2) (lo := 0) (hi := 16) (hS.box 0 rfl) rfl ⟨by decide, by decide, by decide⟩ (by decide)) rfl) rfl ?_
  refine oA (.string (bs (cut a.2.1 0 16))) rfl rfl ?_
  refine HO.nil (thenQ_normal (?_))
  refine HW.ret (thenQ_ret (?_))
  refine ⟨.inr rfl, .string (bs (cut a.2.1 0 16)), res1 rfl (rt rfl), ?_⟩
  replace hS : St F (fr) h_1 := hS.perm2 [] 1 rfl rfl
  exact ⟨F, cut a.2.1 0 16, rfl, hK, hS, hM⟩
 ·
  replace hM := hM.2 c_1
  refine HW.skip (thenQ_normal (?_))
  refine HW.seq ?_
  refine HW.region ?_
  refine oV (.pointer (some ⟨b_1, 1, none⟩)) (q_fieldAddr fa_28_1 rfl rfl) rfl ?_
  refine oV (arrV b_1 1 16 0 4) (q_sliceA (o := 1) (lo := 0) (hi := 4) (kl := .i64) tr_26 rfl (.inl ⟨rfl, rfl⟩) (.inr ⟨_, rfl, rfl⟩) ⟨by decide, by decide, by decide⟩) rfl ?_
  refine oV (.string (bs (cut a.2.1 0 4))) (q_bytesStr ts_184 Tryz.underlying5 Tryz.underlying9 (arrSl (o := 1) (n := 16) (X := a.2) (lo := 0) (hi := 4) (hS.box 0 rfl) rfl ⟨by decide, by decide, by decide⟩ (by decide)) rfl) rfl ?_
  refine oA (.string (bs (cut a.2.1 0 4))) rfl rfl ?_
  refine HO.nil (thenQ_normal (?_))
  refine HW.ret (?_)
  refine ⟨.inr rfl, .string (bs (cut a.2.1 0 4)), res1 rfl (rt rfl), ?_⟩
  replace hS : St F (fr) h_1 := hS.perm2 [] 1 rfl rfl
  exact ⟨F, cut a.2.1 0 4, rfl, hK, hS, hM⟩
def addr_Cmp_j1 (a : T_api_Addr) (b : T_api_Addr) (Q : Int → Prop) : Prop :=
 addr_bytes_W a (fun r_2 => addr_bytes_W b (fun r_3 => Q (scmp r_2 r_3)))
def addr_Cmp_j2 (a : T_api_Addr) (b : T_api_Addr) (Q : Int → Prop) (b_3 : Bool) : Prop :=
 (b_3 = true → Q 1) ∧ (b_3 = false → ((!a.1) = true → (b.1 = true → Q (-1)) ∧ (b.1 = false → addr_Cmp_j1 a b Q)) ∧ ((!a.1) = false → addr_Cmp_j1 a b Q))
def addr_Cmp_W (a : T_api_Addr) (b : T_api_Addr) (Q : Int → Prop) : Prop :=
 (a.1 = true → addr_Cmp_j2 a b Q (!b.1)) ∧ (a.1 = false → addr_Cmp_j2 a b Q false)
theorem addr_Cmp_walk {F : Fz} {fr : List Ow} {h0 : Heap} (a : T_api_Addr) (b : T_api_Addr) (hS : St F (fr) h0)  {Q : Int → Prop} (hM : addr_Cmp_W a b Q) :
  HC Tryz.prog 106 #[.agg (e_api_Addr a).toArray, .agg (e_api_Addr b).toArray] h0 fun u h' => ∃ (F' : Fz) (r_1 : Int), u = .int .i64 r_1 ∧ Kp F h0 F' h' ∧ St F' (fr) h' ∧ Q r_1 := by
 unfold addr_Cmp_W at hM
 have hK := Kp.refl F h0
 refine HC.of_HW (n := 26) Tryz.func106 rfl rfl (Nat.le_of_ble_eq_true rfl) ?_
 refine HW.seq ?_
 refine HW.region ?_
 refine HO.eff (want_none) rfl (st_box (c := (e_api_Addr a).toArray) (k' := 17) hS rfl rfl) ?_
 rintro _ h_1 ⟨b_1, rfl, hS, hk⟩
 replace hK := hK.trans hk
 refine HO.eff (want_none) rfl (st_box (c := (e_api_Addr b).toArray) (k' := 17) hS rfl rfl) ?_
 rintro _ h_2 ⟨b_2, rfl, hS, hk⟩
 replace hK := hK.trans hk
 refine oA (.int .i64 0) rfl rfl ?_
 refine HO.nil (thenQ_normal (?_))
 refine HW.seq_mid (fun f h => ∃ (F' : Fz), f 2 = .pointer (some ⟨b_1, 0, none⟩) ∧ f 3 = .pointer (some ⟨b_2, 0, none⟩) ∧ f 4 = .int .i64 0 ∧ Kp F h0 F' h ∧ St F' (Ow.box b_1 28 (e_api_Addr a).toArray :: Ow.box b_2 28 (e_api_Addr b).toArray :: fr) h ∧ addr_Cmp_j1 a b Q) ?_ ?_
 ·
  refine HW.block ?_
  refine HW.seq_mid (fun f h => ∃ (F' : Fz) (b_3 : Bool), f 2 = .pointer (some ⟨b_1, 0, none⟩) ∧ f 3 = .pointer (some ⟨b_2, 0, none⟩) ∧ f 4 = .int .i64 0 ∧ f 5 = .bool b_3 ∧ Kp F h0 F' h ∧ St F' (Ow.box b_1 28 (e_api_Addr a).toArray :: Ow.box b_2 28 (e_api_Addr b).toArray :: fr) h ∧ addr_Cmp_j2 a b Q b_3) ?_ ?_
  ·
   refine HW.region ?_
   refine oV (.pointer (some ⟨b_1, 0, none⟩)) (q_fieldAddr fa_28_0 rfl rfl) rfl ?_
   refine oV (.bool a.1) (q_load to_4 rfl (Blk.cell (hS.box 1 rfl) rfl)) rfl ?_
   refine oM (.bool a.1) rfl rfl ?_
   rcases Bool.eq_false_or_eq_true a.1 with c_1 | c_1
   ·
    replace hM := hM.1 c_1
    refine HO.val (v := .pointer (some ⟨b_2, 0, none⟩)) (want_by rfl rfl c_1) rfl (q_fieldAddr fa_28_0 rfl rfl) ?_
    refine HO.val (v := .bool b.1) (want_by rfl rfl c_1) rfl (q_load to_4 rfl (Blk.cell (hS.box 0 rfl) rfl)) ?_
    refine HO.val (v := .bool (!b.1)) (want_by rfl rfl c_1) rfl (q_not rfl) ?_
    refine oV (.bool (!b.1)) (q_pickK true rfl c_1 rfl) rfl ?_
    refine oA (.bool (!b.1)) rfl rfl ?_
    refine HO.nil (thenQ_normal (?_))
    replace hS : St F (Ow.box b_1 28 (e_api_Addr a).toArray :: Ow.box b_2 28 (e_api_Addr b).toArray :: fr) h_2 := hS.perm2 [1, 0] 2 rfl rfl
    exact ⟨F, !b.1, rfl, rfl, rfl, rfl, hK, hS, hM⟩
   ·
    replace hM := hM.2 c_1
    refine HO.past (past_by rfl rfl c_1) rfl ?_
    refine HO.past (past_by rfl rfl c_1) rfl ?_
    refine HO.past (past_by rfl rfl c_1) rfl ?_
    refine oV (.bool false) (q_pickK false rfl c_1 rfl) rfl ?_
    refine oA (.bool false) rfl rfl ?_
    refine HO.nil (thenQ_normal (?_))
    replace hS : St F (Ow.box b_1 28 (e_api_Addr a).toArray :: Ow.box b_2 28 (e_api_Addr b).toArray :: fr) h_2 := hS.perm2 [1, 0] 2 rfl rfl
    exact ⟨F, false, rfl, rfl, rfl, rfl, hK, hS, hM⟩
  ·
   rintro f_1 h_3 ⟨F_1, b_3, e2, e3, e4, e5, hK, hS, hM⟩
   unfold addr_Cmp_j2 at hM
   refine HW.fr [(2, .pointer (some ⟨b_1, 0, none⟩)), (3, .pointer (some ⟨b_2, 0, none⟩)), (4, .int .i64 0), (5, .bool b_3)] ⟨e2, e3, e4, e5, trivial⟩ ?_
   refine HW.cond b_3 rfl (fun c_2 => ?_) (fun c_2 => ?_)
   ·
    replace hM := hM.1 c_2
    refine HW.seq ?_
    refine HW.region ?_
    refine oA (.int .i64 1) rfl rfl ?_
    refine HO.nil (thenQ_normal (?_))
    refine HW.ret (blockQ_ret (thenQ_ret (?_)))
    refine ⟨.inr rfl, .int .i64 1, res1 rfl (rt rfl), ?_⟩
    replace hS : St F_1 (fr) h_3 := hS.perm2 [] 2 rfl rfl
    exact ⟨F_1, 1, rfl, hK, hS, hM⟩
   ·
    replace hM := hM.2 c_2
    refine HW.seq ?_
    refine HW.region ?_
    refine oV (.pointer (some ⟨b_1, 0, none⟩)) (q_fieldAddr fa_28_0 rfl rfl) rfl ?_
    refine oV (.bool a.1) (q_load to_4 rfl (Blk.cell (hS.box 0 rfl) rfl)) rfl ?_
    refine oV (.bool (!a.1)) (q_not rfl) rfl ?_
    refine oM (.bool (!a.1)) rfl rfl ?_
    rcases Bool.eq_false_or_eq_true (!a.1) with c_3 | c_3
    ·
     replace hM := hM.1 c_3
     refine HO.val (v := .pointer (some ⟨b_2, 0, none⟩)) (want_by rfl rfl c_3) rfl (q_fieldAddr fa_28_0 rfl rfl) ?_
     refine HO.val (v := .bool b.1) (want_by rfl rfl c_3) rfl (q_load to_4 rfl (Blk.cell (hS.box 1 rfl) rfl)) ?_
     refine oV (.bool b.1) (q_pickK true rfl c_3 rfl) rfl ?_
     refine oA (.bool b.1) rfl rfl ?_
     refine HO.nil (thenQ_normal (?_))
     refine HW.cond b.1 rfl (fun c_4 => ?_) (fun c_4 => ?_)
     ·
      replace hM := hM.1 c_4
      refine HW.seq ?_
      refine HW.region ?_
      refine oA (.int .i64 (-1)) rfl rfl ?_
      refine HO.nil (thenQ_normal (?_))
      refine HW.ret (blockQ_ret (thenQ_ret (?_)))
      refine ⟨.inr rfl, .int .i64 (-1), res1 rfl (rt rfl), ?_⟩
      replace hS : St F_1 (fr) h_3 := hS.perm2 [] 2 rfl rfl
      exact ⟨F_1, (-1), rfl, hK, hS, hM⟩
     ·
      replace hM := hM.2 c_4
      refine HW.skip (blockQ_normal (thenQ_normal (?_)))
      exact ⟨F_1, rfl, rfl, rfl, hK, hS, hM⟩
    ·
     replace hM := hM.2 c_3
     refine HO.past (past_by rfl rfl c_3) rfl ?_
     refine HO.past (past_by rfl rfl c_3) rfl ?_
     refine oV (.bool false) (q_pickK false rfl c_3 rfl) rfl ?_
     refine oA (.bool false) rfl rfl ?_
     refine HO.nil (thenQ_normal (?_))
     refine HW.condF rfl ?_
     refine HW.skip (blockQ_normal (thenQ_normal (?_)))
     exact ⟨F_1, rfl, rfl, rfl, hK, hS, hM⟩
 ·
  rintro f_2 h_4 ⟨F_2, e2, e3, e4, hK, hS, hM⟩
  unfold addr_Cmp_j1 at hM
  refine HW.fr [(2, .pointer (some ⟨b_1, 0, none⟩)), (3, .pointer (some ⟨b_2, 0, none⟩)), (4, .int .i64 0)] ⟨e2, e3, e4, trivial⟩ ?_
  refine HW.seq ?_
  refine HW.regionA 6 mixed (fun h => (Blk h b_1 (.cells (e_api_Addr a).toArray 28 (0, 0))) ∧ (Blk h b_2 (.cells (e_api_Addr b).toArray 28 (0, 0)))) [] (by kernel_rfl) ?_
  refine HA.val (k := 0) (v := .agg (e_api_Addr a).toArray) rfl rfl (by kernel_rfl) (by kernel_rfl) (want_none) rfl (fun _ ⟨c203, c204⟩ => q_loadAgg (cs := (e_api_Addr a)) ta_28 rfl rfl (Blk.cells (k := 17) c203 rfl)) ?_
  refine HA.val (k := 2) (v := .agg (e_api_Addr b).toArray) rfl rfl (by kernel_rfl) (by kernel_rfl) (want_none) rfl (fun _ ⟨c203, c204⟩ => q_loadAgg (cs := (e_api_Addr b)) ta_28 rfl rfl (Blk.cells (k := 17) c204 rfl)) ?_
  refine HA.one (k := 1) ⟨⟨(hS.box 0 rfl), (hS.box 1 rfl)⟩, (Go.Wk.at_nil _ _)⟩ (by kernel_rfl) ?_
  refine HS.call rfl (want_none) rfl (ec en_141 rfl rfl) (addr_bytes_walk (fr := (Ow.box b_1 28 (e_api_Addr a).toArray :: Ow.box b_2 28 (e_api_Addr b).toArray :: fr)) a hS hM) ?_
  rintro _ h_5 ⟨F_3, r_2, rfl, hk, hS, hM⟩
  replace hK := hK.trans hk
  refine HA.one (k := 3) ⟨⟨(hS.box 0 rfl), (hS.box 1 rfl)⟩, (Go.Wk.at_nil _ _)⟩ (by kernel_rfl) ?_
  refine HS.call rfl (want_none) rfl (ec en_141 rfl rfl) (addr_bytes_walk (fr := (Ow.box b_1 28 (e_api_Addr a).toArray :: Ow.box b_2 28 (e_api_Addr b).toArray :: fr)) b hS hM) ?_
  rintro _ h_6 ⟨F_4, r_3, rfl, hk, hS, hM⟩
  replace hK := hK.trans hk
  refine HA.one (k := 4) ⟨⟨(hS.box 0 rfl), (hS.box 1 rfl)⟩, (Go.Wk.at_nil _ _)⟩ (by kernel_rfl) ?_
  refine HS.call rfl (want_none) rfl (ec en_140 rfl rfl) (strCompare_hc Tryz.strCmp  r_2 r_3 _) ?_
  rintro _ h_7 ⟨rfl, hEq⟩
  rw [hEq]
  refine HA.val (k := 5) (v := .int .i64 (scmp r_2 r_3)) rfl rfl (by kernel_rfl) (by kernel_rfl) (want_none) rfl (fun _ ⟨c203, c204⟩ => q_assign rfl) ?_
  refine HA.nil ⟨⟨(hS.box 0 rfl), (hS.box 1 rfl)⟩, (Go.Wk.at_nil _ _)⟩ (by kernel_rfl) (thenQ_normal (?_))
  refine HW.ret (?_)
  refine ⟨.inr rfl, .int .i64 (scmp r_2 r_3), res1 rfl (rt rfl), ?_⟩
  replace hS : St F_4 (fr) h_6 := hS.perm2 [] 2 rfl rfl
  exact ⟨F_4, scmp r_2 r_3, rfl, hK, hS, hM⟩
def srcs_Good_l1 (l : List T_api_Addr) (Q : Bool → Prop) (K_1 : Int → Prop) (n_1 : Int) : Prop :=
 (n_1 < (l.length : Int) → ((0 : Int) ≤ n_1 ∧ n_1 < (l.length : Int)) ∧ (addr_Good_W (gi l n_1) (fun r_2 => ((!r_2) = true → Q false) ∧ ((!r_2) = false → (0 < n_1 → (I64 (n_1 - 1)) ∧ (((0 : Int) ≤ n_1 - 1 ∧ n_1 - 1 < (l.length : Int)) ∧ (addr_Cmp_W (gi l (n_1 - 1)) (gi l n_1) (fun r_3 => (0 ≤ r_3 → Q false) ∧ (¬ (0 ≤ r_3) → (I64 (n_1 + 1)) ∧ (K_1 (n_1 + 1))))))) ∧ (¬ (0 < n_1) → (I64 (n_1 + 1)) ∧ (K_1 (n_1 + 1))))))) ∧ (¬ (n_1 < (l.length : Int)) → Q true)
def srcs_Good_W (l : List T_api_Addr) (Q : Bool → Prop) : Prop :=
 loopW (fun (K_1 : Int → Prop) (s : Int) => srcs_Good_l1 l Q K_1 s) 0
theorem srcs_Good_walk {F : Fz} {fr : List Ow} {h0 : Heap} (l : List T_api_Addr) (vl : Value) (hS : St F (fr) h0) (hL_l : SliceF F h0 17 e_api_Addr vl l) {Q : Bool → Prop} (hM : srcs_Good_W l Q) :
  HC Tryz.prog 52 #[vl] h0 fun u h' => ∃ (F' : Fz) (r_1 : Bool), u = .bool r_1 ∧ Kp F h0 F' h' ∧ St F' (fr) h' ∧ (SliceF F' h' 17 e_api_Addr vl l) ∧ Q r_1 := by
 unfold srcs_Good_W at hM
 have hK := Kp.refl F h0
 refine HC.of_HW (n := 30) Tryz.func52 rfl rfl (Nat.le_of_ble_eq_true rfl) ?_
 refine HW.seq ?_
 refine HW.region ?_
 refine oA (.bool false) rfl rfl ?_
 refine HO.nil (thenQ_normal (?_))
 refine HW.seq ?_
 refine HW.seq ?_
 refine HW.region ?_
 refine oM (vl) rfl rfl ?_
 refine oV (.int .i64 (l.length : Int)) (q_len ts_29 (shp hL_l.is) rfl rfl) rfl ?_
 refine oM (.int .i64 0) rfl rfl ?_
 refine HO.nil (thenQ_normal (?_))
 refine HW.block ?_
 obtain ⟨I_1, m_1, hI_1, hR_1⟩ := hM
 refine HW.loop (S := Int) (fun n_1 f h => ∃ (F' : Fz), f 0 = vl ∧ f 2 = .bool false ∧ f 5 = vl ∧ f 6 = .int .i64 (l.length : Int) ∧ f 7 = .int .i64 n_1 ∧ Kp F h0 F' h ∧ St F' (fr) h ∧ (SliceF F' h 17 e_api_Addr vl l) ∧ I_1 n_1) m_1 0 ⟨F, rfl, rfl, rfl, rfl, rfl, hK, hS, hL_l, hI_1⟩ ?_
 rintro n_1 f_1 h_1 ⟨F_1, e0, e2, e5, e6, e7, hK, hS, hL_l, hI0⟩
 obtain ⟨K_1, hKe_1⟩ : ∃ K : Int → Prop, K = fun n_1' => I_1 n_1' ∧ m_1 n_1' < m_1 n_1 := ⟨_, rfl⟩
 have hM : srcs_Good_l1 l Q K_1 n_1 := by rw [hKe_1]; exact hR_1 n_1 hI0
 unfold srcs_Good_l1 at hM
 refine HW.fr [(0, vl), (2, .bool false), (5, vl), (6, .int .i64 (l.length : Int)), (7, .int .i64 n_1)] ⟨e0, e2, e5, e6, e7, trivial⟩ ?_
 refine HW.seq ?_
 refine HW.region ?_
 refine oV (.bool (decide (n_1 < (l.length : Int)))) (q_lss rfl rfl) rfl ?_
 refine HO.nil (thenQ_normal (?_))
 refine HW.seq ?_
 refine HW.cond (decide (n_1 < (l.length : Int))) rfl (fun c_1 => ?_) (fun c_1 => ?_)
 ·
  replace hM := hM.1 (of_decide_eq_true c_1)
  refine HW.skip (thenQ_normal (?_))
  refine HW.seq ?_
  refine HW.block ?_
  refine HW.seq ?_
  refine HW.region ?_
  refine oM (.int .i64 n_1) rfl rfl ?_
  obtain ⟨ho_1, hM⟩ := hM
  refine oV (elemPtr 17 vl (n_1).toNat) (q_idx ts_29 hL_l.is rfl rfl ho_1) rfl ?_
  refine oV (.agg (e_api_Addr (gi l n_1)).toArray) (q_ldElemAgg (cs := (e_api_Addr (gi l n_1))) ta_28 hL_l.is rfl ho_1 rfl) rfl ?_
  refine HO.eff (want_none) rfl (st_alloc (c := (e_api_Addr (false, (default : Ba 16))).toArray) hS tz_28 rfl) ?_
  rintro _ h_2 ⟨b_1, rfl, hS, hk⟩
  replace hK := hK.trans hk
  replace hL_l := hL_l.kp hk
  refine oA (.int .i64 n_1) rfl rfl ?_
  refine HO.sto (want_none) rfl (st_storeAgg (c' := (e_api_Addr (gi l n_1)).toArray) hS (i := 0) rfl ta_28 rfl rfl rfl (one_e_api_Addr _) (Nat.le_of_ble_eq_true rfl) rfl) ?_
  rintro h_3 ⟨hS, hk⟩
  replace hK := hK.trans hk
  replace hL_l := hL_l.kp hk
  refine HO.nil (thenQ_normal (?_))
  refine HW.seq ?_
  refine HW.regionA 17 mixed (fun h => (SliceIs h 17 e_api_Addr vl l) ∧ (Blk h b_1 (.cells (e_api_Addr (gi l n_1)).toArray 28 (0, 0)))) [] (by kernel_rfl) ?_
  refine HA.val (k := 0) (v := .agg (e_api_Addr (gi l n_1)).toArray) rfl rfl (by kernel_rfl) (by kernel_rfl) (want_none) rfl (fun _ ⟨hL_l, c301⟩ => q_loadAgg (cs := (e_api_Addr (gi l n_1))) ta_28 rfl rfl (Blk.cells (k := 17) c301 rfl)) ?_
  refine HA.one (k := 1) ⟨⟨hL_l.is, (hS.box 0 rfl)⟩, (Go.Wk.at_nil _ _)⟩ (by kernel_rfl) ?_
  refine HS.call rfl (want_none) rfl (ec en_48 rfl rfl) (addr_Good_walk (fr := (Ow.box b_1 28 (e_api_Addr (gi l n_1)).toArray :: fr)) (gi l n_1) hS hM) ?_
  rintro _ h_4 ⟨F_2, r_2, rfl, hk, hS, hM⟩
  replace hK := hK.trans hk
  replace hL_l := hL_l.kp hk
  refine HA.val (k := 2) (v := .bool (!r_2)) rfl rfl (by kernel_rfl) (by kernel_rfl) (want_none) rfl (fun _ ⟨hL_l, c301⟩ => q_not rfl) ?_
  refine HA.val (k := 3) (v := .bool (!r_2)) rfl rfl (by kernel_rfl) (by kernel_rfl) (want_none) rfl (fun _ ⟨hL_l, c301⟩ => q_move rfl) ?_
  rcases Bool.eq_false_or_eq_true (!r_2) with c_2 | c_2
  ·
   replace hM := hM.1 c_2
   refine HA.past (k := 4) rfl rfl (by kernel_rfl) (by kernel_rfl) (past_by rfl rfl c_2) rfl ?_
   refine HA.past (k := 5) rfl rfl (by kernel_rfl) (by kernel_rfl) (past_by rfl rfl c_2) rfl ?_
   refine HA.past (k := 6) rfl rfl (by kernel_rfl) (by kernel_rfl) (past_by rfl rfl c_2) rfl ?_
   refine HA.past (k := 7) rfl rfl (by kernel_rfl) (by kernel_rfl) (past_undef rfl rfl) rfl ?_
   refine HA.past (k := 8) rfl rfl (by kernel_rfl) (by kernel_rfl) (past_undef rfl rfl) rfl ?_
   refine HA.past (k := 9) rfl rfl (by kernel_rfl) (by kernel_rfl) (past_undef rfl rfl) rfl ?_
   refine HA.past (k := 10) rfl rfl (by kernel_rfl) (by kernel_rfl) (past_undef rfl rfl) rfl ?_
   refine HA.past (k := 11) rfl rfl (by kernel_rfl) (by kernel_rfl) (past_undef rfl rfl) rfl ?_
   refine HA.past (k := 12) rfl rfl (by kernel_rfl) (by kernel_rfl) (past_undef rfl rfl) rfl ?_
   refine HA.one (k := 13) ⟨⟨hL_l.is, (hS.box 0 rfl)⟩, (Go.Wk.at_nil _ _)⟩ (by kernel_rfl) ?_
   refine HS.past rfl (past_undef rfl rfl) rfl ?_
   refine HA.past (k := 14) rfl rfl (by kernel_rfl) (by kernel_rfl) (past_undef rfl rfl) rfl ?_
   refine HA.past (k := 15) rfl rfl (by kernel_rfl) (by kernel_rfl) (past_by rfl rfl c_2) rfl ?_
   refine HA.val (k := 16) (v := .bool true) rfl rfl (by kernel_rfl) (by kernel_rfl) (want_none) rfl (fun _ ⟨hL_l, c301⟩ => q_pickK true rfl c_2 rfl) ?_
   refine HA.nil ⟨⟨hL_l.is, (hS.box 0 rfl)⟩, (Go.Wk.at_nil _ _)⟩ (by kernel_rfl) (thenQ_normal (?_))
   refine HW.condT rfl ?_
   refine HW.seq ?_
   refine HW.region ?_
   refine oA (.bool false) rfl rfl ?_
   refine HO.nil (thenQ_normal (?_))
   refine HW.ret (blockQ_ret (thenQ_ret (thenQ_ret (blockQ_ret (thenQ_ret (?_))))))
   refine ⟨.inr rfl, .bool false, res1 rfl (rt rfl), ?_⟩
   replace hS : St F_2 (fr) h_4 := hS.perm2 [] 1 rfl rfl
   exact ⟨F_2, false, rfl, hK, hS, hL_l, hM⟩
  ·
   replace hM := hM.2 c_2
   refine HA.val (k := 4) (v := .int .i64 n_1) rfl rfl (by kernel_rfl) (by kernel_rfl) (want_by rfl rfl c_2) rfl (fun _ ⟨hL_l, c301⟩ => q_move rfl) ?_
   refine HA.val (k := 5) (v := .bool (decide (0 < n_1))) rfl rfl (by kernel_rfl) (by kernel_rfl) (want_by rfl rfl c_2) rfl (fun _ ⟨hL_l, c301⟩ => q_gtr rfl rfl) ?_
   refine HA.val (k := 6) (v := .bool (decide (0 < n_1))) rfl rfl (by kernel_rfl) (by kernel_rfl) (want_by rfl rfl c_2) rfl (fun _ ⟨hL_l, c301⟩ => q_move rfl) ?_
   rcases Bool.eq_false_or_eq_true (decide (0 < n_1)) with c_3 | c_3
   ·
    replace hM := hM.1 (of_decide_eq_true c_3)
    refine HA.val (k := 7) (v := vl) rfl rfl (by kernel_rfl) (by kernel_rfl) (want_by rfl rfl c_3) rfl (fun _ ⟨hL_l, c301⟩ => q_move rfl) ?_
    refine HA.val (k := 8) (v := .int .i64 n_1) rfl rfl (by kernel_rfl) (by kernel_rfl) (want_by rfl rfl c_3) rfl (fun _ ⟨hL_l, c301⟩ => q_move rfl) ?_
    obtain ⟨ho_2, hM⟩ := hM
    refine HA.val (k := 9) (v := .int .i64 (n_1 - 1)) rfl rfl (by kernel_rfl) (by kernel_rfl) (want_by rfl rfl c_3) rfl (fun _ ⟨hL_l, c301⟩ => q_subN _ rfl rfl rfl ho_2.1 ho_2.2) ?_
    obtain ⟨ho_3, hM⟩ := hM
    refine HA.val (k := 10) (v := elemPtr 17 vl (n_1 - 1).toNat) rfl rfl (by kernel_rfl) (by kernel_rfl) (want_by rfl rfl c_3) rfl (fun _ ⟨hL_l, c301⟩ => q_idx ts_29 hL_l rfl rfl ho_3) ?_
    refine HA.val (k := 11) (v := .agg (e_api_Addr (gi l (n_1 - 1))).toArray) rfl rfl (by kernel_rfl) (by kernel_rfl) (want_by rfl rfl c_3) rfl (fun _ ⟨hL_l, c301⟩ => q_ldElemAgg (cs := (e_api_Addr (gi l (n_1 - 1)))) ta_28 hL_l rfl ho_3 rfl) ?_
    refine HA.val (k := 12) (v := .agg (e_api_Addr (gi l n_1)).toArray) rfl rfl (by kernel_rfl) (by kernel_rfl) (want_by rfl rfl c_3) rfl (fun _ ⟨hL_l, c301⟩ => q_loadAgg (cs := (e_api_Addr (gi l n_1))) ta_28 rfl rfl (Blk.cells (k := 17) c301 rfl)) ?_
    refine HA.one (k := 13) ⟨⟨hL_l.is, (hS.box 0 rfl)⟩, (Go.Wk.at_nil _ _)⟩ (by kernel_rfl) ?_
    refine HS.call rfl (want_by rfl rfl c_3) rfl (ec en_106 rfl rfl) (addr_Cmp_walk (fr := (Ow.box b_1 28 (e_api_Addr (gi l n_1)).toArray :: fr)) (gi l (n_1 - 1)) (gi l n_1) hS hM) ?_
    rintro _ h_5 ⟨F_3, r_3, rfl, hk, hS, hM⟩
    replace hK := hK.trans hk
    replace hL_l := hL_l.kp hk
    refine HA.val (k := 14) (v := .bool (decide (0 ≤ r_3))) rfl rfl (by kernel_rfl) (by kernel_rfl) (want_by rfl rfl c_3) rfl (fun _ ⟨hL_l, c301⟩ => q_geq rfl rfl) ?_
    refine HA.val (k := 15) (v := .bool (decide (0 ≤ r_3))) rfl rfl (by kernel_rfl) (by kernel_rfl) (want_by rfl rfl c_2) rfl (fun _ ⟨hL_l, c301⟩ => q_pickK true rfl c_3 rfl) ?_
    refine HA.val (k := 16) (v := .bool (decide (0 ≤ r_3))) rfl rfl (by kernel_rfl) (by kernel_rfl) (want_none) rfl (fun _ ⟨hL_l, c301⟩ => q_pickK false rfl c_2 rfl) ?_
    refine HA.nil ⟨⟨hL_l.is, (hS.box 0 rfl)⟩, (Go.Wk.at_nil _ _)⟩ (by kernel_rfl) (thenQ_normal (?_))
    refine HW.cond (decide (0 ≤ r_3)) rfl (fun c_4 => ?_) (fun c_4 => ?_)
    ·
     replace hM := hM.1 (of_decide_eq_true c_4)
     refine HW.seq ?_
     refine HW.region ?_
     refine oA (.bool false) rfl rfl ?_
     refine HO.nil (thenQ_normal (?_))
     refine HW.ret (blockQ_ret (thenQ_ret (thenQ_ret (blockQ_ret (thenQ_ret (?_))))))
     refine ⟨.inr rfl, .bool false, res1 rfl (rt rfl), ?_⟩
     replace hS : St F_3 (fr) h_5 := hS.perm2 [] 1 rfl rfl
     exact ⟨F_3, false, rfl, hK, hS, hL_l, hM⟩
    ·
     replace hM := hM.2 (of_decide_eq_false c_4)
     refine HW.skip (blockQ_normal (thenQ_normal (?_)))
     refine HW.region ?_
     obtain ⟨ho_4, hM⟩ := hM
     refine oV (.int .i64 (n_1 + 1)) (q_addN _ rfl rfl rfl ho_4.1 ho_4.2) rfl ?_
     refine oM (.int .i64 (n_1 + 1)) rfl rfl ?_
     refine HO.nil (thenQ_normal (?_))
     replace hS : St F_3 (fr) h_5 := hS.perm2 [] 1 rfl rfl
     rw [hKe_1] at hM
     exact ⟨n_1 + 1, ⟨F_3, rfl, rfl, rfl, rfl, rfl, hK, hS, hL_l, hM.1⟩, hM.2⟩
   ·
    replace hM := hM.2 (of_decide_eq_false c_3)
    refine HA.past (k := 7) rfl rfl (by kernel_rfl) (by kernel_rfl) (past_by rfl rfl c_3) rfl ?_
    refine HA.past (k := 8) rfl rfl (by kernel_rfl) (by kernel_rfl) (past_by rfl rfl c_3) rfl ?_
    refine HA.past (k := 9) rfl rfl (by kernel_rfl) (by kernel_rfl) (past_by rfl rfl c_3) rfl ?_
    refine HA.past (k := 10) rfl rfl (by kernel_rfl) (by kernel_rfl) (past_by rfl rfl c_3) rfl ?_
    refine HA.past (k := 11) rfl rfl (by kernel_rfl) (by kernel_rfl) (past_by rfl rfl c_3) rfl ?_
    refine HA.past (k := 12) rfl rfl (by kernel_rfl) (by kernel_rfl) (past_by rfl rfl c_3) rfl ?_
    refine HA.one (k := 13) ⟨⟨hL_l.is, (hS.box 0 rfl)⟩, (Go.Wk.at_nil _ _)⟩ (by kernel_rfl) ?_
    refine HS.past rfl (past_by rfl rfl c_3) rfl ?_
    refine HA.past (k := 14) rfl rfl (by kernel_rfl) (by kernel_rfl) (past_by rfl rfl c_3) rfl ?_
    refine HA.val (k := 15) (v := .bool false) rfl rfl (by kernel_rfl) (by kernel_rfl) (want_by rfl rfl c_2) rfl (fun _ ⟨hL_l, c301⟩ => q_pickK false rfl c_3 rfl) ?_
    refine HA.val (k := 16) (v := .bool false) rfl rfl (by kernel_rfl) (by kernel_rfl) (want_none) rfl (fun _ ⟨hL_l, c301⟩ => q_pickK false rfl c_2 rfl) ?_
    refine HA.nil ⟨⟨hL_l.is, (hS.box 0 rfl)⟩, (Go.Wk.at_nil _ _)⟩ (by kernel_rfl) (thenQ_normal (?_))
    refine HW.condF rfl ?_
    refine HW.skip (blockQ_normal (thenQ_normal (?_)))
    refine HW.region ?_
    obtain ⟨ho_5, hM⟩ := hM
    refine oV (.int .i64 (n_1 + 1)) (q_addN _ rfl rfl rfl ho_5.1 ho_5.2) rfl ?_
    refine oM (.int .i64 (n_1 + 1)) rfl rfl ?_
    refine HO.nil (thenQ_normal (?_))
    replace hS : St F_2 (fr) h_4 := hS.perm2 [] 1 rfl rfl
    rw [hKe_1] at hM
    exact ⟨n_1 + 1, ⟨F_2, rfl, rfl, rfl, rfl, rfl, hK, hS, hL_l, hM.1⟩, hM.2⟩
 ·
  replace hM := hM.2 (of_decide_eq_false c_1)
  refine HW.exit (thenQ_exit (thenQ_exit (blockQ_exit (thenQ_normal (?_)))))
  refine HW.seq ?_
  refine HW.region ?_
  refine oA (.bool true) rfl rfl ?_
  refine HO.nil (thenQ_normal (?_))
  refine HW.ret (?_)
  refine ⟨.inr rfl, .bool true, res1 rfl (rt rfl), ?_⟩
  exact ⟨F_1, true, rfl, hK, hS, hL_l, hM⟩
def merge_none_W (f_Exclude : Bool) (f_Sources : List T_api_Addr) (Q : Bool → Prop) : Prop :=
 ((!f_Exclude) = true → Q (decide ((f_Sources.length : Int) = 0))) ∧ ((!f_Exclude) = false → Q false)
theorem merge_none_walk {F : Fz} {fr : List Ow} {h0 : Heap} (f_Exclude : Bool) (f_Sources : List T_api_Addr) (vf_Sources : Value) (hS : St F (fr) h0) (hL_f_Sources : SliceF F h0 17 e_api_Addr vf_Sources f_Sources) {Q : Bool → Prop} (hM : merge_none_W f_Exclude f_Sources Q) :
  HC Tryz.prog 107 #[.agg #[.bool f_Exclude, vf_Sources]] h0 fun u h' => ∃ (F' : Fz) (r_1 : Bool), u = .bool r_1 ∧ Kp F h0 F' h' ∧ St F' (fr) h' ∧ (SliceF F' h' 17 e_api_Addr vf_Sources f_Sources) ∧ Q r_1 := by
 unfold merge_none_W at hM
 have hK := Kp.refl F h0
 refine HC.of_HW (n := 12) Tryz.func107 rfl rfl (Nat.le_of_ble_eq_true rfl) ?_
 refine HW.seq ?_
 refine HW.region ?_
 refine HO.eff (want_none) rfl (st_box (c := #[.bool f_Exclude, vf_Sources]) (k' := 2) hS rfl rfl) ?_
 rintro _ h_1 ⟨b_1, rfl, hS, hk⟩
 replace hK := hK.trans hk
 replace hL_f_Sources := hL_f_Sources.kp hk
 refine oA (.bool false) rfl rfl ?_
 refine HO.nil (thenQ_normal (?_))
 refine HW.seq ?_
 refine HW.region ?_
 refine oV (.pointer (some ⟨b_1, 0, none⟩)) (q_fieldAddr fa_50_0 rfl rfl) rfl ?_
 refine oV (.bool f_Exclude) (q_load to_4 rfl (Blk.cell (hS.box 0 rfl) rfl)) rfl ?_
 refine oV (.bool (!f_Exclude)) (q_not rfl) rfl ?_
 refine oM (.bool (!f_Exclude)) rfl rfl ?_
 rcases Bool.eq_false_or_eq_true (!f_Exclude) with c_1 | c_1
 ·
  replace hM := hM.1 c_1
  refine HO.val (v := .pointer (some ⟨b_1, 1, none⟩)) (want_by rfl rfl c_1) rfl (q_fieldAddr fa_50_1 rfl rfl) ?_
  refine HO.val (v := vf_Sources) (want_by rfl rfl c_1) rfl (q_load to_29 rfl (Blk.cell (hS.box 0 rfl) rfl)) ?_
  refine HO.val (v := .int .i64 (f_Sources.length : Int)) (want_by rfl rfl c_1) rfl (q_len ts_29 (shp hL_f_Sources.is) rfl rfl) ?_
  refine HO.val (v := .bool (decide ((f_Sources.length : Int) = 0))) (want_by rfl rfl c_1) rfl (q_eql rfl rfl) ?_
  refine oV (.bool (decide ((f_Sources.length : Int) = 0))) (q_pickK true rfl c_1 rfl) rfl ?_
  refine oA (.bool (decide ((f_Sources.length : Int) = 0))) rfl rfl ?_
  refine HO.nil (thenQ_normal (?_))
  refine HW.ret (?_)
  refine ⟨.inr rfl, .bool (decide ((f_Sources.length : Int) = 0)), res1 rfl (rt rfl), ?_⟩
  replace hS : St F (fr) h_1 := hS.perm2 [] 1 rfl rfl
  exact ⟨F, decide ((f_Sources.length : Int) = 0), rfl, hK, hS, hL_f_Sources, hM⟩
 ·
  replace hM := hM.2 c_1
  refine HO.past (past_by rfl rfl c_1) rfl ?_
  refine HO.past (past_by rfl rfl c_1) rfl ?_
  refine HO.past (past_by rfl rfl c_1) rfl ?_
  refine HO.past (past_by rfl rfl c_1) rfl ?_
  refine oV (.bool false) (q_pickK false rfl c_1 rfl) rfl ?_
  refine oA (.bool false) rfl rfl ?_
  refine HO.nil (thenQ_normal (?_))
  refine HW.ret (?_)
  refine ⟨.inr rfl, .bool false, res1 rfl (rt rfl), ?_⟩
  replace hS : St F (fr) h_1 := hS.perm2 [] 1 rfl rfl
  exact ⟨F, false, rfl, hK, hS, hL_f_Sources, hM⟩
def merge_None_W (f_Exclude : Bool) (f_Sources : List T_api_Addr) (Q : Bool → Prop) : Prop :=
 merge_none_W f_Exclude f_Sources (fun r_2 => Q r_2)
theorem merge_None_walk {F : Fz} {fr : List Ow} {h0 : Heap} (f_Exclude : Bool) (f_Sources : List T_api_Addr) (vf_Sources : Value) (hS : St F (fr) h0) (hL_f_Sources : SliceF F h0 17 e_api_Addr vf_Sources f_Sources) {Q : Bool → Prop} (hM : merge_None_W f_Exclude f_Sources Q) :
  HC Tryz.prog 53 #[.agg #[.bool f_Exclude, vf_Sources]] h0 fun u h' => ∃ (F' : Fz) (r_1 : Bool), u = .bool r_1 ∧ Kp F h0 F' h' ∧ St F' (fr) h' ∧ (SliceF F' h' 17 e_api_Addr vf_Sources f_Sources) ∧ Q r_1 := by
 unfold merge_None_W at hM
 have hK := Kp.refl F h0
 refine HC.of_HW (n := 5) Tryz.func53 rfl rfl (Nat.le_of_ble_eq_true rfl) ?_
 refine HW.seq ?_
 refine HW.region ?_
 refine HO.eff (want_none) rfl (st_box (c := #[.bool f_Exclude, vf_Sources]) (k' := 2) hS rfl rfl) ?_
 rintro _ h_1 ⟨b_1, rfl, hS, hk⟩
 replace hK := hK.trans hk
 replace hL_f_Sources := hL_f_Sources.kp hk
 refine oA (.bool false) rfl rfl ?_
 refine HO.nil (thenQ_normal (?_))
 refine HW.seq ?_
 refine HW.region ?_
 refine oV (.agg #[.bool f_Exclude, vf_Sources]) (q_loadAgg (cs := [.bool f_Exclude, vf_Sources]) ta_50 rfl rfl (Blk.cells (k := 2) (hS.box 0 rfl) rfl)) rfl ?_
 refine HO.call (want_none) rfl (ec en_107 rfl rfl) (merge_none_walk (fr := (Ow.box b_1 50 #[.bool f_Exclude, vf_Sources] :: fr)) f_Exclude f_Sources vf_Sources hS hL_f_Sources hM) ?_
 rintro _ h_2 ⟨F_1, r_2, rfl, hk, hS, _, hM⟩
 replace hK := hK.trans hk
 replace hL_f_Sources := hL_f_Sources.kp hk
 refine oA (.bool r_2) rfl rfl ?_
 refine HO.nil (thenQ_normal (?_))
 refine HW.ret (?_)
 refine ⟨.inr rfl, .bool r_2, res1 rfl (rt rfl), ?_⟩
 replace hS : St F_1 (fr) h_2 := hS.perm2 [] 1 rfl rfl
 exact ⟨F_1, r_2, rfl, hK, hS, hL_f_Sources, hM⟩
def slices_Clone_s_api_Addr_api_Addr_W (s1 : List T_api_Addr) (Q : (List T_api_Addr) → Prop) : Prop :=
 (s1 = [] → Q []) ∧ (True → ((([] : List T_api_Addr).length + s1.length) * 17 ≤ 140737488355328) ∧ (Q (([] : List T_api_Addr) ++ s1)))
theorem slices_Clone_s_api_Addr_api_Addr_walk {F : Fz} {fr : List Ow} {h0 : Heap} (s1 : List T_api_Addr) (vs : Value) (hS : St F (fr) h0) (hL_s1 : SliceF F h0 17 e_api_Addr vs s1) {Q : (List T_api_Addr) → Prop} (hM : slices_Clone_s_api_Addr_api_Addr_W s1 Q) :
  HC Tryz.prog 100 #[vs] h0 fun u h' => ∃ (F' : Fz) (r_1 : List T_api_Addr) (vr_1 : Value), u = vr_1 ∧ Kp F h0 F' h' ∧ St F' (Ow.own 28 17 e_api_Addr vr_1 r_1 :: fr) h' ∧ (SliceF F' h' 17 e_api_Addr vs s1) ∧ Q r_1 := by
 unfold slices_Clone_s_api_Addr_api_Addr_W at hM
 have hK := Kp.refl F h0
 refine HC.of_HW (n := 8) Tryz.func100 rfl rfl (Nat.le_of_ble_eq_true rfl) ?_
 refine HW.seq ?_
 refine HW.region ?_
 refine oA (.slice none 0 0) rfl rfl ?_
 refine HO.nil (thenQ_normal (?_))
 refine HW.seq ?_
 refine HW.seq ?_
 refine HW.region ?_
 refine oM (vs) rfl rfl ?_
 refine oV (.bool (isNil vs)) (q_eqlSnil Tryz.underlying29 (shp hL_s1.is) rfl rfl) rfl ?_
 refine HO.nil (thenQ_normal (?_))
 refine HW.cond (isNil vs) rfl (fun c_1 => ?_) (fun c_1 => ?_)
 ·
  replace hM := hM.1 (isNil_nil hL_s1.is c_1)
  refine HW.seq ?_
  refine HW.region ?_
  refine oA (.slice none 0 0) rfl rfl ?_
  refine HO.nil (thenQ_normal (?_))
  refine HW.ret (thenQ_ret (?_))
  refine ⟨.inr rfl, .slice none 0 0, res1 rfl (rt rfl), ?_⟩
  replace hS := hS.nilOwn 28 17 e_api_Addr
  exact ⟨F, [], .slice none 0 0, rfl, hK, hS, hL_s1, hM⟩
 ·
  replace hM := hM.2 trivial
  refine HW.skip (thenQ_normal (?_))
  refine HW.seq ?_
  refine HW.region ?_
  refine HO.eff (want_none) rfl (st_litEmpty (α := T_api_Addr) e_api_Addr hS tl_29) ?_
  rintro _ h_1 ⟨b_1, rfl, hS, hk⟩
  replace hK := hK.trans hk
  replace hL_s1 := hL_s1.kp hk
  refine oM (vs) rfl rfl ?_
  obtain ⟨ho_1, hM⟩ := hM
  refine HO.eff (want_none) rfl (st_append te_29 hS (i := 0) rfl hL_s1.is rfl rfl rfl (by intro a _ u hu; simp [e_api_Addr, encI, encN, encB, encT] at hu; rcases hu with rfl | rfl | rfl | rfl | rfl | rfl | rfl | rfl | rfl | rfl | rfl | rfl | rfl | rfl | rfl | rfl | rfl <;> rfl) ho_1 (by omega)) ?_
  rintro v_1 h_2 ⟨hS, hk⟩
  replace hK := hK.trans hk
  replace hL_s1 := hL_s1.kp hk
  refine oA (v_1) rfl rfl ?_
  refine HO.nil (thenQ_normal (?_))
  refine HW.ret (?_)
  refine ⟨.inr rfl, v_1, res1 rfl (rt rfl), ?_⟩
  exact ⟨F, ([] : List T_api_Addr) ++ s1, v_1, rfl, hK, hS, hL_s1, hM⟩
def host_own_W (f_Exclude : Bool) (f_Sources : List T_api_Addr) (Q : Bool → (List T_api_Addr) → Prop) : Prop :=
 slices_Clone_s_api_Addr_api_Addr_W f_Sources (fun r_1 => Q f_Exclude r_1)
theorem host_own_walk {F : Fz} {fr : List Ow} {h0 : Heap} (f_Exclude : Bool) (f_Sources : List T_api_Addr) (vf_Sources : Value) (hS : St F (fr) h0) (hL_f_Sources : SliceF F h0 17 e_api_Addr vf_Sources f_Sources) {Q : Bool → (List T_api_Addr) → Prop} (hM : host_own_W f_Exclude f_Sources Q) :
  HC Tryz.prog 54 #[.agg #[.bool f_Exclude, vf_Sources]] h0 fun u h' => ∃ (F' : Fz) (r_0_1 : Bool) (r_1_1 : List T_api_Addr) (vr_1_1 : Value), u = .agg #[.bool r_0_1, vr_1_1] ∧ Kp F h0 F' h' ∧ St F' (Ow.own 28 17 e_api_Addr vr_1_1 r_1_1 :: fr) h' ∧ (SliceF F' h' 17 e_api_Addr vf_Sources f_Sources) ∧ Q r_0_1 r_1_1 := by
 unfold host_own_W at hM
 have hK := Kp.refl F h0
 refine HC.of_HW (n := 9) Tryz.func54 rfl rfl (Nat.le_of_ble_eq_true rfl) ?_
 refine HW.seq ?_
 refine HW.region ?_
 refine HO.eff (want_none) rfl (st_box (c := #[.bool f_Exclude, vf_Sources]) (k' := 2) hS rfl rfl) ?_
 rintro _ h_1 ⟨b_1, rfl, hS, hk⟩
 replace hK := hK.trans hk
 replace hL_f_Sources := hL_f_Sources.kp hk
 refine HO.eff (want_none) rfl (st_alloc (c := #[.bool false, .slice none 0 0]) hS tz_50 rfl) ?_
 rintro _ h_2 ⟨b_2, rfl, hS, hk⟩
 replace hK := hK.trans hk
 replace hL_f_Sources := hL_f_Sources.kp hk
 refine HO.nil (thenQ_normal (?_))
 refine HW.seq ?_
 refine HW.regionA 7 mixed (fun h => (Blk h b_1 (.cells #[.bool f_Exclude, vf_Sources] 50 (0, 0)))) [] (by kernel_rfl) ?_
 refine HA.val (k := 0) (v := .pointer (some ⟨b_1, 0, none⟩)) rfl rfl (by kernel_rfl) (by kernel_rfl) (want_none) rfl (fun _ c202 => q_fieldAddr fa_50_0 rfl rfl) ?_
 refine HA.val (k := 1) (v := .bool f_Exclude) rfl rfl (by kernel_rfl) (by kernel_rfl) (want_none) rfl (fun _ c202 => q_load to_4 rfl (Blk.cell c202 rfl)) ?_
 refine HA.val (k := 2) (v := .pointer (some ⟨b_1, 1, none⟩)) rfl rfl (by kernel_rfl) (by kernel_rfl) (want_none) rfl (fun _ c202 => q_fieldAddr fa_50_1 rfl rfl) ?_
 refine HA.val (k := 3) (v := vf_Sources) rfl rfl (by kernel_rfl) (by kernel_rfl) (want_none) rfl (fun _ c202 => q_load to_29 rfl (Blk.cell c202 rfl)) ?_
 refine HA.one (k := 4) ⟨(hS.box 1 rfl), (Go.Wk.at_nil _ _)⟩ (by kernel_rfl) ?_
 refine HS.call rfl (want_none) rfl (ec en_100 rfl rfl) (slices_Clone_s_api_Addr_api_Addr_walk (fr := (Ow.box b_2 50 #[.bool false, .slice none 0 0] :: Ow.box b_1 50 #[.bool f_Exclude, vf_Sources] :: fr)) f_Sources vf_Sources hS hL_f_Sources hM) ?_
 rintro vr_1 h_3 ⟨F_1, r_1, _, rfl, hk, hS, _, hM⟩
 replace hK := hK.trans hk
 replace hL_f_Sources := hL_f_Sources.kp hk
 refine Go.Wk.HA.re (fun h => (OwnIs h 0 28 17 e_api_Addr vr_1 r_1) ∧ (Blk h b_1 (.cells #[.bool f_Exclude, vf_Sources] 50 (0, 0)))) [] (fun L_ h_ hL_ ⟨c228, c202⟩ hs_ => ⟨c202, (Go.Wk.at_nil _ _)⟩) ?_
 refine HA.val (k := 5) (v := .agg #[.bool f_Exclude, vr_1]) rfl rfl (by kernel_rfl) (by kernel_rfl) (want_none) rfl (fun _ ⟨c228, c202⟩ => q_build tp_50 (fill_cons (cs' := #[.bool f_Exclude, .slice none 0 0]) (vc := #[.bool f_Exclude]) rfl rfl rfl (Nat.le_of_ble_eq_true rfl) rfl (fill_cons (cs' := #[.bool f_Exclude, vr_1]) (vc := #[vr_1]) rfl (shp c228.slice).cells rfl (Nat.le_of_ble_eq_true rfl) rfl rfl))) ?_
 refine HA.one (k := 6) ⟨⟨(hS.own 0 rfl), (hS.box 2 rfl)⟩, (Go.Wk.at_nil _ _)⟩ (by kernel_rfl) ?_
 refine HS.sto rfl (want_none) rfl (st_storeAgg (c' := #[.bool f_Exclude, vr_1]) hS (i := 1) rfl ta_50 rfl rfl rfl (List.forall_mem_cons.2 ⟨rfl, (List.forall_mem_cons.2 ⟨(shp (hS.own 0 rfl).slice).one, (fun _ h => by cases h)⟩)⟩) (Nat.le_of_ble_eq_true rfl) rfl) ?_
 rintro h_4 ⟨hS, hk⟩
 replace hK := hK.trans hk
 replace hL_f_Sources := hL_f_Sources.kp hk
 refine HA.nil ⟨⟨(hS.own 0 rfl), (hS.box 2 rfl)⟩, (Go.Wk.at_nil _ _)⟩ (by kernel_rfl) (thenQ_normal (?_))
 refine HW.ret (?_)
 refine ⟨.inr rfl, .agg #[.bool f_Exclude, vr_1], res1 rfl (rca (cs := [.bool f_Exclude, vr_1]) ta_50 rfl rfl (Blk.cells (k := 2) (hS.box 1 rfl) rfl)), ?_⟩
 replace hS : St F_1 (Ow.own 28 17 e_api_Addr vr_1 r_1 :: fr) h_4 := hS.perm2 [0] 3 rfl rfl
 exact ⟨F_1, f_Exclude, r_1, vr_1, rfl, hK, hS, hL_f_Sources, hM⟩
def compat_last_W (v6 : Bool) (Q : Int → Prop) : Prop :=
 (v6 = true → Q 2) ∧ (v6 = false → Q 3)
theorem compat_last_walk {F : Fz} {fr : List Ow} {h0 : Heap} (v6 : Bool) (hS : St F (fr) h0)  {Q : Int → Prop} (hM : compat_last_W v6 Q) :
  HC Tryz.prog 114 #[.bool v6] h0 fun u h' => ∃ (F' : Fz) (r_1 : Int), u = .int .i64 r_1 ∧ Kp F h0 F' h' ∧ St F' (fr) h' ∧ Q r_1 := by
 unfold compat_last_W at hM
 have hK := Kp.refl F h0
 refine HC.of_HW (n := 4) Tryz.func114 rfl rfl (Nat.le_of_ble_eq_true rfl) ?_
 refine HW.seq ?_
 refine HW.region ?_
 refine oA (.int .i64 0) rfl rfl ?_
 refine HO.nil (thenQ_normal (?_))
 refine HW.seq ?_
 refine HW.seq ?_
 refine HW.region ?_
 refine oM (.bool v6) rfl rfl ?_
 refine HO.nil (thenQ_normal (?_))
 refine HW.cond v6 rfl (fun c_1 => ?_) (fun c_1 => ?_)
 ·
  replace hM := hM.1 c_1
  refine HW.seq ?_
  refine HW.region ?_
  refine oA (.int .i64 2) rfl rfl ?_
  refine HO.nil (thenQ_normal (?_))
  refine HW.ret (thenQ_ret (?_))
  refine ⟨.inr rfl, .int .i64 2, res1 rfl (rt rfl), ?_⟩
  exact ⟨F, 2, rfl, hK, hS, hM⟩
 ·
  replace hM := hM.2 c_1
  refine HW.skip (thenQ_normal (?_))
  refine HW.seq ?_
  refine HW.region ?_
  refine oA (.int .i64 3) rfl rfl ?_
  refine HO.nil (thenQ_normal (?_))
  refine HW.ret (?_)
  refine ⟨.inr rfl, .int .i64 3, res1 rfl (rt rfl), ?_⟩
  exact ⟨F, 3, rfl, hK, hS, hM⟩
def compat_Mode_j1 (v6 : Bool) (Q : Int → Prop) : Prop :=
 compat_last_W v6 (fun r_2 => Q r_2)
def compat_Mode_W (v6 : Bool) (now : Int) (one : Int) (two : Int) (Q : Int → Prop) : Prop :=
 (now < one → Q 1) ∧ (¬ (now < one) → ((!v6) = true → (now < two → Q 2) ∧ (¬ (now < two) → compat_Mode_j1 v6 Q)) ∧ ((!v6) = false → compat_Mode_j1 v6 Q))
theorem compat_Mode_walk {F : Fz} {fr : List Ow} {h0 : Heap} (v6 : Bool) (now : Int) (one : Int) (two : Int) (hS : St F (fr) h0)  {Q : Int → Prop} (hM : compat_Mode_W v6 now one two Q) :
  HC Tryz.prog 113 #[.bool v6, .int .i64 now, .int .i64 one, .int .i64 two] h0 fun u h' => ∃ (F' : Fz) (r_1 : Int), u = .int .i64 r_1 ∧ Kp F h0 F' h' ∧ St F' (fr) h' ∧ Q r_1 := by
 unfold compat_Mode_W at hM
 have hK := Kp.refl F h0
 refine HC.of_HW (n := 23) Tryz.func113 rfl rfl (Nat.le_of_ble_eq_true rfl) ?_
 refine HW.seq ?_
 refine HW.region ?_
 refine oA (.int .i64 0) rfl rfl ?_
 refine HO.nil (thenQ_normal (?_))
 refine HW.seq_mid (fun f h => ∃ (F' : Fz), f 0 = .bool v6 ∧ f 8 = .int .i64 0 ∧ Kp F h0 F' h ∧ St F' (fr) h ∧ compat_Mode_j1 v6 Q) ?_ ?_
 ·
  refine HW.block ?_
  refine HW.seq ?_
  refine HW.region ?_
  refine oM (.int .i64 one) rfl rfl ?_
  refine oM (.int .i64 now) rfl rfl ?_
  refine oV (.bool (decide (now < one))) (q_gtr rfl rfl) rfl ?_
  refine oA (.bool (decide (now < one))) rfl rfl ?_
  refine HO.nil (thenQ_normal (?_))
  refine HW.cond (decide (now < one)) rfl (fun c_1 => ?_) (fun c_1 => ?_)
  ·
   replace hM := hM.1 (of_decide_eq_true c_1)
   refine HW.seq ?_
   refine HW.region ?_
   refine oA (.int .i64 1) rfl rfl ?_
   refine HO.nil (thenQ_normal (?_))
   refine HW.ret (blockQ_ret (thenQ_ret (?_)))
   refine ⟨.inr rfl, .int .i64 1, res1 rfl (rt rfl), ?_⟩
   exact ⟨F, 1, rfl, hK, hS, hM⟩
  ·
   replace hM := hM.2 (of_decide_eq_false c_1)
   refine HW.seq ?_
   refine HW.region ?_
   refine oM (.bool v6) rfl rfl ?_
   refine oV (.bool (!v6)) (q_not rfl) rfl ?_
   refine oM (.bool (!v6)) rfl rfl ?_
   rcases Bool.eq_false_or_eq_true (!v6) with c_2 | c_2
   ·
    replace hM := hM.1 c_2
    refine HO.val (v := .int .i64 two) (want_by rfl rfl c_2) rfl (q_move rfl) ?_
    refine HO.val (v := .int .i64 now) (want_by rfl rfl c_2) rfl (q_move rfl) ?_
    refine HO.val (v := .bool (decide (now < two))) (want_by rfl rfl c_2) rfl (q_gtr rfl rfl) ?_
    refine oV (.bool (decide (now < two))) (q_pickK true rfl c_2 rfl) rfl ?_
    refine oA (.bool (decide (now < two))) rfl rfl ?_
    refine HO.nil (thenQ_normal (?_))
    refine HW.cond (decide (now < two)) rfl (fun c_3 => ?_) (fun c_3 => ?_)
    ·
     replace hM := hM.1 (of_decide_eq_true c_3)
     refine HW.seq ?_
     refine HW.region ?_
     refine oA (.int .i64 2) rfl rfl ?_
     refine HO.nil (thenQ_normal (?_))
     refine HW.ret (blockQ_ret (thenQ_ret (?_)))
     refine ⟨.inr rfl, .int .i64 2, res1 rfl (rt rfl), ?_⟩
     exact ⟨F, 2, rfl, hK, hS, hM⟩
    ·
     replace hM := hM.2 (of_decide_eq_false c_3)
     refine HW.skip (blockQ_normal (thenQ_normal (?_)))
     exact ⟨F, rfl, rfl, hK, hS, hM⟩
   ·
    replace hM := hM.2 c_2
    refine HO.past (past_by rfl rfl c_2) rfl ?_
    refine HO.past (past_by rfl rfl c_2) rfl ?_
    refine HO.past (past_by rfl rfl c_2) rfl ?_
    refine oV (.bool false) (q_pickK false rfl c_2 rfl) rfl ?_
    refine oA (.bool false) rfl rfl ?_
    refine HO.nil (thenQ_normal (?_))
    refine HW.condF rfl ?_
    refine HW.skip (blockQ_normal (thenQ_normal (?_)))
    exact ⟨F, rfl, rfl, hK, hS, hM⟩
 ·
  rintro f_1 h_1 ⟨F_1, e0, e8, hK, hS, hM⟩
  unfold compat_Mode_j1 at hM
  refine HW.fr [(0, .bool v6), (8, .int .i64 0)] ⟨e0, e8, trivial⟩ ?_
  refine HW.seq ?_
  refine HW.region ?_
  refine oM (.bool v6) rfl rfl ?_
  refine HO.call (want_none) rfl (ec en_114 rfl rfl) (compat_last_walk (fr := (fr)) v6 hS hM) ?_
  rintro _ h_2 ⟨F_2, r_2, rfl, hk, hS, hM⟩
  replace hK := hK.trans hk
  refine oA (.int .i64 r_2) rfl rfl ?_
  refine HO.nil (thenQ_normal (?_))
  refine HW.ret (?_)
  refine ⟨.inr rfl, .int .i64 r_2, res1 rfl (rt rfl), ?_⟩
  exact ⟨F_2, r_2, rfl, hK, hS, hM⟩
def host_Host_mode_W (h_v6 : Bool) (h_now : Int) (h_want : List (T_api_Addr × T_api_Filter)) (h_one : Int) (h_two : Int) (Q : Int → Prop) : Prop :=
 compat_Mode_W h_v6 h_now h_one h_two (fun r_2 => Q r_2)
theorem host_Host_mode_walk {F : Fz} {fr : List Ow} {h0 : Heap} (h_v6 : Bool) (h_now : Int) (h_want : List (T_api_Addr × T_api_Filter)) (h_one : Int) (h_two : Int) (bh : Nat) (rh_want : Nat) (hS : St F (fr) h0) (hN_h_want : NfL nf_api_Filter F h0 (h_want.map (·.2))) (hM_rh_want : RoF (Ow.map rh_want (fun (x : T_api_Addr) => .agg (e_api_Addr x).toArray) (fun (x : T_api_Filter) => .agg #[.bool x.1, x.2.1]) h_want) F h0) (hB_bh : RoF (Ow.box bh 97 #[.bool h_v6, .int .i64 h_now, .map (some rh_want), .int .i64 h_one, .int .i64 h_two]) F h0) {Q : Int → Prop} (hM : host_Host_mode_W h_v6 h_now h_want h_one h_two Q) :
  HC Tryz.prog 60 #[.pointer (some ⟨bh, 0, none⟩)] h0 fun u h' => ∃ (F' : Fz) (r_1 : Int), u = .int .i64 r_1 ∧ Kp F h0 F' h' ∧ St F' (fr) h' ∧ (NfL nf_api_Filter F' h' (h_want.map (·.2))) ∧ (RoF (Ow.map rh_want (fun (x : T_api_Addr) => .agg (e_api_Addr x).toArray) (fun (x : T_api_Filter) => .agg #[.bool x.1, x.2.1]) h_want) F' h') ∧ (RoF (Ow.box bh 97 #[.bool h_v6, .int .i64 h_now, .map (some rh_want), .int .i64 h_one, .int .i64 h_two]) F' h') ∧ Q r_1 := by
 unfold host_Host_mode_W at hM
 have hK := Kp.refl F h0
 refine HC.of_HW (n := 20) Tryz.func60 rfl rfl (Nat.le_of_ble_eq_true rfl) ?_
 refine HW.seq ?_
 refine HW.region ?_
 refine oA (.int .i64 0) rfl rfl ?_
 refine HO.nil (thenQ_normal (?_))
 refine HW.seq ?_
 refine HW.regionA 18 mixed (fun h => (Blk h bh (.cells #[.bool h_v6, .int .i64 h_now, .map (some rh_want), .int .i64 h_one, .int .i64 h_two] 97 (0, 0)))) [] (by kernel_rfl) ?_
 refine HA.val (k := 0) (v := .pointer (some ⟨bh, 0, none⟩)) rfl rfl (by kernel_rfl) (by kernel_rfl) (want_none) rfl (fun _ hB_bh => q_move rfl) ?_
 refine HA.val (k := 1) (v := .pointer (some ⟨bh, 0, none⟩)) rfl rfl (by kernel_rfl) (by kernel_rfl) (want_none) rfl (fun _ hB_bh => q_nilCheck rfl) ?_
 refine HA.val (k := 2) (v := .pointer (some ⟨bh, 0, none⟩)) rfl rfl (by kernel_rfl) (by kernel_rfl) (want_none) rfl (fun _ hB_bh => q_fieldAddr fa_97_0 rfl rfl) ?_
 refine HA.val (k := 3) (v := .bool h_v6) rfl rfl (by kernel_rfl) (by kernel_rfl) (want_none) rfl (fun _ hB_bh => q_load to_4 rfl (Blk.cell hB_bh rfl)) ?_
 refine HA.val (k := 4) (v := .pointer (some ⟨bh, 0, none⟩)) rfl rfl (by kernel_rfl) (by kernel_rfl) (want_none) rfl (fun _ hB_bh => q_move rfl) ?_
 refine HA.val (k := 5) (v := .pointer (some ⟨bh, 0, none⟩)) rfl rfl (by kernel_rfl) (by kernel_rfl) (want_none) rfl (fun _ hB_bh => q_nilCheck rfl) ?_
 refine HA.val (k := 6) (v := .pointer (some ⟨bh, 1, none⟩)) rfl rfl (by kernel_rfl) (by kernel_rfl) (want_none) rfl (fun _ hB_bh => q_fieldAddr fa_97_1 rfl rfl) ?_
 refine HA.val (k := 7) (v := .int .i64 h_now) rfl rfl (by kernel_rfl) (by kernel_rfl) (want_none) rfl (fun _ hB_bh => q_load to_3 rfl (Blk.cell hB_bh rfl)) ?_
 refine HA.val (k := 8) (v := .pointer (some ⟨bh, 0, none⟩)) rfl rfl (by kernel_rfl) (by kernel_rfl) (want_none) rfl (fun _ hB_bh => q_move rfl) ?_
 refine HA.val (k := 9) (v := .pointer (some ⟨bh, 0, none⟩)) rfl rfl (by kernel_rfl) (by kernel_rfl) (want_none) rfl (fun _ hB_bh => q_nilCheck rfl) ?_
 refine HA.val (k := 10) (v := .pointer (some ⟨bh, 3, none⟩)) rfl rfl (by kernel_rfl) (by kernel_rfl) (want_none) rfl (fun _ hB_bh => q_fieldAddr fa_97_3 rfl rfl) ?_
 refine HA.val (k := 11) (v := .int .i64 h_one) rfl rfl (by kernel_rfl) (by kernel_rfl) (want_none) rfl (fun _ hB_bh => q_load to_3 rfl (Blk.cell hB_bh rfl)) ?_
 refine HA.val (k := 12) (v := .pointer (some ⟨bh, 0, none⟩)) rfl rfl (by kernel_rfl) (by kernel_rfl) (want_none) rfl (fun _ hB_bh => q_move rfl) ?_
 refine HA.val (k := 13) (v := .pointer (some ⟨bh, 0, none⟩)) rfl rfl (by kernel_rfl) (by kernel_rfl) (want_none) rfl (fun _ hB_bh => q_nilCheck rfl) ?_
 refine HA.val (k := 14) (v := .pointer (some ⟨bh, 4, none⟩)) rfl rfl (by kernel_rfl) (by kernel_rfl) (want_none) rfl (fun _ hB_bh => q_fieldAddr fa_97_4 rfl rfl) ?_
 refine HA.val (k := 15) (v := .int .i64 h_two) rfl rfl (by kernel_rfl) (by kernel_rfl) (want_none) rfl (fun _ hB_bh => q_load to_3 rfl (Blk.cell hB_bh rfl)) ?_
 refine HA.one (k := 16) ⟨hB_bh.box, (Go.Wk.at_nil _ _)⟩ (by kernel_rfl) ?_
 refine HS.call rfl (want_none) rfl (ec en_113 rfl rfl) (compat_Mode_walk (fr := (fr)) h_v6 h_now h_one h_two hS hM) ?_
 rintro _ h_1 ⟨F_1, r_2, rfl, hk, hS, hM⟩
 replace hK := hK.trans hk
 replace hN_h_want := hN_h_want.kp hk
 replace hM_rh_want := hM_rh_want.kp hk
 replace hB_bh := hB_bh.kp hk
 refine HA.val (k := 17) (v := .int .i64 r_2) rfl rfl (by kernel_rfl) (by kernel_rfl) (want_none) rfl (fun _ hB_bh => q_assign rfl) ?_
 refine HA.nil ⟨hB_bh.box, (Go.Wk.at_nil _ _)⟩ (by kernel_rfl) (thenQ_normal (?_))
 refine HW.ret (?_)
 refine ⟨.inr rfl, .int .i64 r_2, res1 rfl (rt rfl), ?_⟩
 exact ⟨F_1, r_2, rfl, hK, hS, hN_h_want, hM_rh_want, hB_bh, hM⟩
def compat_Last_W (v6 : Bool) (Q : Int → Prop) : Prop :=
 compat_last_W v6 (fun r_2 => Q r_2)
theorem compat_Last_walk {F : Fz} {fr : List Ow} {h0 : Heap} (v6 : Bool) (hS : St F (fr) h0)  {Q : Int → Prop} (hM : compat_Last_W v6 Q) :
  HC Tryz.prog 61 #[.bool v6] h0 fun u h' => ∃ (F' : Fz) (r_1 : Int), u = .int .i64 r_1 ∧ Kp F h0 F' h' ∧ St F' (fr) h' ∧ Q r_1 := by
 unfold compat_Last_W at hM
 have hK := Kp.refl F h0
 refine HC.of_HW (n := 5) Tryz.func61 rfl rfl (Nat.le_of_ble_eq_true rfl) ?_
 refine HW.seq ?_
 refine HW.region ?_
 refine oA (.int .i64 0) rfl rfl ?_
 refine HO.nil (thenQ_normal (?_))
 refine HW.seq ?_
 refine HW.region ?_
 refine oM (.bool v6) rfl rfl ?_
 refine HO.call (want_none) rfl (ec en_114 rfl rfl) (compat_last_walk (fr := (fr)) v6 hS hM) ?_
 rintro _ h_1 ⟨F_1, r_2, rfl, hk, hS, hM⟩
 replace hK := hK.trans hk
 refine oA (.int .i64 r_2) rfl rfl ?_
 refine HO.nil (thenQ_normal (?_))
 refine HW.ret (?_)
 refine ⟨.inr rfl, .int .i64 r_2, res1 rfl (rt rfl), ?_⟩
 exact ⟨F_1, r_2, rfl, hK, hS, hM⟩
def srcs_walk_1_api_Addr_W (x : T_api_Addr) (is : Bool) (c0_v : List T_api_Addr) (Q : (List T_api_Addr) → Prop) : Prop :=
 (is = true → ((c0_v.length + ([x] : List T_api_Addr).length) * 17 ≤ 140737488355328) ∧ (Q (c0_v ++ ([x] : List T_api_Addr)))) ∧ (is = false → Q c0_v)
theorem srcs_walk_1_api_Addr_walk {F : Fz} {fr : List Ow} {h0 : Heap} (x : T_api_Addr) (is : Bool) (c0_v : List T_api_Addr) (bc0 : Nat) (vc0_v : Value) (hS : St F (Ow.box bc0 29 #[vc0_v] :: Ow.own 28 17 e_api_Addr vc0_v c0_v :: fr) h0)  {Q : (List T_api_Addr) → Prop} (hM : srcs_walk_1_api_Addr_W x is c0_v Q) :
  HC Tryz.prog 178 #[.agg (e_api_Addr x).toArray, .bool is, .pointer (some ⟨bc0, 0, none⟩)] h0 fun u h' => ∃ (F' : Fz) (a2_0_2 : List T_api_Addr) (v_1 : Value), u = .tuple #[] ∧ Kp F h0 F' h' ∧ St F' (Ow.box bc0 29 #[v_1] :: Ow.own 28 17 e_api_Addr v_1 a2_0_2 :: fr) h' ∧ Q a2_0_2 := by
 unfold srcs_walk_1_api_Addr_W at hM
 have hK := Kp.refl F h0
 refine HC.of_HW (n := 10) Tryz.func178 rfl rfl (Nat.le_of_ble_eq_true rfl) ?_
 refine HW.seq ?_
 refine HW.region ?_
 refine HO.eff (want_none) rfl (st_box (c := (e_api_Addr x).toArray) (k' := 17) hS rfl rfl) ?_
 rintro _ h_1 ⟨b_1, rfl, hS, hk⟩
 replace hK := hK.trans hk
 refine HO.nil (thenQ_normal (?_))
 refine HW.seq ?_
 refine HW.region ?_
 refine oM (.bool is) rfl rfl ?_
 refine HO.nil (thenQ_normal (?_))
 refine HW.cond is rfl (fun c_1 => ?_) (fun c_1 => ?_)
 ·
  replace hM := hM.1 c_1
  refine HW.region ?_
  refine oV (vc0_v) (q_load to_29 rfl (Blk.cell (hS.box 1 rfl) rfl)) rfl ?_
  refine oV (.agg (e_api_Addr x).toArray) (q_loadAgg (cs := (e_api_Addr x)) ta_28 rfl rfl (Blk.cells (k := 17) (hS.box 0 rfl) rfl)) rfl ?_
  refine HO.eff (want_none) rfl (st_lit (enc := e_api_Addr) (cells := #[.bool x.1, .int .u8 (b8 x.2 0), .int .u8 (b8 x.2 1), .int .u8 (b8 x.2 2), .int .u8 (b8 x.2 3), .int .u8 (b8 x.2 4), .int .u8 (b8 x.2 5), .int .u8 (b8 x.2 6), .int .u8 (b8 x.2 7), .int .u8 (b8 x.2 8), .int .u8 (b8 x.2 9), .int .u8 (b8 x.2 10), .int .u8 (b8 x.2 11), .int .u8 (b8 x.2 12), .int .u8 (b8 x.2 13), .int .u8 (b8 x.2 14), .int .u8 (b8 x.2 15)]) #[.bool false, .int .u8 0, .int .u8 0, .int .u8 0, .int .u8 0, .int .u8 0, .int .u8 0, .int .u8 0, .int .u8 0, .int .u8 0, .int .u8 0, .int .u8 0, .int .u8 0, .int .u8 0, .int .u8 0, .int .u8 0, .int .u8 0] ([x] : List T_api_Addr) hS tl_29 (by decide) (by decide) (by kernel_rfl) (by kernel_rfl) rfl (by intro x hx; rfl) rfl) ?_
  rintro _ h_2 ⟨b_2, rfl, hS, hk⟩
  replace hK := hK.trans hk
  obtain ⟨ho_1, hM⟩ := hM
  refine HO.eff (want_none) rfl (st_append te_29 hS (i := 3) rfl (hS.own 0 rfl).slice rfl rfl rfl (by intro a _ u hu; simp [e_api_Addr, encI, encN, encB, encT] at hu; rcases hu with rfl | rfl | rfl | rfl | rfl | rfl | rfl | rfl | rfl | rfl | rfl | rfl | rfl | rfl | rfl | rfl | rfl <;> rfl) ho_1 (by omega)) ?_
  rintro v_2 h_3 ⟨hS, hk⟩
  replace hK := hK.trans hk
  refine HO.sto (want_none) rfl (st_store (c' := #[v_2]) hS (i := 2) rfl to_29 rfl rfl (shp (hS.own 3 rfl).slice).cells (shp (hS.own 3 rfl).slice).one (Nat.le_of_ble_eq_true rfl) rfl) ?_
  rintro h_4 ⟨hS, hk⟩
  replace hK := hK.trans hk
  refine HO.nil (?_)
  refine ⟨.inl rfl, .tuple #[], res0 rfl , ?_⟩
  replace hS : St F (Ow.box bc0 29 #[v_2] :: Ow.own 28 17 e_api_Addr v_2 (c0_v ++ ([x] : List T_api_Addr)) :: fr) h_4 := hS.perm2 [2, 3] 4 rfl rfl
  exact ⟨F, c0_v ++ ([x] : List T_api_Addr), v_2, rfl, hK, hS, hM⟩
 ·
  replace hM := hM.2 c_1
  refine HW.skip (?_)
  refine ⟨.inl rfl, .tuple #[], res0 rfl , ?_⟩
  replace hS : St F (Ow.box bc0 29 #[vc0_v] :: Ow.own 28 17 e_api_Addr vc0_v c0_v :: fr) h_1 := hS.perm2 [1, 2] 3 rfl rfl
  exact ⟨F, c0_v, vc0_v, rfl, hK, hS, hM⟩
end Go.Wk
