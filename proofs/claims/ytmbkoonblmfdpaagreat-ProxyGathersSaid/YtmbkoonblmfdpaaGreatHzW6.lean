/- Walks of Host and Proxy. -/
import Derived.Test.YtmbkoonblmfdpaaGreatHzW5
set_option linter.unusedSimpArgs false
set_option linter.unusedVariables false
set_option linter.unusedSectionVars false
set_option maxHeartbeats 40000000
set_option maxRecDepth 100000
namespace Go.Wk
open Go.HL
open Go.Proofs hiding encI
variable [DM]
def host_Host_Groups_W (h_v6 : Bool) (h_now : Int) (h_want : List (T_api_Addr × T_api_Filter)) (h_one : Int) (h_two : Int) (Q : (List T_api_Addr) → Prop) : Prop :=
 host_Host_groups_W h_v6 h_now h_want h_one h_two (fun r_2 => Q r_2)
theorem host_Host_Groups_walk {F : Fz} {fr : List Ow} {h0 : Heap} (h_v6 : Bool) (h_now : Int) (h_want : List (T_api_Addr × T_api_Filter)) (h_one : Int) (h_two : Int) (bh : Nat) (rh_want : Nat) (hS : St F (fr) h0) (hN_h_want : NfL nf_api_Filter F h0 (h_want.map (·.2))) (hM_rh_want : RoF (Ow.map rh_want (fun (x : T_api_Addr) => .agg (e_api_Addr x).toArray) (fun (x : T_api_Filter) => .agg #[.bool x.1, x.2.1]) h_want) F h0) (hB_bh : RoF (Ow.box bh 97 #[.bool h_v6, .int .i64 h_now, .map (some rh_want), .int .i64 h_one, .int .i64 h_two]) F h0) {Q : (List T_api_Addr) → Prop} (hM : host_Host_Groups_W h_v6 h_now h_want h_one h_two Q) :
  HC Tryz.prog 26 #[.pointer (some ⟨bh, 0, none⟩)] h0 fun u h' => ∃ (F' : Fz) (r_1 : List T_api_Addr) (vr_1 : Value), u = vr_1 ∧ Kp F h0 F' h' ∧ St F' (Ow.own 28 17 e_api_Addr vr_1 r_1 :: fr) h' ∧ (NfL nf_api_Filter F' h' (h_want.map (·.2))) ∧ (RoF (Ow.map rh_want (fun (x : T_api_Addr) => .agg (e_api_Addr x).toArray) (fun (x : T_api_Filter) => .agg #[.bool x.1, x.2.1]) h_want) F' h') ∧ (RoF (Ow.box bh 97 #[.bool h_v6, .int .i64 h_now, .map (some rh_want), .int .i64 h_one, .int .i64 h_two]) F' h') ∧ Q r_1 := by
 unfold host_Host_Groups_W at hM
 have hK := Kp.refl F h0
 refine HC.of_HW (n := 7) Tryz.func26 rfl rfl (Nat.le_of_ble_eq_true rfl) ?_
 refine HW.seq ?_
 refine HW.region ?_
 refine oA (.slice none 0 0) rfl rfl ?_
 refine HO.nil (thenQ_normal (?_))
 refine HW.seq ?_
 refine HW.seq ?_
 refine HW.region ?_
 refine oM (.pointer (some ⟨bh, 0, none⟩)) rfl rfl ?_
 refine oV (.bool false) (q_eqlPnil Tryz.underlying42 rfl rfl rfl) rfl ?_
 refine HO.nil (thenQ_normal (?_))
 refine HW.condF rfl ?_
 refine HW.skip (thenQ_normal (?_))
 refine HW.seq ?_
 refine HW.region ?_
 refine oM (.pointer (some ⟨bh, 0, none⟩)) rfl rfl ?_
 refine HO.call (want_none) rfl (ec en_58 rfl rfl) (host_Host_groups_walk (fr := (fr)) h_v6 h_now h_want h_one h_two bh rh_want hS hN_h_want hM_rh_want hB_bh hM) ?_
 rintro vr_2 h_1 ⟨F_1, r_2, _, rfl, hk, hS, _, _, _, hM⟩
 replace hK := hK.trans hk
 replace hN_h_want := hN_h_want.kp hk
 replace hM_rh_want := hM_rh_want.kp hk
 replace hB_bh := hB_bh.kp hk
 refine oA (vr_2) rfl rfl ?_
 refine HO.nil (thenQ_normal (?_))
 refine HW.ret (?_)
 refine ⟨.inr rfl, vr_2, res1 rfl (rt rfl), ?_⟩
 exact ⟨F_1, r_2, vr_2, rfl, hK, hS, hN_h_want, hM_rh_want, hB_bh, hM⟩
def proxy_Proxy_packed_j1 (l : List T_api_Talk) (out_1 : List T_api_Talk) (records_1 : List T_api_Record) (n_1 : Int) (K_1 : (List T_api_Talk) → (List T_api_Record) → Int → Prop) (t_24_1 : List T_api_Addr) (t_25_1 : List T_api_Record) (b_2 : Bool) : Prop :=
 (b_2 = true → ((records_1.length + t_25_1.length) * 56 ≤ 140737488355328) ∧ ((I64 (n_1 + 1)) ∧ (K_1 out_1 (records_1 ++ t_25_1) (n_1 + 1)))) ∧ (b_2 = false → ∀ vt_24_1 : Value, (∀ vt_25_1 : Value, (((out_1.length + ([((gi l n_1).1, (gi l n_1).2.1, (gi l n_1).2.2.1, (gi l n_1).2.2.2.1, ((gi l n_1).2.2.2.2.1), (gi l n_1).2.2.2.2.2.1, (gi l n_1).2.2.2.2.2.2.1, (gi l n_1).2.2.2.2.2.2.2.1, (vt_24_1, t_24_1), (vt_25_1, t_25_1))] : List T_api_Talk).length) * 120 ≤ 140737488355328) ∧ ((I64 (n_1 + 1)) ∧ (K_1 (out_1 ++ ([((gi l n_1).1, (gi l n_1).2.1, (gi l n_1).2.2.1, (gi l n_1).2.2.2.1, ((gi l n_1).2.2.2.2.1), (gi l n_1).2.2.2.2.2.1, (gi l n_1).2.2.2.2.2.2.1, (gi l n_1).2.2.2.2.2.2.2.1, (vt_24_1, t_24_1), (vt_25_1, t_25_1))] : List T_api_Talk)) records_1 (n_1 + 1))))))
def proxy_Proxy_packed_l1 (p_v6 : Bool) (p_h_v6 : Bool) (p_h_now : Int) (p_h_want : List (T_api_Addr × T_api_Filter)) (p_h_one : Int) (p_h_two : Int) (p_lost : Int) (l : List T_api_Talk) (Q : (List T_api_Talk) → Bool → Bool → Int → (List (T_api_Addr × T_api_Filter)) → Int → Int → Int → Prop) (K_1 : (List T_api_Talk) → (List T_api_Record) → Int → Prop) (out_1 : List T_api_Talk) (records_1 : List T_api_Record) (n_1 : Int) : Prop :=
 (n_1 < (l.length : Int) → ((0 : Int) ≤ n_1 ∧ n_1 < (l.length : Int)) ∧ ((((gi l n_1).2.2.1) = 2 → compat_Last_W p_v6 (fun r_2 => proxy_Proxy_packed_j1 l out_1 records_1 n_1 K_1 (((gi l n_1).2.2.2.2.2.2.2.2.1).2) (((gi l n_1).2.2.2.2.2.2.2.2.2).2) (decide (((gi l n_1).2.1) = r_2)))) ∧ (¬ (((gi l n_1).2.2.1) = 2) → proxy_Proxy_packed_j1 l out_1 records_1 n_1 K_1 (((gi l n_1).2.2.2.2.2.2.2.2.1).2) (((gi l n_1).2.2.2.2.2.2.2.2.2).2) false))) ∧ (¬ (n_1 < (l.length : Int)) → host_Pack_W p_v6 records_1 (fun r_3 => ((out_1.length + r_3.length) * 120 ≤ 140737488355328) ∧ (Q (out_1 ++ r_3) p_v6 p_h_v6 p_h_now p_h_want p_h_one p_h_two p_lost)))
def proxy_Proxy_packed_W (p_v6 : Bool) (p_h_v6 : Bool) (p_h_now : Int) (p_h_want : List (T_api_Addr × T_api_Filter)) (p_h_one : Int) (p_h_two : Int) (p_lost : Int) (l : List T_api_Talk) (Q : (List T_api_Talk) → Bool → Bool → Int → (List (T_api_Addr × T_api_Filter)) → Int → Int → Int → Prop) : Prop :=
 loopW (fun (K_1 : (List T_api_Talk × List T_api_Record × Int) → Prop) (s : List T_api_Talk × List T_api_Record × Int) => proxy_Proxy_packed_l1 p_v6 p_h_v6 p_h_now p_h_want p_h_one p_h_two p_lost l Q (fun out_1 records_1 n_1 => K_1 (out_1, records_1, n_1)) s.1 s.2.1 s.2.2) ([], [], 0)
theorem proxy_Proxy_packed_walk {F : Fz} {fr : List Ow} {h0 : Heap} (p_v6 : Bool) (p_h_v6 : Bool) (p_h_now : Int) (p_h_want : List (T_api_Addr × T_api_Filter)) (p_h_one : Int) (p_h_two : Int) (p_lost : Int) (l : List T_api_Talk) (bp : Nat) (bp_h : Nat) (rp_h_want : Nat) (vl : Value) (hS : St F (Ow.box bp 141 #[.bool p_v6, .pointer (some ⟨bp_h, 0, none⟩), .int .i64 p_lost] :: Ow.box bp_h 97 #[.bool p_h_v6, .int .i64 p_h_now, .map (some rp_h_want), .int .i64 p_h_one, .int .i64 p_h_two] :: Ow.map rp_h_want (fun (x : T_api_Addr) => .agg (e_api_Addr x).toArray) (fun (x : T_api_Filter) => .agg #[.bool x.1, x.2.1]) p_h_want :: Ow.own 31 26 e_api_Talk vl l :: fr) h0) (hN_p_h_want : NfL nf_api_Filter F h0 (p_h_want.map (·.2))) (hN_l : NfL nf_api_Talk F h0 l) {Q : (List T_api_Talk) → Bool → Bool → Int → (List (T_api_Addr × T_api_Filter)) → Int → Int → Int → Prop} (hM : proxy_Proxy_packed_W p_v6 p_h_v6 p_h_now p_h_want p_h_one p_h_two p_lost l Q) :
  HC Tryz.prog 87 #[.pointer (some ⟨bp, 0, none⟩), vl] h0 fun u h' => ∃ (F' : Fz) (r_1 : List T_api_Talk) (p_v6_1 : Bool) (p_v6_2 : Bool) (p_now_1 : Int) (pm_1 : List (T_api_Addr × T_api_Filter)) (p_one_1 : Int) (p_two_1 : Int) (p_lost_1 : Int) (vr_1 : Value), u = vr_1 ∧ Kp F h0 F' h' ∧ St F' (Ow.own 31 26 e_api_Talk vr_1 r_1 :: Ow.box bp 141 #[.bool p_v6_1, .pointer (some ⟨bp_h, 0, none⟩), .int .i64 p_lost_1] :: Ow.box bp_h 97 #[.bool p_v6_2, .int .i64 p_now_1, .map (some rp_h_want), .int .i64 p_one_1, .int .i64 p_two_1] :: Ow.map rp_h_want (fun (x : T_api_Addr) => .agg (e_api_Addr x).toArray) (fun (x : T_api_Filter) => .agg #[.bool x.1, x.2.1]) pm_1 :: fr) h' ∧ (NfL nf_api_Filter F' h' (p_h_want.map (·.2))) ∧ (NfL nf_api_Talk F' h' l) ∧ (NfL nf_api_Talk F' h' r_1) ∧ (NfL nf_api_Filter F' h' (pm_1.map (·.2))) ∧ Q r_1 p_v6_1 p_v6_2 p_now_1 pm_1 p_one_1 p_two_1 p_lost_1 := by
 unfold proxy_Proxy_packed_W at hM
 have hK := Kp.refl F h0
 refine HC.of_HW (n := 45) Tryz.func87 rfl rfl (Nat.le_of_ble_eq_true rfl) ?_
 refine HW.seq ?_
 refine HW.region ?_
 refine oA (.slice none 0 0) rfl rfl ?_
 refine HO.nil (thenQ_normal (?_))
 refine HW.seq ?_
 refine HW.region ?_
 refine oA (.slice none 0 0) rfl rfl ?_
 refine HO.nil (thenQ_normal (?_))
 refine HW.seq ?_
 refine HW.region ?_
 refine oA (.slice none 0 0) rfl rfl ?_
 refine HO.nil (thenQ_normal (?_))
 refine HW.seq ?_
 refine HW.seq ?_
 refine HW.region ?_
 refine oM (vl) rfl rfl ?_
 refine oV (.int .i64 (l.length : Int)) (q_len ts_33 (shp (hS.own 3 rfl).slice) rfl rfl) rfl ?_
 refine oM (.int .i64 0) rfl rfl ?_
 refine HO.nil (thenQ_normal (?_))
 refine HW.block ?_
 obtain ⟨I_1, m_1, hI_1, hR_1⟩ := hM
 replace hS := hS.nilOwn 31 26 e_api_Talk
 have hN_5 : NfL nf_api_Talk F h0 ([] : List T_api_Talk) := NfL.nil _ _ _
 replace hS := hS.nilOwn 89 19 e_api_Record
 have hN_6 : NfL nf_api_Record F h0 ([] : List T_api_Record) := NfL.nil _ _ _
 replace hS : St F (Ow.box bp 141 #[.bool p_v6, .pointer (some ⟨bp_h, 0, none⟩), .int .i64 p_lost] :: Ow.box bp_h 97 #[.bool p_h_v6, .int .i64 p_h_now, .map (some rp_h_want), .int .i64 p_h_one, .int .i64 p_h_two] :: Ow.map rp_h_want (fun (x : T_api_Addr) => .agg (e_api_Addr x).toArray) (fun (x : T_api_Filter) => .agg #[.bool x.1, x.2.1]) p_h_want :: Ow.own 31 26 e_api_Talk (.slice none 0 0) ([] : List T_api_Talk) :: Ow.own 89 19 e_api_Record (.slice none 0 0) ([] : List T_api_Record) :: Ow.own 31 26 e_api_Talk vl l :: fr) h0 := hS.perm2 [2, 3, 4, 1, 0, 5] 6 rfl rfl
 refine HW.loop (S := List T_api_Talk × List T_api_Record × Int) (fun s f h => match s with | (out_1, records_1, n_1) => ∃ (F' : Fz) (vout_1 : Value) (vrecords_1 : Value), f 0 = .pointer (some ⟨bp, 0, none⟩) ∧ f 4 = .slice none 0 0 ∧ f 5 = vout_1 ∧ f 6 = vrecords_1 ∧ f 9 = vl ∧ f 10 = .int .i64 (l.length : Int) ∧ f 11 = .int .i64 n_1 ∧ Kp F h0 F' h ∧ St F' (Ow.box bp 141 #[.bool p_v6, .pointer (some ⟨bp_h, 0, none⟩), .int .i64 p_lost] :: Ow.box bp_h 97 #[.bool p_h_v6, .int .i64 p_h_now, .map (some rp_h_want), .int .i64 p_h_one, .int .i64 p_h_two] :: Ow.map rp_h_want (fun (x : T_api_Addr) => .agg (e_api_Addr x).toArray) (fun (x : T_api_Filter) => .agg #[.bool x.1, x.2.1]) p_h_want :: Ow.own 31 26 e_api_Talk vout_1 out_1 :: Ow.own 89 19 e_api_Record vrecords_1 records_1 :: Ow.own 31 26 e_api_Talk vl l :: fr) h ∧ (NfL nf_api_Filter F' h (p_h_want.map (·.2))) ∧ (NfL nf_api_Talk F' h l) ∧ (NfL nf_api_Talk F' h out_1) ∧ (NfL nf_api_Record F' h records_1) ∧ I_1 (out_1, records_1, n_1)) m_1 ([], [], 0) ⟨F, .slice none 0 0, .slice none 0 0, rfl, rfl, rfl, rfl, rfl, rfl, rfl, hK, hS, hN_p_h_want, hN_l, hN_5, hN_6, hI_1⟩ ?_
 rintro ⟨out_1, records_1, n_1⟩ f_1 h_1 ⟨F_1, vout_1, vrecords_1, e0, e4, e5, e6, e9, e10, e11, hK, hS, hN_p_h_want, hN_l, hN_3, hN_4, hI0⟩
 obtain ⟨K_1, hKe_1⟩ : ∃ K : (List T_api_Talk) → (List T_api_Record) → Int → Prop, K = fun out_1' records_1' n_1' => I_1 (out_1', records_1', n_1') ∧ m_1 (out_1', records_1', n_1') < m_1 (out_1, records_1, n_1) := ⟨_, rfl⟩
 have hM : proxy_Proxy_packed_l1 p_v6 p_h_v6 p_h_now p_h_want p_h_one p_h_two p_lost l Q K_1 out_1 records_1 n_1 := by rw [hKe_1]; exact hR_1 (out_1, records_1, n_1) hI0
 unfold proxy_Proxy_packed_l1 at hM
 refine HW.fr [(0, .pointer (some ⟨bp, 0, none⟩)), (4, .slice none 0 0), (5, vout_1), (6, vrecords_1), (9, vl), (10, .int .i64 (l.length : Int)), (11, .int .i64 n_1)] ⟨e0, e4, e5, e6, e9, e10, e11, trivial⟩ ?_
 refine HW.seq ?_
 refine HW.region ?_
 refine oV (.bool (decide (n_1 < (l.length : Int)))) (q_lss rfl rfl) rfl ?_
 refine HO.nil (thenQ_normal (?_))
 refine HW.seq ?_
 refine HW.cond (decide (n_1 < (l.length : Int))) rfl (fun c_1 => ?_) (fun c_1 => ?_)
 ·
  replace hM := hM.1 (of_decide_eq_true c_1)
  refine HW.skip (thenQ_normal (?_))
  refine HW.seq ?_
  refine HW.block ?_
  refine HW.seq ?_
  refine HW.region ?_
  obtain ⟨ho_1, hM⟩ := hM
  refine oV (elemPtr 26 vl (n_1).toNat) (q_idx ts_33 (hS.own 5 rfl).slice rfl rfl ho_1) rfl ?_
  refine oV (.agg (c_api_Talk (.bool ((gi l n_1).1)) (.int .i64 ((gi l n_1).2.1)) (.int .i64 ((gi l n_1).2.2.1)) (.int .i64 ((gi l n_1).2.2.2.1)) ((gi l n_1).2.2.2.2.1) (.bool ((gi l n_1).2.2.2.2.2.1)) (.int .i64 ((gi l n_1).2.2.2.2.2.2.1)) (.int .i64 ((gi l n_1).2.2.2.2.2.2.2.1)) (((gi l n_1).2.2.2.2.2.2.2.2.1).1) (((gi l n_1).2.2.2.2.2.2.2.2.2).1)).toArray) (q_ldElemAgg (cs := (c_api_Talk (.bool ((gi l n_1).1)) (.int .i64 ((gi l n_1).2.1)) (.int .i64 ((gi l n_1).2.2.1)) (.int .i64 ((gi l n_1).2.2.2.1)) ((gi l n_1).2.2.2.2.1) (.bool ((gi l n_1).2.2.2.2.2.1)) (.int .i64 ((gi l n_1).2.2.2.2.2.2.1)) (.int .i64 ((gi l n_1).2.2.2.2.2.2.2.1)) (((gi l n_1).2.2.2.2.2.2.2.2.1).1) (((gi l n_1).2.2.2.2.2.2.2.2.2).1))) ta_31 (hS.own 5 rfl).slice rfl ho_1 rfl) rfl ?_
  refine HO.eff (want_none) rfl (st_alloc (c := (c_api_Talk (.bool false) (.int .i64 0) (.int .i64 0) (.int .i64 0) (false, (default : Ba 16)) (.bool false) (.int .i64 0) (.int .i64 0) (.slice none 0 0) (.slice none 0 0)).toArray) hS tz_31 rfl) ?_
  rintro _ h_2 ⟨b_1, rfl, hS, hk⟩
  replace hK := hK.trans hk
  replace hN_p_h_want := hN_p_h_want.kp hk
  replace hN_l := hN_l.kp hk
  replace hN_3 := hN_3.kp hk
  replace hN_4 := hN_4.kp hk
  refine HO.sto (want_none) rfl (st_storeAgg (c' := (c_api_Talk (.bool ((gi l n_1).1)) (.int .i64 ((gi l n_1).2.1)) (.int .i64 ((gi l n_1).2.2.1)) (.int .i64 ((gi l n_1).2.2.2.1)) ((gi l n_1).2.2.2.2.1) (.bool ((gi l n_1).2.2.2.2.2.1)) (.int .i64 ((gi l n_1).2.2.2.2.2.2.1)) (.int .i64 ((gi l n_1).2.2.2.2.2.2.2.1)) (((gi l n_1).2.2.2.2.2.2.2.2.1).1) (((gi l n_1).2.2.2.2.2.2.2.2.2).1)).toArray) hS (i := 0) rfl ta_31 rfl rfl rfl (List.forall_mem_cons.2 ⟨rfl, (List.forall_mem_cons.2 ⟨rfl, (List.forall_mem_cons.2 ⟨rfl, (List.forall_mem_cons.2 ⟨rfl, (List.forall_mem_cons.2 ⟨rfl, (List.forall_mem_cons.2 ⟨rfl, (List.forall_mem_cons.2 ⟨rfl, (List.forall_mem_cons.2 ⟨rfl, (List.forall_mem_cons.2 ⟨rfl, (List.forall_mem_cons.2 ⟨rfl, (List.forall_mem_cons.2 ⟨rfl, (List.forall_mem_cons.2 ⟨rfl, (List.forall_mem_cons.2 ⟨rfl, (List.forall_mem_cons.2 ⟨rfl, (List.forall_mem_cons.2 ⟨rfl, (List.forall_mem_cons.2 ⟨rfl, (List.forall_mem_cons.2 ⟨rfl, (List.forall_mem_cons.2 ⟨rfl, (List.forall_mem_cons.2 ⟨rfl, (List.forall_mem_cons.2 ⟨rfl, (List.forall_mem_cons.2 ⟨rfl, (List.forall_mem_cons.2 ⟨rfl, (List.forall_mem_cons.2 ⟨rfl, (List.forall_mem_cons.2 ⟨rfl, (List.forall_mem_cons.2 ⟨(shp (nfi_api_Talk_24 (NfI.at hN_l.is ho_1))).one, (List.forall_mem_cons.2 ⟨(shp (nfi_api_Talk_25 (NfI.at hN_l.is ho_1))).one, (fun _ h => by cases h)⟩)⟩)⟩)⟩)⟩)⟩)⟩)⟩)⟩)⟩)⟩)⟩)⟩)⟩)⟩)⟩)⟩)⟩)⟩)⟩)⟩)⟩)⟩)⟩)⟩)⟩) (Nat.le_of_ble_eq_true rfl) rfl) ?_
  rintro h_3 ⟨hS, hk⟩
  replace hK := hK.trans hk
  replace hN_p_h_want := hN_p_h_want.kp hk
  replace hN_l := hN_l.kp hk
  replace hN_3 := hN_3.kp hk
  replace hN_4 := hN_4.kp hk
  refine HO.nil (thenQ_normal (?_))
  refine HW.seq_mid (fun f h => ∃ (F' : Fz) (t_24_1 : List T_api_Addr) (t_25_1 : List T_api_Record) (b_2 : Bool) (vt_24_1 : Value) (vt_25_1 : Value), f 0 = .pointer (some ⟨bp, 0, none⟩) ∧ f 4 = .slice none 0 0 ∧ f 5 = vout_1 ∧ f 6 = vrecords_1 ∧ f 8 = .pointer (some ⟨b_1, 0, none⟩) ∧ f 9 = vl ∧ f 10 = .int .i64 (l.length : Int) ∧ f 11 = .int .i64 n_1 ∧ f 27 = .bool b_2 ∧ Kp F h0 F' h ∧ St F' (Ow.box bp 141 #[.bool p_v6, .pointer (some ⟨bp_h, 0, none⟩), .int .i64 p_lost] :: Ow.box bp_h 97 #[.bool p_h_v6, .int .i64 p_h_now, .map (some rp_h_want), .int .i64 p_h_one, .int .i64 p_h_two] :: Ow.map rp_h_want (fun (x : T_api_Addr) => .agg (e_api_Addr x).toArray) (fun (x : T_api_Filter) => .agg #[.bool x.1, x.2.1]) p_h_want :: Ow.own 31 26 e_api_Talk vout_1 out_1 :: Ow.own 89 19 e_api_Record vrecords_1 records_1 :: Ow.box b_1 31 (c_api_Talk (.bool ((gi l n_1).1)) (.int .i64 ((gi l n_1).2.1)) (.int .i64 ((gi l n_1).2.2.1)) (.int .i64 ((gi l n_1).2.2.2.1)) ((gi l n_1).2.2.2.2.1) (.bool ((gi l n_1).2.2.2.2.2.1)) (.int .i64 ((gi l n_1).2.2.2.2.2.2.1)) (.int .i64 ((gi l n_1).2.2.2.2.2.2.2.1)) vt_24_1 vt_25_1).toArray :: Ow.own 31 26 e_api_Talk vl l :: fr) h ∧ (NfL nf_api_Filter F' h (p_h_want.map (·.2))) ∧ (NfL nf_api_Talk F' h l) ∧ (NfL nf_api_Talk F' h out_1) ∧ (NfL nf_api_Record F' h records_1) ∧ (SliceF F' h 17 e_api_Addr vt_24_1 t_24_1) ∧ (SliceF F' h 19 e_api_Record vt_25_1 t_25_1) ∧ (NfL nf_api_Record F' h t_25_1) ∧ proxy_Proxy_packed_j1 l out_1 records_1 n_1 K_1 t_24_1 t_25_1 b_2) ?_ ?_
  ·
   refine HW.regionA 13 mixed (fun h => (Blk h b_1 (.cells (c_api_Talk (.bool ((gi l n_1).1)) (.int .i64 ((gi l n_1).2.1)) (.int .i64 ((gi l n_1).2.2.1)) (.int .i64 ((gi l n_1).2.2.2.1)) ((gi l n_1).2.2.2.2.1) (.bool ((gi l n_1).2.2.2.2.2.1)) (.int .i64 ((gi l n_1).2.2.2.2.2.2.1)) (.int .i64 ((gi l n_1).2.2.2.2.2.2.2.1)) (((gi l n_1).2.2.2.2.2.2.2.2.1).1) (((gi l n_1).2.2.2.2.2.2.2.2.2).1)).toArray 31 (0, 0))) ∧ (Blk h bp (.cells #[.bool p_v6, .pointer (some ⟨bp_h, 0, none⟩), .int .i64 p_lost] 141 (0, 0)))) [] (by kernel_rfl) ?_
   refine HA.val (k := 0) (v := .pointer (some ⟨b_1, 2, none⟩)) rfl rfl (by kernel_rfl) (by kernel_rfl) (want_none) rfl (fun _ ⟨c320, c312⟩ => q_fieldAddr fa_31_2 rfl rfl) ?_
   refine HA.val (k := 1) (v := .int .i64 ((gi l n_1).2.2.1)) rfl rfl (by kernel_rfl) (by kernel_rfl) (want_none) rfl (fun _ ⟨c320, c312⟩ => q_load to_3 rfl (Blk.cell c320 rfl)) ?_
   refine HA.val (k := 2) (v := .bool (decide (((gi l n_1).2.2.1) = 2))) rfl rfl (by kernel_rfl) (by kernel_rfl) (want_none) rfl (fun _ ⟨c320, c312⟩ => q_eql rfl rfl) ?_
   refine HA.val (k := 3) (v := .bool (decide (((gi l n_1).2.2.1) = 2))) rfl rfl (by kernel_rfl) (by kernel_rfl) (want_none) rfl (fun _ ⟨c320, c312⟩ => q_move rfl) ?_
   rcases Bool.eq_false_or_eq_true (decide (((gi l n_1).2.2.1) = 2)) with c_2 | c_2
   ·
    replace hM := hM.1 (of_decide_eq_true c_2)
    refine HA.val (k := 4) (v := .pointer (some ⟨b_1, 1, none⟩)) rfl rfl (by kernel_rfl) (by kernel_rfl) (want_by rfl rfl c_2) rfl (fun _ ⟨c320, c312⟩ => q_fieldAddr fa_31_1 rfl rfl) ?_
    refine HA.val (k := 5) (v := .int .i64 ((gi l n_1).2.1)) rfl rfl (by kernel_rfl) (by kernel_rfl) (want_by rfl rfl c_2) rfl (fun _ ⟨c320, c312⟩ => q_load to_3 rfl (Blk.cell c320 rfl)) ?_
    refine HA.val (k := 6) (v := .pointer (some ⟨bp, 0, none⟩)) rfl rfl (by kernel_rfl) (by kernel_rfl) (want_by rfl rfl c_2) rfl (fun _ ⟨c320, c312⟩ => q_move rfl) ?_
    refine HA.val (k := 7) (v := .pointer (some ⟨bp, 0, none⟩)) rfl rfl (by kernel_rfl) (by kernel_rfl) (want_by rfl rfl c_2) rfl (fun _ ⟨c320, c312⟩ => q_nilCheck rfl) ?_
    refine HA.val (k := 8) (v := .pointer (some ⟨bp, 0, none⟩)) rfl rfl (by kernel_rfl) (by kernel_rfl) (want_by rfl rfl c_2) rfl (fun _ ⟨c320, c312⟩ => q_fieldAddr fa_141_0 rfl rfl) ?_
    refine HA.val (k := 9) (v := .bool p_v6) rfl rfl (by kernel_rfl) (by kernel_rfl) (want_by rfl rfl c_2) rfl (fun _ ⟨c320, c312⟩ => q_load to_4 rfl (Blk.cell c312 rfl)) ?_
    refine HA.one (k := 10) ⟨⟨(hS.box 0 rfl), (hS.box 1 rfl)⟩, (Go.Wk.at_nil _ _)⟩ (by kernel_rfl) ?_
    refine HS.call rfl (want_by rfl rfl c_2) rfl (ec en_61 rfl rfl) (compat_Last_walk (fr := (Ow.box b_1 31 (c_api_Talk (.bool ((gi l n_1).1)) (.int .i64 ((gi l n_1).2.1)) (.int .i64 ((gi l n_1).2.2.1)) (.int .i64 ((gi l n_1).2.2.2.1)) ((gi l n_1).2.2.2.2.1) (.bool ((gi l n_1).2.2.2.2.2.1)) (.int .i64 ((gi l n_1).2.2.2.2.2.2.1)) (.int .i64 ((gi l n_1).2.2.2.2.2.2.2.1)) (((gi l n_1).2.2.2.2.2.2.2.2.1).1) (((gi l n_1).2.2.2.2.2.2.2.2.2).1)).toArray :: Ow.box bp 141 #[.bool p_v6, .pointer (some ⟨bp_h, 0, none⟩), .int .i64 p_lost] :: Ow.box bp_h 97 #[.bool p_h_v6, .int .i64 p_h_now, .map (some rp_h_want), .int .i64 p_h_one, .int .i64 p_h_two] :: Ow.map rp_h_want (fun (x : T_api_Addr) => .agg (e_api_Addr x).toArray) (fun (x : T_api_Filter) => .agg #[.bool x.1, x.2.1]) p_h_want :: Ow.own 31 26 e_api_Talk vout_1 out_1 :: Ow.own 89 19 e_api_Record vrecords_1 records_1 :: Ow.own 31 26 e_api_Talk vl l :: fr)) p_v6 hS hM) ?_
    rintro _ h_4 ⟨F_2, r_2, rfl, hk, hS, hM⟩
    replace hK := hK.trans hk
    replace hN_p_h_want := hN_p_h_want.kp hk
    replace hN_l := hN_l.kp hk
    replace hN_3 := hN_3.kp hk
    replace hN_4 := hN_4.kp hk
    refine HA.val (k := 11) (v := .bool (decide (((gi l n_1).2.1) = r_2))) rfl rfl (by kernel_rfl) (by kernel_rfl) (want_by rfl rfl c_2) rfl (fun _ ⟨c320, c312⟩ => q_eql rfl rfl) ?_
    refine HA.val (k := 12) (v := .bool (decide (((gi l n_1).2.1) = r_2))) rfl rfl (by kernel_rfl) (by kernel_rfl) (want_none) rfl (fun _ ⟨c320, c312⟩ => q_pickK true rfl c_2 rfl) ?_
    refine HA.nil ⟨⟨(hS.box 0 rfl), (hS.box 1 rfl)⟩, (Go.Wk.at_nil _ _)⟩ (by kernel_rfl) (thenQ_normal (?_))
    replace hS : St F_2 (Ow.box bp 141 #[.bool p_v6, .pointer (some ⟨bp_h, 0, none⟩), .int .i64 p_lost] :: Ow.box bp_h 97 #[.bool p_h_v6, .int .i64 p_h_now, .map (some rp_h_want), .int .i64 p_h_one, .int .i64 p_h_two] :: Ow.map rp_h_want (fun (x : T_api_Addr) => .agg (e_api_Addr x).toArray) (fun (x : T_api_Filter) => .agg #[.bool x.1, x.2.1]) p_h_want :: Ow.own 31 26 e_api_Talk vout_1 out_1 :: Ow.own 89 19 e_api_Record vrecords_1 records_1 :: Ow.box b_1 31 (c_api_Talk (.bool ((gi l n_1).1)) (.int .i64 ((gi l n_1).2.1)) (.int .i64 ((gi l n_1).2.2.1)) (.int .i64 ((gi l n_1).2.2.2.1)) ((gi l n_1).2.2.2.2.1) (.bool ((gi l n_1).2.2.2.2.2.1)) (.int .i64 ((gi l n_1).2.2.2.2.2.2.1)) (.int .i64 ((gi l n_1).2.2.2.2.2.2.2.1)) (((gi l n_1).2.2.2.2.2.2.2.2.1).1) (((gi l n_1).2.2.2.2.2.2.2.2.2).1)).toArray :: Ow.own 31 26 e_api_Talk vl l :: fr) h_4 := hS.perm2 [1, 2, 3, 4, 5, 0, 6] 7 rfl rfl
    exact ⟨F_2, ((gi l n_1).2.2.2.2.2.2.2.2.1).2, ((gi l n_1).2.2.2.2.2.2.2.2.2).2, decide (((gi l n_1).2.1) = r_2), ((gi l n_1).2.2.2.2.2.2.2.2.1).1, ((gi l n_1).2.2.2.2.2.2.2.2.2).1, rfl, rfl, rfl, rfl, rfl, rfl, rfl, rfl, rfl, hK, hS, hN_p_h_want, hN_l, hN_3, hN_4, (nff_api_Talk_24 (NfL.at hN_l ho_1)), (nff_api_Talk_25 (NfL.at hN_l ho_1)), (nfn_api_Talk_25 (NfL.at hN_l ho_1)), hM⟩
   ·
    replace hM := hM.2 (of_decide_eq_false c_2)
    refine HA.past (k := 4) rfl rfl (by kernel_rfl) (by kernel_rfl) (past_by rfl rfl c_2) rfl ?_
    refine HA.past (k := 5) rfl rfl (by kernel_rfl) (by kernel_rfl) (past_by rfl rfl c_2) rfl ?_
    refine HA.past (k := 6) rfl rfl (by kernel_rfl) (by kernel_rfl) (past_by rfl rfl c_2) rfl ?_
    refine HA.past (k := 7) rfl rfl (by kernel_rfl) (by kernel_rfl) (past_by rfl rfl c_2) rfl ?_
    refine HA.past (k := 8) rfl rfl (by kernel_rfl) (by kernel_rfl) (past_by rfl rfl c_2) rfl ?_
    refine HA.past (k := 9) rfl rfl (by kernel_rfl) (by kernel_rfl) (past_by rfl rfl c_2) rfl ?_
    refine HA.one (k := 10) ⟨⟨(hS.box 0 rfl), (hS.box 1 rfl)⟩, (Go.Wk.at_nil _ _)⟩ (by kernel_rfl) ?_
    refine HS.past rfl (past_by rfl rfl c_2) rfl ?_
    refine HA.past (k := 11) rfl rfl (by kernel_rfl) (by kernel_rfl) (past_by rfl rfl c_2) rfl ?_
    refine HA.val (k := 12) (v := .bool false) rfl rfl (by kernel_rfl) (by kernel_rfl) (want_none) rfl (fun _ ⟨c320, c312⟩ => q_pickK false rfl c_2 rfl) ?_
    refine HA.nil ⟨⟨(hS.box 0 rfl), (hS.box 1 rfl)⟩, (Go.Wk.at_nil _ _)⟩ (by kernel_rfl) (thenQ_normal (?_))
    replace hS : St F_1 (Ow.box bp 141 #[.bool p_v6, .pointer (some ⟨bp_h, 0, none⟩), .int .i64 p_lost] :: Ow.box bp_h 97 #[.bool p_h_v6, .int .i64 p_h_now, .map (some rp_h_want), .int .i64 p_h_one, .int .i64 p_h_two] :: Ow.map rp_h_want (fun (x : T_api_Addr) => .agg (e_api_Addr x).toArray) (fun (x : T_api_Filter) => .agg #[.bool x.1, x.2.1]) p_h_want :: Ow.own 31 26 e_api_Talk vout_1 out_1 :: Ow.own 89 19 e_api_Record vrecords_1 records_1 :: Ow.box b_1 31 (c_api_Talk (.bool ((gi l n_1).1)) (.int .i64 ((gi l n_1).2.1)) (.int .i64 ((gi l n_1).2.2.1)) (.int .i64 ((gi l n_1).2.2.2.1)) ((gi l n_1).2.2.2.2.1) (.bool ((gi l n_1).2.2.2.2.2.1)) (.int .i64 ((gi l n_1).2.2.2.2.2.2.1)) (.int .i64 ((gi l n_1).2.2.2.2.2.2.2.1)) (((gi l n_1).2.2.2.2.2.2.2.2.1).1) (((gi l n_1).2.2.2.2.2.2.2.2.2).1)).toArray :: Ow.own 31 26 e_api_Talk vl l :: fr) h_3 := hS.perm2 [1, 2, 3, 4, 5, 0, 6] 7 rfl rfl
    exact ⟨F_1, ((gi l n_1).2.2.2.2.2.2.2.2.1).2, ((gi l n_1).2.2.2.2.2.2.2.2.2).2, false, ((gi l n_1).2.2.2.2.2.2.2.2.1).1, ((gi l n_1).2.2.2.2.2.2.2.2.2).1, rfl, rfl, rfl, rfl, rfl, rfl, rfl, rfl, rfl, hK, hS, hN_p_h_want, hN_l, hN_3, hN_4, (nff_api_Talk_24 (NfL.at hN_l ho_1)), (nff_api_Talk_25 (NfL.at hN_l ho_1)), (nfn_api_Talk_25 (NfL.at hN_l ho_1)), hM⟩
  ·
   rintro f_2 h_5 ⟨F_3, t_24_1, t_25_1, b_2, vt_24_1, vt_25_1, e0, e4, e5, e6, e8, e9, e10, e11, e27, hK, hS, hN_p_h_want, hN_l, hN_3, hN_4, hL_1, hL_2, hN_7, hM⟩
   unfold proxy_Proxy_packed_j1 at hM
   refine HW.fr [(0, .pointer (some ⟨bp, 0, none⟩)), (4, .slice none 0 0), (5, vout_1), (6, vrecords_1), (8, .pointer (some ⟨b_1, 0, none⟩)), (9, vl), (10, .int .i64 (l.length : Int)), (11, .int .i64 n_1), (27, .bool b_2)] ⟨e0, e4, e5, e6, e8, e9, e10, e11, e27, trivial⟩ ?_
   refine HW.cond b_2 rfl (fun c_3 => ?_) (fun c_3 => ?_)
   ·
    replace hM := hM.1 c_3
    refine HW.region ?_
    refine oM (vrecords_1) rfl rfl ?_
    refine oV (.pointer (some ⟨b_1, 25, none⟩)) (q_fieldAddr fa_31_9 rfl rfl) rfl ?_
    refine oV (vt_25_1) (q_load to_22 rfl (Blk.cell (hS.box 5 rfl) rfl)) rfl ?_
    obtain ⟨ho_2, hM⟩ := hM
    refine HO.eff (want_none) rfl (st_append te_22 hS (i := 4) rfl hL_2.is rfl rfl rfl (fun a_ ha_ => nfo_api_Record (hN_7.is.all a_ ha_)) ho_2 (by omega)) ?_
    rintro v_1 h_6 ⟨hS, hk⟩
    replace hK := hK.trans hk
    replace hN_p_h_want := hN_p_h_want.kp hk
    replace hN_l := hN_l.kp hk
    replace hN_3 := hN_3.kp hk
    replace hN_4 := hN_4.kp hk
    replace hN_7 := hN_7.kp hk
    have hN_8 : NfL nf_api_Record F_3 h_6 (records_1 ++ t_25_1) := NfL.app hN_4 hN_7
    refine oA (v_1) rfl rfl ?_
    refine HO.nil (blockQ_normal (thenQ_normal (?_)))
    refine HW.region ?_
    obtain ⟨ho_3, hM⟩ := hM
    refine oV (.int .i64 (n_1 + 1)) (q_addN _ rfl rfl rfl ho_3.1 ho_3.2) rfl ?_
    refine oM (.int .i64 (n_1 + 1)) rfl rfl ?_
    refine HO.nil (thenQ_normal (?_))
    replace hS : St F_3 (Ow.box bp 141 #[.bool p_v6, .pointer (some ⟨bp_h, 0, none⟩), .int .i64 p_lost] :: Ow.box bp_h 97 #[.bool p_h_v6, .int .i64 p_h_now, .map (some rp_h_want), .int .i64 p_h_one, .int .i64 p_h_two] :: Ow.map rp_h_want (fun (x : T_api_Addr) => .agg (e_api_Addr x).toArray) (fun (x : T_api_Filter) => .agg #[.bool x.1, x.2.1]) p_h_want :: Ow.own 31 26 e_api_Talk vout_1 out_1 :: Ow.own 89 19 e_api_Record v_1 (records_1 ++ t_25_1) :: Ow.own 31 26 e_api_Talk vl l :: fr) h_6 := hS.perm2 [0, 1, 2, 3, 4, 6] 7 rfl rfl
    rw [hKe_1] at hM
    exact ⟨(out_1, records_1 ++ t_25_1, n_1 + 1), ⟨F_3, vout_1, v_1, rfl, rfl, rfl, rfl, rfl, rfl, rfl, hK, hS, hN_p_h_want, hN_l, hN_3, hN_8, hM.1⟩, hM.2⟩
   ·
    replace hM := hM.2 c_3
    refine HW.region ?_
    refine oM (vout_1) rfl rfl ?_
    refine oV (.agg (c_api_Talk (.bool ((gi l n_1).1)) (.int .i64 ((gi l n_1).2.1)) (.int .i64 ((gi l n_1).2.2.1)) (.int .i64 ((gi l n_1).2.2.2.1)) ((gi l n_1).2.2.2.2.1) (.bool ((gi l n_1).2.2.2.2.2.1)) (.int .i64 ((gi l n_1).2.2.2.2.2.2.1)) (.int .i64 ((gi l n_1).2.2.2.2.2.2.2.1)) vt_24_1 vt_25_1).toArray) (q_loadAgg (cs := (c_api_Talk (.bool ((gi l n_1).1)) (.int .i64 ((gi l n_1).2.1)) (.int .i64 ((gi l n_1).2.2.1)) (.int .i64 ((gi l n_1).2.2.2.1)) ((gi l n_1).2.2.2.2.1) (.bool ((gi l n_1).2.2.2.2.2.1)) (.int .i64 ((gi l n_1).2.2.2.2.2.2.1)) (.int .i64 ((gi l n_1).2.2.2.2.2.2.2.1)) vt_24_1 vt_25_1)) ta_31 rfl rfl (Blk.cells (k := 26) (hS.box 5 rfl) rfl)) rfl ?_
    replace hM := hM vt_24_1
    replace hM := hM vt_25_1
    refine HO.eff (want_none) rfl (st_lit (enc := e_api_Talk) (cells := #[.bool ((gi l n_1).1), .int .i64 ((gi l n_1).2.1), .int .i64 ((gi l n_1).2.2.1), .int .i64 ((gi l n_1).2.2.2.1), .bool (((gi l n_1).2.2.2.2.1).1), .int .u8 (b8 (((gi l n_1).2.2.2.2.1).2) 0), .int .u8 (b8 (((gi l n_1).2.2.2.2.1).2) 1), .int .u8 (b8 (((gi l n_1).2.2.2.2.1).2) 2), .int .u8 (b8 (((gi l n_1).2.2.2.2.1).2) 3), .int .u8 (b8 (((gi l n_1).2.2.2.2.1).2) 4), .int .u8 (b8 (((gi l n_1).2.2.2.2.1).2) 5), .int .u8 (b8 (((gi l n_1).2.2.2.2.1).2) 6), .int .u8 (b8 (((gi l n_1).2.2.2.2.1).2) 7), .int .u8 (b8 (((gi l n_1).2.2.2.2.1).2) 8), .int .u8 (b8 (((gi l n_1).2.2.2.2.1).2) 9), .int .u8 (b8 (((gi l n_1).2.2.2.2.1).2) 10), .int .u8 (b8 (((gi l n_1).2.2.2.2.1).2) 11), .int .u8 (b8 (((gi l n_1).2.2.2.2.1).2) 12), .int .u8 (b8 (((gi l n_1).2.2.2.2.1).2) 13), .int .u8 (b8 (((gi l n_1).2.2.2.2.1).2) 14), .int .u8 (b8 (((gi l n_1).2.2.2.2.1).2) 15), .bool ((gi l n_1).2.2.2.2.2.1), .int .i64 ((gi l n_1).2.2.2.2.2.2.1), .int .i64 ((gi l n_1).2.2.2.2.2.2.2.1), vt_24_1, vt_25_1]) #[.bool false, .int .i64 0, .int .i64 0, .int .i64 0, .bool false, .int .u8 0, .int .u8 0, .int .u8 0, .int .u8 0, .int .u8 0, .int .u8 0, .int .u8 0, .int .u8 0, .int .u8 0, .int .u8 0, .int .u8 0, .int .u8 0, .int .u8 0, .int .u8 0, .int .u8 0, .int .u8 0, .bool false, .int .i64 0, .int .i64 0, .slice none 0 0, .slice none 0 0] ([((gi l n_1).1, (gi l n_1).2.1, (gi l n_1).2.2.1, (gi l n_1).2.2.2.1, ((gi l n_1).2.2.2.2.1), (gi l n_1).2.2.2.2.2.1, (gi l n_1).2.2.2.2.2.2.1, (gi l n_1).2.2.2.2.2.2.2.1, (vt_24_1, t_24_1), (vt_25_1, t_25_1))] : List T_api_Talk) hS tl_33 (by decide) (by decide) (by kernel_rfl) (by kernel_rfl) rfl (by intro x hx; rfl) rfl) ?_
    rintro _ h_7 ⟨b_3, rfl, hS, hk⟩
    replace hK := hK.trans hk
    replace hN_p_h_want := hN_p_h_want.kp hk
    replace hN_l := hN_l.kp hk
    replace hN_3 := hN_3.kp hk
    replace hN_4 := hN_4.kp hk
    replace hL_1 := hL_1.kp hk
    replace hL_2 := hL_2.kp hk
    replace hN_7 := hN_7.kp hk
    have hN_9 : NfL nf_api_Talk F_3 h_7 ([((gi l n_1).1, (gi l n_1).2.1, (gi l n_1).2.2.1, (gi l n_1).2.2.2.1, ((gi l n_1).2.2.2.2.1), (gi l n_1).2.2.2.2.2.1, (gi l n_1).2.2.2.2.2.2.1, (gi l n_1).2.2.2.2.2.2.2.1, (vt_24_1, t_24_1), (vt_25_1, t_25_1))] : List T_api_Talk) := (NfL.cons (nfm_api_Talk ((gi l n_1).1, (gi l n_1).2.1, (gi l n_1).2.2.1, (gi l n_1).2.2.2.1, ((gi l n_1).2.2.2.2.1), (gi l n_1).2.2.2.2.2.1, (gi l n_1).2.2.2.2.2.2.1, (gi l n_1).2.2.2.2.2.2.2.1, (vt_24_1, t_24_1), (vt_25_1, t_25_1)) hL_1 hL_2 hN_7) (NfL.nil _ _ _))
    obtain ⟨ho_4, hM⟩ := hM
    refine HO.eff (want_none) rfl (st_append te_33 hS (i := 4) rfl (hS.own 0 rfl).slice rfl rfl rfl (fun a_ ha_ => nfo_api_Talk (hN_9.is.all a_ ha_)) ho_4 (by omega)) ?_
    rintro v_2 h_8 ⟨hS, hk⟩
    replace hK := hK.trans hk
    replace hN_p_h_want := hN_p_h_want.kp hk
    replace hN_l := hN_l.kp hk
    replace hN_3 := hN_3.kp hk
    replace hN_4 := hN_4.kp hk
    replace hN_9 := hN_9.kp hk
    have hN_10 : NfL nf_api_Talk F_3 h_8 (out_1 ++ ([((gi l n_1).1, (gi l n_1).2.1, (gi l n_1).2.2.1, (gi l n_1).2.2.2.1, ((gi l n_1).2.2.2.2.1), (gi l n_1).2.2.2.2.2.1, (gi l n_1).2.2.2.2.2.2.1, (gi l n_1).2.2.2.2.2.2.2.1, (vt_24_1, t_24_1), (vt_25_1, t_25_1))] : List T_api_Talk)) := NfL.app hN_3 hN_9
    refine oA (v_2) rfl rfl ?_
    refine HO.nil (blockQ_normal (thenQ_normal (?_)))
    refine HW.region ?_
    obtain ⟨ho_5, hM⟩ := hM
    refine oV (.int .i64 (n_1 + 1)) (q_addN _ rfl rfl rfl ho_5.1 ho_5.2) rfl ?_
    refine oM (.int .i64 (n_1 + 1)) rfl rfl ?_
    refine HO.nil (thenQ_normal (?_))
    replace hS : St F_3 (Ow.box bp 141 #[.bool p_v6, .pointer (some ⟨bp_h, 0, none⟩), .int .i64 p_lost] :: Ow.box bp_h 97 #[.bool p_h_v6, .int .i64 p_h_now, .map (some rp_h_want), .int .i64 p_h_one, .int .i64 p_h_two] :: Ow.map rp_h_want (fun (x : T_api_Addr) => .agg (e_api_Addr x).toArray) (fun (x : T_api_Filter) => .agg #[.bool x.1, x.2.1]) p_h_want :: Ow.own 31 26 e_api_Talk v_2 (out_1 ++ ([((gi l n_1).1, (gi l n_1).2.1, (gi l n_1).2.2.1, (gi l n_1).2.2.2.1, ((gi l n_1).2.2.2.2.1), (gi l n_1).2.2.2.2.2.1, (gi l n_1).2.2.2.2.2.2.1, (gi l n_1).2.2.2.2.2.2.2.1, (vt_24_1, t_24_1), (vt_25_1, t_25_1))] : List T_api_Talk)) :: Ow.own 89 19 e_api_Record vrecords_1 records_1 :: Ow.own 31 26 e_api_Talk vl l :: fr) h_8 := hS.perm2 [1, 2, 3, 4, 5, 7] 8 rfl rfl
    rw [hKe_1] at hM
    exact ⟨(out_1 ++ ([((gi l n_1).1, (gi l n_1).2.1, (gi l n_1).2.2.1, (gi l n_1).2.2.2.1, ((gi l n_1).2.2.2.2.1), (gi l n_1).2.2.2.2.2.1, (gi l n_1).2.2.2.2.2.2.1, (gi l n_1).2.2.2.2.2.2.2.1, (vt_24_1, t_24_1), (vt_25_1, t_25_1))] : List T_api_Talk), records_1, n_1 + 1), ⟨F_3, v_2, vrecords_1, rfl, rfl, rfl, rfl, rfl, rfl, rfl, hK, hS, hN_p_h_want, hN_l, hN_10, hN_4, hM.1⟩, hM.2⟩
 ·
  replace hM := hM.2 (of_decide_eq_false c_1)
  refine HW.exit (thenQ_exit (thenQ_exit (blockQ_exit (thenQ_normal (?_)))))
  refine HW.seq ?_
  refine HW.region ?_
  refine oM (vout_1) rfl rfl ?_
  refine oM (.pointer (some ⟨bp, 0, none⟩)) rfl rfl ?_
  refine oV (.pointer (some ⟨bp, 0, none⟩)) (q_nilCheck rfl) rfl ?_
  refine oV (.pointer (some ⟨bp, 0, none⟩)) (q_fieldAddr fa_141_0 rfl rfl) rfl ?_
  refine oV (.bool p_v6) (q_load to_4 rfl (Blk.cell (hS.box 0 rfl) rfl)) rfl ?_
  refine oM (vrecords_1) rfl rfl ?_
  replace hS : St F_1 (Ow.own 89 19 e_api_Record vrecords_1 records_1 :: Ow.box bp 141 #[.bool p_v6, .pointer (some ⟨bp_h, 0, none⟩), .int .i64 p_lost] :: Ow.box bp_h 97 #[.bool p_h_v6, .int .i64 p_h_now, .map (some rp_h_want), .int .i64 p_h_one, .int .i64 p_h_two] :: Ow.map rp_h_want (fun (x : T_api_Addr) => .agg (e_api_Addr x).toArray) (fun (x : T_api_Filter) => .agg #[.bool x.1, x.2.1]) p_h_want :: Ow.own 31 26 e_api_Talk vout_1 out_1 :: Ow.own 31 26 e_api_Talk vl l :: fr) h_1 := hS.perm2 [4, 0, 1, 2, 3, 5] 6 rfl rfl
  obtain ⟨F_4, hS, hk, hL_3⟩ := hS.freezeOwn
  replace hK := hK.trans hk
  replace hN_p_h_want := hN_p_h_want.kp hk
  replace hN_l := hN_l.kp hk
  replace hN_3 := hN_3.kp hk
  replace hN_4 := hN_4.kp hk
  refine HO.call (want_none) rfl (ec en_11 rfl rfl) (host_Pack_walk (fr := (Ow.box bp 141 #[.bool p_v6, .pointer (some ⟨bp_h, 0, none⟩), .int .i64 p_lost] :: Ow.box bp_h 97 #[.bool p_h_v6, .int .i64 p_h_now, .map (some rp_h_want), .int .i64 p_h_one, .int .i64 p_h_two] :: Ow.map rp_h_want (fun (x : T_api_Addr) => .agg (e_api_Addr x).toArray) (fun (x : T_api_Filter) => .agg #[.bool x.1, x.2.1]) p_h_want :: Ow.own 31 26 e_api_Talk vout_1 out_1 :: Ow.own 31 26 e_api_Talk vl l :: fr)) p_v6 records_1 vrecords_1 hS hN_4 hL_3 hM) ?_
  rintro vr_2 h_9 ⟨F_5, r_3, _, rfl, hk, hS, _, _, hL_4, hM⟩
  replace hK := hK.trans hk
  replace hN_p_h_want := hN_p_h_want.kp hk
  replace hN_l := hN_l.kp hk
  replace hN_3 := hN_3.kp hk
  obtain ⟨ho_6, hM⟩ := hM
  refine HO.eff (want_none) rfl (st_append te_33 hS (i := 4) rfl (hS.own 0 rfl).slice rfl rfl rfl (fun a_ ha_ => nfo_api_Talk (hL_4.is.all a_ ha_)) ho_6 (by omega)) ?_
  rintro v_3 h_10 ⟨hS, hk⟩
  replace hK := hK.trans hk
  replace hN_p_h_want := hN_p_h_want.kp hk
  replace hN_l := hN_l.kp hk
  replace hN_3 := hN_3.kp hk
  replace hL_4 := hL_4.kp hk
  have hN_11 : NfL nf_api_Talk F_5 h_10 (out_1 ++ r_3) := NfL.app hN_3 hL_4
  refine oA (v_3) rfl rfl ?_
  refine HO.nil (thenQ_normal (?_))
  refine HW.ret (?_)
  refine ⟨.inr rfl, v_3, res1 rfl (rt rfl), ?_⟩
  replace hS : St F_5 (Ow.own 31 26 e_api_Talk v_3 (out_1 ++ r_3) :: Ow.box bp 141 #[.bool p_v6, .pointer (some ⟨bp_h, 0, none⟩), .int .i64 p_lost] :: Ow.box bp_h 97 #[.bool p_h_v6, .int .i64 p_h_now, .map (some rp_h_want), .int .i64 p_h_one, .int .i64 p_h_two] :: Ow.map rp_h_want (fun (x : T_api_Addr) => .agg (e_api_Addr x).toArray) (fun (x : T_api_Filter) => .agg #[.bool x.1, x.2.1]) p_h_want :: fr) h_10 := hS.perm2 [4, 1, 2, 3] 6 rfl rfl
  exact ⟨F_5, out_1 ++ r_3, p_v6, p_h_v6, p_h_now, p_h_want, p_h_one, p_h_two, p_lost, v_3, rfl, hK, hS, hN_p_h_want, hN_l, hN_11, hN_p_h_want, hM⟩
def proxy_Proxy_Update_j1 (out_2 : List T_api_Talk) (n_2 : Int) (K_2 : Bool → Int → (List (T_api_Addr × T_api_Filter)) → Int → Int → Int → (List T_api_Talk) → Int → Prop) (r0_2 : List T_api_Talk) (a0_v6_2 : Bool) (a0_now_2 : Int) (a0m_2 : List (T_api_Addr × T_api_Filter)) (a0_one_2 : Int) (a0_two_2 : Int) (p_2_3 : Int) : Prop :=
 ((out_2.length + r0_2.length) * 120 ≤ 140737488355328) ∧ ((I64 (n_2 + 1)) ∧ (K_2 a0_v6_2 a0_now_2 a0m_2 a0_one_2 a0_two_2 p_2_3 (out_2 ++ r0_2) (n_2 + 1)))
def proxy_Proxy_Update_l3 (p_v6 : Bool) (now : Int) (Q : (List T_api_Talk) → Bool → Bool → Int → (List (T_api_Addr × T_api_Filter)) → Int → Int → Int → Prop) (l_1 : List T_api_Want) (K_2 : Bool → Int → (List (T_api_Addr × T_api_Filter)) → Int → Int → Int → (List T_api_Talk) → Int → Prop) (p_1_0_3 : Bool) (p_1_1_3 : Int) (p_1_2_3 : List (T_api_Addr × T_api_Filter)) (p_1_3_3 : Int) (p_1_4_3 : Int) (p_2_2 : Int) (out_2 : List T_api_Talk) (n_2 : Int) : Prop :=
 (n_2 < (l_1.length : Int) → ((0 : Int) ≤ n_2 ∧ n_2 < (l_1.length : Int)) ∧ (host_Host_Set_W p_1_0_3 p_1_1_3 p_1_2_3 p_1_3_3 p_1_4_3 now ((gi l_1 n_2).1) (((gi l_1 n_2).2).1) ((((gi l_1 n_2).2).2).2) (fun r0_2 r1_2 a0_v6_2 a0_now_2 a0m_2 a0_one_2 a0_two_2 => (¬ (r1_2 = 0) → (I64 (p_2_2 + 1)) ∧ (proxy_Proxy_Update_j1 out_2 n_2 K_2 r0_2 a0_v6_2 a0_now_2 a0m_2 a0_one_2 a0_two_2 (p_2_2 + 1))) ∧ (r1_2 = 0 → proxy_Proxy_Update_j1 out_2 n_2 K_2 r0_2 a0_v6_2 a0_now_2 a0m_2 a0_one_2 a0_two_2 p_2_2)))) ∧ (¬ (n_2 < (l_1.length : Int)) → proxy_Proxy_packed_W p_v6 p_1_0_3 p_1_1_3 p_1_2_3 p_1_3_3 p_1_4_3 p_2_2 out_2 (fun r_5 p_v6_3 p_v6_4 p_now_2 pm_2 p_one_2 p_two_2 p_lost_2 => Q r_5 p_v6_3 p_v6_4 p_now_2 pm_2 p_one_2 p_two_2 p_lost_2))
def proxy_Proxy_Update_l2 (p_v6 : Bool) (p_lost : Int) (now : Int) (Q : (List T_api_Talk) → Bool → Bool → Int → (List (T_api_Addr × T_api_Filter)) → Int → Int → Int → Prop) (r_3 : List T_api_Addr) (K_1 : Bool → Int → (List (T_api_Addr × T_api_Filter)) → Int → Int → (List T_api_Talk) → (List T_api_Want) → Int → Prop) (p_1_0_2 : Bool) (p_1_1_2 : Int) (p_1_2_2 : List (T_api_Addr × T_api_Filter)) (p_1_3_2 : Int) (p_1_4_2 : Int) (out_1 : List T_api_Talk) (l_1 : List T_api_Want) (n_1 : Int) : Prop :=
 (n_1 < (r_3.length : Int) → ((0 : Int) ≤ n_1 ∧ n_1 < (r_3.length : Int)) ∧ (proxy_Proxy_Update_1_W (gi r_3 n_1) l_1 (fun r_4 a1_0_1 => ((!r_4) = true → host_Host_Set_W p_1_0_2 p_1_1_2 p_1_2_2 p_1_3_2 p_1_4_2 now (gi r_3 n_1) false [] (fun r0_1 r1_1 a0_v6_1 a0_now_1 a0m_1 a0_one_1 a0_two_1 => ((out_1.length + r0_1.length) * 120 ≤ 140737488355328) ∧ ((I64 (n_1 + 1)) ∧ (K_1 a0_v6_1 a0_now_1 a0m_1 a0_one_1 a0_two_1 (out_1 ++ r0_1) a1_0_1 (n_1 + 1))))) ∧ ((!r_4) = false → (I64 (n_1 + 1)) ∧ (K_1 p_1_0_2 p_1_1_2 p_1_2_2 p_1_3_2 p_1_4_2 out_1 a1_0_1 (n_1 + 1)))))) ∧ (¬ (n_1 < (r_3.length : Int)) → loopW (fun (K_2 : (Bool × Int × (List (T_api_Addr × T_api_Filter)) × Int × Int × Int × List T_api_Talk × Int) → Prop) (s : Bool × Int × (List (T_api_Addr × T_api_Filter)) × Int × Int × Int × List T_api_Talk × Int) => proxy_Proxy_Update_l3 p_v6 now Q l_1 (fun p_1_0_3 p_1_1_3 p_1_2_3 p_1_3_3 p_1_4_3 p_2_2 out_2 n_2 => K_2 (p_1_0_3, p_1_1_3, p_1_2_3, p_1_3_3, p_1_4_3, p_2_2, out_2, n_2)) s.1 s.2.1 s.2.2.1 s.2.2.2.1 s.2.2.2.2.1 s.2.2.2.2.2.1 s.2.2.2.2.2.2.1 s.2.2.2.2.2.2.2) (p_1_0_2, p_1_1_2, p_1_2_2, p_1_3_2, p_1_4_2, p_lost, out_1, 0))
def proxy_Proxy_Update_W (p_v6 : Bool) (p_h_v6 : Bool) (p_h_now : Int) (p_h_want : List (T_api_Addr × T_api_Filter)) (p_h_one : Int) (p_h_two : Int) (p_lost : Int) (now : Int) (l : List T_api_Want) (Q : (List T_api_Talk) → Bool → Bool → Int → (List (T_api_Addr × T_api_Filter)) → Int → Int → Int → Prop) : Prop :=
 ∀ vl : Value, (proxy_gather_W ([(vl, l)] : List T_s_api_Want) (fun r_2 => host_Host_Groups_W p_h_v6 p_h_now p_h_want p_h_one p_h_two (fun r_3 => loopW (fun (K_1 : (Bool × Int × (List (T_api_Addr × T_api_Filter)) × Int × Int × List T_api_Talk × List T_api_Want × Int) → Prop) (s : Bool × Int × (List (T_api_Addr × T_api_Filter)) × Int × Int × List T_api_Talk × List T_api_Want × Int) => proxy_Proxy_Update_l2 p_v6 p_lost now Q r_3 (fun p_1_0_2 p_1_1_2 p_1_2_2 p_1_3_2 p_1_4_2 out_1 l_1 n_1 => K_1 (p_1_0_2, p_1_1_2, p_1_2_2, p_1_3_2, p_1_4_2, out_1, l_1, n_1)) s.1 s.2.1 s.2.2.1 s.2.2.2.1 s.2.2.2.2.1 s.2.2.2.2.2.1 s.2.2.2.2.2.2.1 s.2.2.2.2.2.2.2) (p_h_v6, p_h_now, p_h_want, p_h_one, p_h_two, [], r_2, 0))))
theorem proxy_Proxy_Update_walk {F : Fz} {fr : List Ow} {h0 : Heap} (p_v6 : Bool) (p_h_v6 : Bool) (p_h_now : Int) (p_h_want : List (T_api_Addr × T_api_Filter)) (p_h_one : Int) (p_h_two : Int) (p_lost : Int) (now : Int) (l : List T_api_Want) (bp : Nat) (bp_h : Nat) (rp_h_want : Nat) (vl : Value) (hS : St F (Ow.box bp 141 #[.bool p_v6, .pointer (some ⟨bp_h, 0, none⟩), .int .i64 p_lost] :: Ow.box bp_h 97 #[.bool p_h_v6, .int .i64 p_h_now, .map (some rp_h_want), .int .i64 p_h_one, .int .i64 p_h_two] :: Ow.map rp_h_want (fun (x : T_api_Addr) => .agg (e_api_Addr x).toArray) (fun (x : T_api_Filter) => .agg #[.bool x.1, x.2.1]) p_h_want :: fr) h0) (hN_p_h_want : NfL nf_api_Filter F h0 (p_h_want.map (·.2))) (hN_l : NfL nf_api_Want F h0 l) (hL_l : SliceF F h0 19 e_api_Want vl l) (hD : DM.on = false) {Q : (List T_api_Talk) → Bool → Bool → Int → (List (T_api_Addr × T_api_Filter)) → Int → Int → Int → Prop} (hM : proxy_Proxy_Update_W p_v6 p_h_v6 p_h_now p_h_want p_h_one p_h_two p_lost now l Q) :
  HC Tryz.prog 33 #[.pointer (some ⟨bp, 0, none⟩), .int .i64 now, vl] h0 fun u h' => ∃ (F' : Fz) (r_1 : List T_api_Talk) (p_v6_1 : Bool) (p_v6_2 : Bool) (p_now_1 : Int) (pm_1 : List (T_api_Addr × T_api_Filter)) (p_one_1 : Int) (p_two_1 : Int) (p_lost_1 : Int) (vr_1 : Value), u = vr_1 ∧ Kp F h0 F' h' ∧ St F' (Ow.own 31 26 e_api_Talk vr_1 r_1 :: Ow.box bp 141 #[.bool p_v6_1, .pointer (some ⟨bp_h, 0, none⟩), .int .i64 p_lost_1] :: Ow.box bp_h 97 #[.bool p_v6_2, .int .i64 p_now_1, .map (some rp_h_want), .int .i64 p_one_1, .int .i64 p_two_1] :: Ow.map rp_h_want (fun (x : T_api_Addr) => .agg (e_api_Addr x).toArray) (fun (x : T_api_Filter) => .agg #[.bool x.1, x.2.1]) pm_1 :: fr) h' ∧ (NfL nf_api_Filter F' h' (p_h_want.map (·.2))) ∧ (NfL nf_api_Want F' h' l) ∧ (SliceF F' h' 19 e_api_Want vl l) ∧ (NfL nf_api_Talk F' h' r_1) ∧ (NfL nf_api_Filter F' h' (pm_1.map (·.2))) ∧ Q r_1 p_v6_1 p_v6_2 p_now_1 pm_1 p_one_1 p_two_1 p_lost_1 := by
 unfold proxy_Proxy_Update_W at hM
 have hK := Kp.refl F h0
 refine HC.of_HW (n := 88) Tryz.func33 rfl rfl (Nat.le_of_ble_eq_true rfl) ?_
 refine HW.seq ?_
 refine HW.region ?_
 refine oA (.slice none 0 0) rfl rfl ?_
 refine HO.nil (thenQ_normal (?_))
 refine HW.seq ?_
 refine HW.region ?_
 refine oA (.slice none 0 0) rfl rfl ?_
 refine HO.nil (thenQ_normal (?_))
 refine HW.seq ?_
 refine HW.seq ?_
 refine HW.region ?_
 refine oM (.pointer (some ⟨bp, 0, none⟩)) rfl rfl ?_
 refine oV (.bool false) (q_eqlPnil Tryz.underlying82 rfl rfl rfl) rfl ?_
 refine HO.nil (thenQ_normal (?_))
 refine HW.condF rfl ?_
 refine HW.skip (thenQ_normal (?_))
 refine HW.seq ?_
 refine HW.region ?_
 refine oM (vl) rfl rfl ?_
 replace hM := hM vl
 refine HO.eff (want_none) rfl (st_lit (enc := e_s_api_Want) (cells := #[vl]) #[.slice none 0 0] ([(vl, l)] : List T_s_api_Want) hS tl_129 (by decide) (by decide) (by kernel_rfl) (fill_cons (cs' := #[vl]) (vc := #[vl]) rfl (shp hL_l.is).cells rfl (Nat.le_of_ble_eq_true rfl) rfl rfl) rfl (by intro x hx; rfl) rfl) ?_
 rintro _ h_1 ⟨b_1, rfl, hS, hk⟩
 replace hK := hK.trans hk
 replace hN_p_h_want := hN_p_h_want.kp hk
 replace hN_l := hN_l.kp hk
 replace hL_l := hL_l.kp hk
 have hN_4 : NfL nf_s_api_Want F h_1 ([(vl, l)] : List T_s_api_Want) := (NfL.cons (nfm_s_api_Want (vl, l) hL_l hN_l) (NfL.nil _ _ _))
 refine HO.call (want_none) rfl (ec en_76 rfl rfl) (proxy_gather_walk (fr := (Ow.box bp 141 #[.bool p_v6, .pointer (some ⟨bp_h, 0, none⟩), .int .i64 p_lost] :: Ow.box bp_h 97 #[.bool p_h_v6, .int .i64 p_h_now, .map (some rp_h_want), .int .i64 p_h_one, .int .i64 p_h_two] :: Ow.map rp_h_want (fun (x : T_api_Addr) => .agg (e_api_Addr x).toArray) (fun (x : T_api_Filter) => .agg #[.bool x.1, x.2.1]) p_h_want :: fr)) ([(vl, l)] : List T_s_api_Want) (.slice (some ⟨b_1, 0, none⟩) 1 1) hS hN_4 hD hM) ?_
 rintro vr_2 h_2 ⟨F_1, r_2, _, rfl, hk, hS, _, hL_1, hM⟩
 replace hK := hK.trans hk
 replace hN_p_h_want := hN_p_h_want.kp hk
 replace hN_l := hN_l.kp hk
 replace hL_l := hL_l.kp hk
 replace hN_4 := hN_4.kp hk
 refine HO.eff (want_none) rfl (st_alloc (c := #[.slice none 0 0]) hS tz_71 rfl) ?_
 rintro _ h_3 ⟨b_2, rfl, hS, hk⟩
 replace hK := hK.trans hk
 replace hN_p_h_want := hN_p_h_want.kp hk
 replace hN_l := hN_l.kp hk
 replace hL_l := hL_l.kp hk
 replace hN_4 := hN_4.kp hk
 replace hL_1 := hL_1.kp hk
 refine HO.sto (want_none) rfl (st_store (c' := #[vr_2]) hS (i := 0) rfl to_71 rfl rfl (shp (hS.own 1 rfl).slice).cells (shp (hS.own 1 rfl).slice).one (Nat.le_of_ble_eq_true rfl) rfl) ?_
 rintro h_4 ⟨hS, hk⟩
 replace hK := hK.trans hk
 replace hN_p_h_want := hN_p_h_want.kp hk
 replace hN_l := hN_l.kp hk
 replace hL_l := hL_l.kp hk
 replace hN_4 := hN_4.kp hk
 replace hL_1 := hL_1.kp hk
 refine HO.nil (thenQ_normal (?_))
 refine HW.seq ?_
 refine HW.region ?_
 refine oV (.func (.func 84) #[] #[.pointer (some ⟨b_2, 0, none⟩)]) (q_makeFunc rfl rfl) rfl ?_
 refine oA (.func (.func 84) #[] #[.pointer (some ⟨b_2, 0, none⟩)]) rfl rfl ?_
 refine HO.nil (thenQ_normal (?_))
 refine HW.seq ?_
 refine HW.seq ?_
 refine HW.region ?_
 refine oM (.pointer (some ⟨bp, 0, none⟩)) rfl rfl ?_
 refine oV (.pointer (some ⟨bp, 0, none⟩)) (q_nilCheck rfl) rfl ?_
 refine oV (.pointer (some ⟨bp, 1, none⟩)) (q_fieldAddr fa_141_1 rfl rfl) rfl ?_
 refine oV (.pointer (some ⟨bp_h, 0, none⟩)) (q_load to_42 rfl (Blk.cell (hS.box 2 rfl) rfl)) rfl ?_
 replace hS : St F_1 (Ow.box bp_h 97 #[.bool p_h_v6, .int .i64 p_h_now, .map (some rp_h_want), .int .i64 p_h_one, .int .i64 p_h_two] :: Ow.box b_2 71 #[vr_2] :: Ow.own 77 19 e_api_Want vr_2 r_2 :: Ow.box bp 141 #[.bool p_v6, .pointer (some ⟨bp_h, 0, none⟩), .int .i64 p_lost] :: Ow.map rp_h_want (fun (x : T_api_Addr) => .agg (e_api_Addr x).toArray) (fun (x : T_api_Filter) => .agg #[.bool x.1, x.2.1]) p_h_want :: fr) h_4 := hS.perm2 [3, 0, 1, 2, 4] 5 rfl rfl
 have hZ_1 := hS
 have hkz_1 := (hS.freeze).2
 replace hS := hS.freeze.1
 have hL_2 := hZ_1.lent
 replace hS : St (fun bz_ => F_1 bz_ ∨ (Ow.box bp_h 97 #[.bool p_h_v6, .int .i64 p_h_now, .map (some rp_h_want), .int .i64 p_h_one, .int .i64 p_h_two]).foot bz_) (Ow.map rp_h_want (fun (x : T_api_Addr) => .agg (e_api_Addr x).toArray) (fun (x : T_api_Filter) => .agg #[.bool x.1, x.2.1]) p_h_want :: Ow.box b_2 71 #[vr_2] :: Ow.own 77 19 e_api_Want vr_2 r_2 :: Ow.box bp 141 #[.bool p_v6, .pointer (some ⟨bp_h, 0, none⟩), .int .i64 p_lost] :: fr) h_4 := hS.perm2 [3, 0, 1, 2] 4 rfl rfl
 have hZ_2 := hS
 have hkz_2 := (hS.freeze).2
 replace hS := hS.freeze.1
 have hL_3 := hZ_2.lent
 refine HO.call (want_none) rfl (ec en_26 rfl rfl) (host_Host_Groups_walk (fr := (Ow.box b_2 71 #[vr_2] :: Ow.own 77 19 e_api_Want vr_2 r_2 :: Ow.box bp 141 #[.bool p_v6, .pointer (some ⟨bp_h, 0, none⟩), .int .i64 p_lost] :: fr)) p_h_v6 p_h_now p_h_want p_h_one p_h_two bp_h rp_h_want hS (NfL.kp (NfL.kp hN_p_h_want hkz_1) hkz_2) hL_3 (hL_2.kp hkz_2) hM) ?_
 rintro vr_3 h_5 ⟨F_2, r_3, _, rfl, hk, hS, _, _, _, hM⟩
 obtain ⟨hS, hk⟩ := hZ_2.back hk hS
 obtain ⟨hS, hk⟩ := hZ_1.back hk hS
 generalize (fun bz_ => (fun bz_ => F_2 bz_ ∧ ¬ (Ow.map rp_h_want (fun (x : T_api_Addr) => .agg (e_api_Addr x).toArray) (fun (x : T_api_Filter) => .agg #[.bool x.1, x.2.1]) p_h_want).foot bz_) bz_ ∧ ¬ (Ow.box bp_h 97 #[.bool p_h_v6, .int .i64 p_h_now, .map (some rp_h_want), .int .i64 p_h_one, .int .i64 p_h_two]).foot bz_) = F_3 at hS hk
 replace hK := hK.trans hk
 replace hN_p_h_want := hN_p_h_want.kp hk
 replace hN_l := hN_l.kp hk
 replace hL_l := hL_l.kp hk
 replace hN_4 := hN_4.kp hk
 replace hL_1 := hL_1.kp hk
 refine oV (.int .i64 (r_3.length : Int)) (q_len ts_29 (shp (hS.own 2 rfl).slice) rfl rfl) rfl ?_
 refine oM (.int .i64 0) rfl rfl ?_
 refine HO.nil (thenQ_normal (?_))
 refine HW.block ?_
 obtain ⟨I_1, m_1, hI_1, hR_1⟩ := hM
 replace hS := hS.nilOwn 31 26 e_api_Talk
 have hN_8 : NfL nf_api_Talk F_3 h_5 ([] : List T_api_Talk) := NfL.nil _ _ _
 replace hS : St F_3 (Ow.box bp 141 #[.bool p_v6, .pointer (some ⟨bp_h, 0, none⟩), .int .i64 p_lost] :: Ow.box bp_h 97 #[.bool p_h_v6, .int .i64 p_h_now, .map (some rp_h_want), .int .i64 p_h_one, .int .i64 p_h_two] :: Ow.map rp_h_want (fun (x : T_api_Addr) => .agg (e_api_Addr x).toArray) (fun (x : T_api_Filter) => .agg #[.bool x.1, x.2.1]) p_h_want :: Ow.own 31 26 e_api_Talk (.slice none 0 0) ([] : List T_api_Talk) :: Ow.box b_2 71 #[vr_2] :: Ow.own 77 19 e_api_Want vr_2 r_2 :: Ow.own 28 17 e_api_Addr vr_3 r_3 :: fr) h_5 := hS.perm2 [6, 1, 2, 0, 4, 5, 3] 7 rfl rfl
 refine HW.loop (S := Bool × Int × (List (T_api_Addr × T_api_Filter)) × Int × Int × List T_api_Talk × List T_api_Want × Int) (fun s f h => match s with | (p_1_0_2, p_1_1_2, p_1_2_2, p_1_3_2, p_1_4_2, out_1, l_1, n_1) => ∃ (F' : Fz) (vout_1 : Value) (v_1 : Value), f 0 = .pointer (some ⟨bp, 0, none⟩) ∧ f 1 = .int .i64 now ∧ f 6 = .slice none 0 0 ∧ f 7 = vout_1 ∧ f 8 = .pointer (some ⟨b_2, 0, none⟩) ∧ f 9 = .func (.func 84) #[] #[.pointer (some ⟨b_2, 0, none⟩)] ∧ f 28 = vr_3 ∧ f 29 = .int .i64 (r_3.length : Int) ∧ f 30 = .int .i64 n_1 ∧ Kp F h0 F' h ∧ St F' (Ow.box bp 141 #[.bool p_v6, .pointer (some ⟨bp_h, 0, none⟩), .int .i64 p_lost] :: Ow.box bp_h 97 #[.bool p_1_0_2, .int .i64 p_1_1_2, .map (some rp_h_want), .int .i64 p_1_3_2, .int .i64 p_1_4_2] :: Ow.map rp_h_want (fun (x : T_api_Addr) => .agg (e_api_Addr x).toArray) (fun (x : T_api_Filter) => .agg #[.bool x.1, x.2.1]) p_1_2_2 :: Ow.own 31 26 e_api_Talk vout_1 out_1 :: Ow.box b_2 71 #[v_1] :: Ow.own 77 19 e_api_Want v_1 l_1 :: Ow.own 28 17 e_api_Addr vr_3 r_3 :: fr) h ∧ (NfL nf_api_Filter F' h (p_h_want.map (·.2))) ∧ (NfL nf_api_Want F' h l) ∧ (SliceF F' h 19 e_api_Want vl l) ∧ (NfL nf_s_api_Want F' h ([(vl, l)] : List T_s_api_Want)) ∧ (NfL nf_api_Want F' h r_2) ∧ (NfL nf_api_Filter F' h (p_1_2_2.map (·.2))) ∧ (NfL nf_api_Talk F' h out_1) ∧ (NfL nf_api_Want F' h l_1) ∧ I_1 (p_1_0_2, p_1_1_2, p_1_2_2, p_1_3_2, p_1_4_2, out_1, l_1, n_1)) m_1 (p_h_v6, p_h_now, p_h_want, p_h_one, p_h_two, [], r_2, 0) ⟨F_3, .slice none 0 0, vr_2, rfl, rfl, rfl, rfl, rfl, rfl, rfl, rfl, rfl, hK, hS, hN_p_h_want, hN_l, hL_l, hN_4, hL_1, hN_p_h_want, hN_8, hL_1, hI_1⟩ ?_
 rintro ⟨p_1_0_2, p_1_1_2, p_1_2_2, p_1_3_2, p_1_4_2, out_1, l_1, n_1⟩ f_1 h_6 ⟨F_4, vout_1, v_1, e0, e1, e6, e7, e8, e9, e28, e29, e30, hK, hS, hN_p_h_want, hN_l, hL_l, hN_4, hL_1, hN_5, hN_6, hN_7, hI0⟩
 obtain ⟨K_1, hKe_1⟩ : ∃ K : Bool → Int → (List (T_api_Addr × T_api_Filter)) → Int → Int → (List T_api_Talk) → (List T_api_Want) → Int → Prop, K = fun p_1_0_2' p_1_1_2' p_1_2_2' p_1_3_2' p_1_4_2' out_1' l_1' n_1' => I_1 (p_1_0_2', p_1_1_2', p_1_2_2', p_1_3_2', p_1_4_2', out_1', l_1', n_1') ∧ m_1 (p_1_0_2', p_1_1_2', p_1_2_2', p_1_3_2', p_1_4_2', out_1', l_1', n_1') < m_1 (p_1_0_2, p_1_1_2, p_1_2_2, p_1_3_2, p_1_4_2, out_1, l_1, n_1) := ⟨_, rfl⟩
 have hM : proxy_Proxy_Update_l2 p_v6 p_lost now Q r_3 K_1 p_1_0_2 p_1_1_2 p_1_2_2 p_1_3_2 p_1_4_2 out_1 l_1 n_1 := by rw [hKe_1]; exact hR_1 (p_1_0_2, p_1_1_2, p_1_2_2, p_1_3_2, p_1_4_2, out_1, l_1, n_1) hI0
 unfold proxy_Proxy_Update_l2 at hM
 refine HW.fr [(0, .pointer (some ⟨bp, 0, none⟩)), (1, .int .i64 now), (6, .slice none 0 0), (7, vout_1), (8, .pointer (some ⟨b_2, 0, none⟩)), (9, .func (.func 84) #[] #[.pointer (some ⟨b_2, 0, none⟩)]), (28, vr_3), (29, .int .i64 (r_3.length : Int)), (30, .int .i64 n_1)] ⟨e0, e1, e6, e7, e8, e9, e28, e29, e30, trivial⟩ ?_
 refine HW.seq ?_
 refine HW.region ?_
 refine oV (.bool (decide (n_1 < (r_3.length : Int)))) (q_lss rfl rfl) rfl ?_
 refine HO.nil (thenQ_normal (?_))
 refine HW.seq ?_
 refine HW.cond (decide (n_1 < (r_3.length : Int))) rfl (fun c_1 => ?_) (fun c_1 => ?_)
 ·
  replace hM := hM.1 (of_decide_eq_true c_1)
  refine HW.skip (thenQ_normal (?_))
  refine HW.seq ?_
  refine HW.block ?_
  refine HW.seq ?_
  refine HW.region ?_
  obtain ⟨ho_1, hM⟩ := hM
  refine oV (elemPtr 17 vr_3 (n_1).toNat) (q_idx ts_29 (hS.own 6 rfl).slice rfl rfl ho_1) rfl ?_
  refine oV (.agg (e_api_Addr (gi r_3 n_1)).toArray) (q_ldElemAgg (cs := (e_api_Addr (gi r_3 n_1))) ta_28 (hS.own 6 rfl).slice rfl ho_1 rfl) rfl ?_
  refine HO.eff (want_none) rfl (st_alloc (c := (e_api_Addr (false, (default : Ba 16))).toArray) hS tz_28 rfl) ?_
  rintro _ h_7 ⟨b_3, rfl, hS, hk⟩
  replace hK := hK.trans hk
  replace hN_p_h_want := hN_p_h_want.kp hk
  replace hN_l := hN_l.kp hk
  replace hL_l := hL_l.kp hk
  replace hN_4 := hN_4.kp hk
  replace hL_1 := hL_1.kp hk
  replace hN_5 := hN_5.kp hk
  replace hN_6 := hN_6.kp hk
  replace hN_7 := hN_7.kp hk
  refine HO.sto (want_none) rfl (st_storeAgg (c' := (e_api_Addr (gi r_3 n_1)).toArray) hS (i := 0) rfl ta_28 rfl rfl rfl (one_e_api_Addr _) (Nat.le_of_ble_eq_true rfl) rfl) ?_
  rintro h_8 ⟨hS, hk⟩
  replace hK := hK.trans hk
  replace hN_p_h_want := hN_p_h_want.kp hk
  replace hN_l := hN_l.kp hk
  replace hL_l := hL_l.kp hk
  replace hN_4 := hN_4.kp hk
  replace hL_1 := hL_1.kp hk
  replace hN_5 := hN_5.kp hk
  replace hN_6 := hN_6.kp hk
  replace hN_7 := hN_7.kp hk
  refine HO.nil (thenQ_normal (?_))
  refine HW.seq ?_
  refine HW.region ?_
  refine oM (.func (.func 84) #[] #[.pointer (some ⟨b_2, 0, none⟩)]) rfl rfl ?_
  refine oV (.agg (e_api_Addr (gi r_3 n_1)).toArray) (q_loadAgg (cs := (e_api_Addr (gi r_3 n_1))) ta_28 rfl rfl (Blk.cells (k := 17) (hS.box 0 rfl) rfl)) rfl ?_
  replace hS : St F_4 (Ow.box b_2 71 #[v_1] :: Ow.own 77 19 e_api_Want v_1 l_1 :: Ow.box b_3 28 (e_api_Addr (gi r_3 n_1)).toArray :: Ow.box bp 141 #[.bool p_v6, .pointer (some ⟨bp_h, 0, none⟩), .int .i64 p_lost] :: Ow.box bp_h 97 #[.bool p_1_0_2, .int .i64 p_1_1_2, .map (some rp_h_want), .int .i64 p_1_3_2, .int .i64 p_1_4_2] :: Ow.map rp_h_want (fun (x : T_api_Addr) => .agg (e_api_Addr x).toArray) (fun (x : T_api_Filter) => .agg #[.bool x.1, x.2.1]) p_1_2_2 :: Ow.own 31 26 e_api_Talk vout_1 out_1 :: Ow.own 28 17 e_api_Addr vr_3 r_3 :: fr) h_8 := hS.perm2 [5, 6, 0, 1, 2, 3, 4, 7] 8 rfl rfl
  refine HO.call (want_none) rfl (ec en_84 rfl rfl) (proxy_Proxy_Update_1_walk (fr := (Ow.box b_3 28 (e_api_Addr (gi r_3 n_1)).toArray :: Ow.box bp 141 #[.bool p_v6, .pointer (some ⟨bp_h, 0, none⟩), .int .i64 p_lost] :: Ow.box bp_h 97 #[.bool p_1_0_2, .int .i64 p_1_1_2, .map (some rp_h_want), .int .i64 p_1_3_2, .int .i64 p_1_4_2] :: Ow.map rp_h_want (fun (x : T_api_Addr) => .agg (e_api_Addr x).toArray) (fun (x : T_api_Filter) => .agg #[.bool x.1, x.2.1]) p_1_2_2 :: Ow.own 31 26 e_api_Talk vout_1 out_1 :: Ow.own 28 17 e_api_Addr vr_3 r_3 :: fr)) (gi r_3 n_1) l_1 b_2 v_1 hS hN_7 hM) ?_
  rintro _ h_9 ⟨F_5, r_4, a1_0_1, v_2, rfl, hk, hS, _, hL_4, hM⟩
  replace hK := hK.trans hk
  replace hN_p_h_want := hN_p_h_want.kp hk
  replace hN_l := hN_l.kp hk
  replace hL_l := hL_l.kp hk
  replace hN_4 := hN_4.kp hk
  replace hL_1 := hL_1.kp hk
  replace hN_5 := hN_5.kp hk
  replace hN_6 := hN_6.kp hk
  refine oV (.bool (!r_4)) (q_not rfl) rfl ?_
  refine HO.nil (thenQ_normal (?_))
  refine HW.cond (!r_4) rfl (fun c_2 => ?_) (fun c_2 => ?_)
  ·
   replace hM := hM.1 c_2
   refine HW.seq ?_
   refine HW.regionA 13 mixed (fun h => (Blk h b_3 (.cells (e_api_Addr (gi r_3 n_1)).toArray 28 (0, 0))) ∧ (Blk h bp (.cells #[.bool p_v6, .pointer (some ⟨bp_h, 0, none⟩), .int .i64 p_lost] 141 (0, 0)))) [] (by kernel_rfl) ?_
   refine HA.val (k := 0) (v := .pointer (some ⟨bp, 0, none⟩)) rfl rfl (by kernel_rfl) (by kernel_rfl) (want_none) rfl (fun _ ⟨c373, c365⟩ => q_move rfl) ?_
   refine HA.val (k := 1) (v := .pointer (some ⟨bp, 0, none⟩)) rfl rfl (by kernel_rfl) (by kernel_rfl) (want_none) rfl (fun _ ⟨c373, c365⟩ => q_nilCheck rfl) ?_
   refine HA.val (k := 2) (v := .pointer (some ⟨bp, 1, none⟩)) rfl rfl (by kernel_rfl) (by kernel_rfl) (want_none) rfl (fun _ ⟨c373, c365⟩ => q_fieldAddr fa_141_1 rfl rfl) ?_
   refine HA.val (k := 3) (v := .pointer (some ⟨bp_h, 0, none⟩)) rfl rfl (by kernel_rfl) (by kernel_rfl) (want_none) rfl (fun _ ⟨c373, c365⟩ => q_load to_42 rfl (Blk.cell c365 rfl)) ?_
   refine HA.val (k := 4) (v := .int .i64 now) rfl rfl (by kernel_rfl) (by kernel_rfl) (want_none) rfl (fun _ ⟨c373, c365⟩ => q_move rfl) ?_
   refine HA.val (k := 5) (v := .agg (e_api_Addr (gi r_3 n_1)).toArray) rfl rfl (by kernel_rfl) (by kernel_rfl) (want_none) rfl (fun _ ⟨c373, c365⟩ => q_loadAgg (cs := (e_api_Addr (gi r_3 n_1))) ta_28 rfl rfl (Blk.cells (k := 17) c373 rfl)) ?_
   refine HA.val (k := 6) (v := .agg #[.bool false, .slice none 0 0]) rfl rfl (by kernel_rfl) (by kernel_rfl) (want_none) rfl (fun _ ⟨c373, c365⟩ => q_build tp_50 rfl) ?_
   refine HA.one (k := 7) ⟨⟨(hS.box 2 rfl), (hS.box 3 rfl)⟩, (Go.Wk.at_nil _ _)⟩ (by kernel_rfl) ?_
   replace hS : St F_5 (Ow.box bp_h 97 #[.bool p_1_0_2, .int .i64 p_1_1_2, .map (some rp_h_want), .int .i64 p_1_3_2, .int .i64 p_1_4_2] :: Ow.map rp_h_want (fun (x : T_api_Addr) => .agg (e_api_Addr x).toArray) (fun (x : T_api_Filter) => .agg #[.bool x.1, x.2.1]) p_1_2_2 :: Ow.box b_2 71 #[v_2] :: Ow.own 77 19 e_api_Want v_2 a1_0_1 :: Ow.box b_3 28 (e_api_Addr (gi r_3 n_1)).toArray :: Ow.box bp 141 #[.bool p_v6, .pointer (some ⟨bp_h, 0, none⟩), .int .i64 p_lost] :: Ow.own 31 26 e_api_Talk vout_1 out_1 :: Ow.own 28 17 e_api_Addr vr_3 r_3 :: fr) h_9 := hS.perm2 [4, 5, 0, 1, 2, 3, 6, 7] 8 rfl rfl
   refine HS.call rfl (want_none) rfl (ec en_17 rfl rfl) (host_Host_Set_walk (fr := (Ow.box b_2 71 #[v_2] :: Ow.own 77 19 e_api_Want v_2 a1_0_1 :: Ow.box b_3 28 (e_api_Addr (gi r_3 n_1)).toArray :: Ow.box bp 141 #[.bool p_v6, .pointer (some ⟨bp_h, 0, none⟩), .int .i64 p_lost] :: Ow.own 31 26 e_api_Talk vout_1 out_1 :: Ow.own 28 17 e_api_Addr vr_3 r_3 :: fr)) p_1_0_2 p_1_1_2 p_1_2_2 p_1_3_2 p_1_4_2 now (gi r_3 n_1) false [] bp_h rp_h_want (.slice none 0 0) hS hN_5 (SliceF.nil _ _ _ _) hM) ?_
   rintro _ h_10 ⟨F_6, r0_1, r1_1, a0_v6_1, a0_now_1, a0m_1, a0_one_1, a0_two_1, vr0_1, rfl, hk, hS, _, _, hL_5, hL_6, hM⟩
   replace hK := hK.trans hk
   replace hN_p_h_want := hN_p_h_want.kp hk
   replace hN_l := hN_l.kp hk
   replace hL_l := hL_l.kp hk
   replace hN_4 := hN_4.kp hk
   replace hL_1 := hL_1.kp hk
   replace hN_6 := hN_6.kp hk
   replace hL_4 := hL_4.kp hk
   refine HA.val (k := 8) (v := .tuple #[vr0_1, .int .i64 r1_1]) rfl rfl (by kernel_rfl) (by kernel_rfl) (want_none) rfl (fun _ ⟨c373, c365⟩ => q_move rfl) ?_
   refine HA.val (k := 9) (v := vr0_1) rfl rfl (by kernel_rfl) (by kernel_rfl) (want_none) rfl (fun _ ⟨c373, c365⟩ => q_extract rfl rfl) ?_
   refine HA.val (k := 10) (v := .int .i64 r1_1) rfl rfl (by kernel_rfl) (by kernel_rfl) (want_none) rfl (fun _ ⟨c373, c365⟩ => q_extract rfl rfl) ?_
   refine HA.val (k := 11) (v := vr0_1) rfl rfl (by kernel_rfl) (by kernel_rfl) (want_none) rfl (fun _ ⟨c373, c365⟩ => q_assign rfl) ?_
   refine HA.val (k := 12) (v := .int .i64 r1_1) rfl rfl (by kernel_rfl) (by kernel_rfl) (want_none) rfl (fun _ ⟨c373, c365⟩ => q_assign rfl) ?_
   refine HA.nil ⟨⟨(hS.box 5 rfl), (hS.box 6 rfl)⟩, (Go.Wk.at_nil _ _)⟩ (by kernel_rfl) (thenQ_normal (?_))
   refine HW.region ?_
   refine oM (vout_1) rfl rfl ?_
   refine oM (vr0_1) rfl rfl ?_
   obtain ⟨ho_2, hM⟩ := hM
   refine HO.eff (want_none) rfl (st_append te_33 hS (i := 7) rfl (hS.own 0 rfl).slice rfl rfl rfl (fun a_ ha_ => nfo_api_Talk (hL_5.is.all a_ ha_)) ho_2 (by omega)) ?_
   rintro v_3 h_11 ⟨hS, hk⟩
   replace hK := hK.trans hk
   replace hN_p_h_want := hN_p_h_want.kp hk
   replace hN_l := hN_l.kp hk
   replace hL_l := hL_l.kp hk
   replace hN_4 := hN_4.kp hk
   replace hL_1 := hL_1.kp hk
   replace hN_6 := hN_6.kp hk
   replace hL_4 := hL_4.kp hk
   replace hL_5 := hL_5.kp hk
   replace hL_6 := hL_6.kp hk
   have hN_9 : NfL nf_api_Talk F_6 h_11 (out_1 ++ r0_1) := NfL.app hN_6 hL_5
   refine oA (v_3) rfl rfl ?_
   refine HO.nil (blockQ_normal (thenQ_normal (?_)))
   refine HW.region ?_
   obtain ⟨ho_3, hM⟩ := hM
   refine oV (.int .i64 (n_1 + 1)) (q_addN _ rfl rfl rfl ho_3.1 ho_3.2) rfl ?_
   refine oM (.int .i64 (n_1 + 1)) rfl rfl ?_
   refine HO.nil (thenQ_normal (?_))
   replace hS : St F_6 (Ow.box bp 141 #[.bool p_v6, .pointer (some ⟨bp_h, 0, none⟩), .int .i64 p_lost] :: Ow.box bp_h 97 #[.bool a0_v6_1, .int .i64 a0_now_1, .map (some rp_h_want), .int .i64 a0_one_1, .int .i64 a0_two_1] :: Ow.map rp_h_want (fun (x : T_api_Addr) => .agg (e_api_Addr x).toArray) (fun (x : T_api_Filter) => .agg #[.bool x.1, x.2.1]) a0m_1 :: Ow.own 31 26 e_api_Talk v_3 (out_1 ++ r0_1) :: Ow.box b_2 71 #[v_2] :: Ow.own 77 19 e_api_Want v_2 a1_0_1 :: Ow.own 28 17 e_api_Addr vr_3 r_3 :: fr) h_11 := hS.perm2 [6, 1, 2, 7, 3, 4, 8] 9 rfl rfl
   rw [hKe_1] at hM
   exact ⟨(a0_v6_1, a0_now_1, a0m_1, a0_one_1, a0_two_1, out_1 ++ r0_1, a1_0_1, n_1 + 1), ⟨F_6, v_3, v_2, rfl, rfl, rfl, rfl, rfl, rfl, rfl, rfl, rfl, hK, hS, hN_p_h_want, hN_l, hL_l, hN_4, hL_1, hL_6, hN_9, hL_4, hM.1⟩, hM.2⟩
  ·
   replace hM := hM.2 c_2
   refine HW.skip (blockQ_normal (thenQ_normal (?_)))
   refine HW.region ?_
   obtain ⟨ho_4, hM⟩ := hM
   refine oV (.int .i64 (n_1 + 1)) (q_addN _ rfl rfl rfl ho_4.1 ho_4.2) rfl ?_
   refine oM (.int .i64 (n_1 + 1)) rfl rfl ?_
   refine HO.nil (thenQ_normal (?_))
   replace hS : St F_5 (Ow.box bp 141 #[.bool p_v6, .pointer (some ⟨bp_h, 0, none⟩), .int .i64 p_lost] :: Ow.box bp_h 97 #[.bool p_1_0_2, .int .i64 p_1_1_2, .map (some rp_h_want), .int .i64 p_1_3_2, .int .i64 p_1_4_2] :: Ow.map rp_h_want (fun (x : T_api_Addr) => .agg (e_api_Addr x).toArray) (fun (x : T_api_Filter) => .agg #[.bool x.1, x.2.1]) p_1_2_2 :: Ow.own 31 26 e_api_Talk vout_1 out_1 :: Ow.box b_2 71 #[v_2] :: Ow.own 77 19 e_api_Want v_2 a1_0_1 :: Ow.own 28 17 e_api_Addr vr_3 r_3 :: fr) h_9 := hS.perm2 [3, 4, 5, 6, 0, 1, 7] 8 rfl rfl
   rw [hKe_1] at hM
   exact ⟨(p_1_0_2, p_1_1_2, p_1_2_2, p_1_3_2, p_1_4_2, out_1, a1_0_1, n_1 + 1), ⟨F_5, vout_1, v_2, rfl, rfl, rfl, rfl, rfl, rfl, rfl, rfl, rfl, hK, hS, hN_p_h_want, hN_l, hL_l, hN_4, hL_1, hN_5, hN_6, hL_4, hM.1⟩, hM.2⟩
 ·
  replace hM := hM.2 (of_decide_eq_false c_1)
  refine HW.exit (thenQ_exit (thenQ_exit (blockQ_exit (thenQ_normal (?_)))))
  refine HW.seq ?_
  refine HW.seq ?_
  refine HW.region ?_
  refine oV (v_1) (q_load to_71 rfl (Blk.cell (hS.box 4 rfl) rfl)) rfl ?_
  refine oV (.int .i64 (l_1.length : Int)) (q_len ts_71 (shp (hS.own 5 rfl).slice) rfl rfl) rfl ?_
  refine oM (.int .i64 0) rfl rfl ?_
  refine HO.nil (thenQ_normal (?_))
  refine HW.block ?_
  obtain ⟨I_2, m_2, hI_2, hR_2⟩ := hM
  replace hS : St F_4 (Ow.box bp 141 #[.bool p_v6, .pointer (some ⟨bp_h, 0, none⟩), .int .i64 p_lost] :: Ow.box bp_h 97 #[.bool p_1_0_2, .int .i64 p_1_1_2, .map (some rp_h_want), .int .i64 p_1_3_2, .int .i64 p_1_4_2] :: Ow.map rp_h_want (fun (x : T_api_Addr) => .agg (e_api_Addr x).toArray) (fun (x : T_api_Filter) => .agg #[.bool x.1, x.2.1]) p_1_2_2 :: Ow.own 31 26 e_api_Talk vout_1 out_1 :: Ow.own 77 19 e_api_Want v_1 l_1 :: fr) h_6 := hS.perm2 [0, 1, 2, 3, 5] 7 rfl rfl
  refine HW.loop (S := Bool × Int × (List (T_api_Addr × T_api_Filter)) × Int × Int × Int × List T_api_Talk × Int) (fun s f h => match s with | (p_1_0_3, p_1_1_3, p_1_2_3, p_1_3_3, p_1_4_3, p_2_2, out_2, n_2) => ∃ (F' : Fz) (vout_2 : Value), f 0 = .pointer (some ⟨bp, 0, none⟩) ∧ f 1 = .int .i64 now ∧ f 6 = .slice none 0 0 ∧ f 7 = vout_2 ∧ f 53 = v_1 ∧ f 54 = .int .i64 (l_1.length : Int) ∧ f 55 = .int .i64 n_2 ∧ Kp F h0 F' h ∧ St F' (Ow.box bp 141 #[.bool p_v6, .pointer (some ⟨bp_h, 0, none⟩), .int .i64 p_2_2] :: Ow.box bp_h 97 #[.bool p_1_0_3, .int .i64 p_1_1_3, .map (some rp_h_want), .int .i64 p_1_3_3, .int .i64 p_1_4_3] :: Ow.map rp_h_want (fun (x : T_api_Addr) => .agg (e_api_Addr x).toArray) (fun (x : T_api_Filter) => .agg #[.bool x.1, x.2.1]) p_1_2_3 :: Ow.own 31 26 e_api_Talk vout_2 out_2 :: Ow.own 77 19 e_api_Want v_1 l_1 :: fr) h ∧ (NfL nf_api_Filter F' h (p_h_want.map (·.2))) ∧ (NfL nf_api_Want F' h l) ∧ (SliceF F' h 19 e_api_Want vl l) ∧ (NfL nf_s_api_Want F' h ([(vl, l)] : List T_s_api_Want)) ∧ (NfL nf_api_Want F' h r_2) ∧ (NfL nf_api_Filter F' h (p_1_2_2.map (·.2))) ∧ (NfL nf_api_Talk F' h out_1) ∧ (NfL nf_api_Want F' h l_1) ∧ (NfL nf_api_Filter F' h (p_1_2_3.map (·.2))) ∧ (NfL nf_api_Talk F' h out_2) ∧ I_2 (p_1_0_3, p_1_1_3, p_1_2_3, p_1_3_3, p_1_4_3, p_2_2, out_2, n_2)) m_2 (p_1_0_2, p_1_1_2, p_1_2_2, p_1_3_2, p_1_4_2, p_lost, out_1, 0) ⟨F_4, vout_1, rfl, rfl, rfl, rfl, rfl, rfl, rfl, hK, hS, hN_p_h_want, hN_l, hL_l, hN_4, hL_1, hN_5, hN_6, hN_7, hN_5, hN_6, hI_2⟩ ?_
  rintro ⟨p_1_0_3, p_1_1_3, p_1_2_3, p_1_3_3, p_1_4_3, p_2_2, out_2, n_2⟩ f_2 h_12 ⟨F_7, vout_2, e0, e1, e6, e7, e53, e54, e55, hK, hS, hN_p_h_want, hN_l, hL_l, hN_4, hL_1, hN_5, hN_6, hN_7, hN_10, hN_11, hI0⟩
  obtain ⟨K_2, hKe_2⟩ : ∃ K : Bool → Int → (List (T_api_Addr × T_api_Filter)) → Int → Int → Int → (List T_api_Talk) → Int → Prop, K = fun p_1_0_3' p_1_1_3' p_1_2_3' p_1_3_3' p_1_4_3' p_2_2' out_2' n_2' => I_2 (p_1_0_3', p_1_1_3', p_1_2_3', p_1_3_3', p_1_4_3', p_2_2', out_2', n_2') ∧ m_2 (p_1_0_3', p_1_1_3', p_1_2_3', p_1_3_3', p_1_4_3', p_2_2', out_2', n_2') < m_2 (p_1_0_3, p_1_1_3, p_1_2_3, p_1_3_3, p_1_4_3, p_2_2, out_2, n_2) := ⟨_, rfl⟩
  have hM : proxy_Proxy_Update_l3 p_v6 now Q l_1 K_2 p_1_0_3 p_1_1_3 p_1_2_3 p_1_3_3 p_1_4_3 p_2_2 out_2 n_2 := by rw [hKe_2]; exact hR_2 (p_1_0_3, p_1_1_3, p_1_2_3, p_1_3_3, p_1_4_3, p_2_2, out_2, n_2) hI0
  unfold proxy_Proxy_Update_l3 at hM
  refine HW.fr [(0, .pointer (some ⟨bp, 0, none⟩)), (1, .int .i64 now), (6, .slice none 0 0), (7, vout_2), (53, v_1), (54, .int .i64 (l_1.length : Int)), (55, .int .i64 n_2)] ⟨e0, e1, e6, e7, e53, e54, e55, trivial⟩ ?_
  refine HW.seq ?_
  refine HW.region ?_
  refine oV (.bool (decide (n_2 < (l_1.length : Int)))) (q_lss rfl rfl) rfl ?_
  refine HO.nil (thenQ_normal (?_))
  refine HW.seq ?_
  refine HW.cond (decide (n_2 < (l_1.length : Int))) rfl (fun c_3 => ?_) (fun c_3 => ?_)
  ·
   replace hM := hM.1 (of_decide_eq_true c_3)
   refine HW.skip (thenQ_normal (?_))
   refine HW.seq ?_
   refine HW.block ?_
   refine HW.seq ?_
   refine HW.region ?_
   obtain ⟨ho_5, hM⟩ := hM
   refine oV (elemPtr 19 v_1 (n_2).toNat) (q_idx ts_71 (hS.own 4 rfl).slice rfl rfl ho_5) rfl ?_
   refine oV (.agg (c_api_Want ((gi l_1 n_2).1) (.bool (((gi l_1 n_2).2).1)) ((((gi l_1 n_2).2).2).1)).toArray) (q_ldElemAgg (cs := (c_api_Want ((gi l_1 n_2).1) (.bool (((gi l_1 n_2).2).1)) ((((gi l_1 n_2).2).2).1))) ta_77 (hS.own 4 rfl).slice rfl ho_5 rfl) rfl ?_
   refine HO.eff (want_none) rfl (st_alloc (c := (c_api_Want (false, (default : Ba 16)) (.bool false) (.slice none 0 0)).toArray) hS tz_77 rfl) ?_
   rintro _ h_13 ⟨b_4, rfl, hS, hk⟩
   replace hK := hK.trans hk
   replace hN_p_h_want := hN_p_h_want.kp hk
   replace hN_l := hN_l.kp hk
   replace hL_l := hL_l.kp hk
   replace hN_4 := hN_4.kp hk
   replace hL_1 := hL_1.kp hk
   replace hN_5 := hN_5.kp hk
   replace hN_6 := hN_6.kp hk
   replace hN_7 := hN_7.kp hk
   replace hN_10 := hN_10.kp hk
   replace hN_11 := hN_11.kp hk
   refine HO.sto (want_none) rfl (st_storeAgg (c' := (c_api_Want ((gi l_1 n_2).1) (.bool (((gi l_1 n_2).2).1)) ((((gi l_1 n_2).2).2).1)).toArray) hS (i := 0) rfl ta_77 rfl rfl rfl (List.forall_mem_cons.2 ⟨rfl, (List.forall_mem_cons.2 ⟨rfl, (List.forall_mem_cons.2 ⟨rfl, (List.forall_mem_cons.2 ⟨rfl, (List.forall_mem_cons.2 ⟨rfl, (List.forall_mem_cons.2 ⟨rfl, (List.forall_mem_cons.2 ⟨rfl, (List.forall_mem_cons.2 ⟨rfl, (List.forall_mem_cons.2 ⟨rfl, (List.forall_mem_cons.2 ⟨rfl, (List.forall_mem_cons.2 ⟨rfl, (List.forall_mem_cons.2 ⟨rfl, (List.forall_mem_cons.2 ⟨rfl, (List.forall_mem_cons.2 ⟨rfl, (List.forall_mem_cons.2 ⟨rfl, (List.forall_mem_cons.2 ⟨rfl, (List.forall_mem_cons.2 ⟨rfl, (List.forall_mem_cons.2 ⟨rfl, (List.forall_mem_cons.2 ⟨(shp (nfi_api_Want_18 (NfI.at hN_7.is ho_5))).one, (fun _ h => by cases h)⟩)⟩)⟩)⟩)⟩)⟩)⟩)⟩)⟩)⟩)⟩)⟩)⟩)⟩)⟩)⟩)⟩)⟩)⟩) (Nat.le_of_ble_eq_true rfl) rfl) ?_
   rintro h_14 ⟨hS, hk⟩
   replace hK := hK.trans hk
   replace hN_p_h_want := hN_p_h_want.kp hk
   replace hN_l := hN_l.kp hk
   replace hL_l := hL_l.kp hk
   replace hN_4 := hN_4.kp hk
   replace hL_1 := hL_1.kp hk
   replace hN_5 := hN_5.kp hk
   replace hN_6 := hN_6.kp hk
   replace hN_7 := hN_7.kp hk
   replace hN_10 := hN_10.kp hk
   replace hN_11 := hN_11.kp hk
   refine HO.nil (thenQ_normal (?_))
   refine HW.seq ?_
   refine HW.regionA 15 mixed (fun h => (Blk h b_4 (.cells (c_api_Want ((gi l_1 n_2).1) (.bool (((gi l_1 n_2).2).1)) ((((gi l_1 n_2).2).2).1)).toArray 77 (0, 0))) ∧ (Blk h bp (.cells #[.bool p_v6, .pointer (some ⟨bp_h, 0, none⟩), .int .i64 p_2_2] 141 (0, 0)))) [] (by kernel_rfl) ?_
   refine HA.val (k := 0) (v := .pointer (some ⟨bp, 0, none⟩)) rfl rfl (by kernel_rfl) (by kernel_rfl) (want_none) rfl (fun _ ⟨c528, c523⟩ => q_move rfl) ?_
   refine HA.val (k := 1) (v := .pointer (some ⟨bp, 0, none⟩)) rfl rfl (by kernel_rfl) (by kernel_rfl) (want_none) rfl (fun _ ⟨c528, c523⟩ => q_nilCheck rfl) ?_
   refine HA.val (k := 2) (v := .pointer (some ⟨bp, 1, none⟩)) rfl rfl (by kernel_rfl) (by kernel_rfl) (want_none) rfl (fun _ ⟨c528, c523⟩ => q_fieldAddr fa_141_1 rfl rfl) ?_
   refine HA.val (k := 3) (v := .pointer (some ⟨bp_h, 0, none⟩)) rfl rfl (by kernel_rfl) (by kernel_rfl) (want_none) rfl (fun _ ⟨c528, c523⟩ => q_load to_42 rfl (Blk.cell c523 rfl)) ?_
   refine HA.val (k := 4) (v := .int .i64 now) rfl rfl (by kernel_rfl) (by kernel_rfl) (want_none) rfl (fun _ ⟨c528, c523⟩ => q_move rfl) ?_
   refine HA.val (k := 5) (v := .pointer (some ⟨b_4, 0, none⟩)) rfl rfl (by kernel_rfl) (by kernel_rfl) (want_none) rfl (fun _ ⟨c528, c523⟩ => q_fieldAddr fa_77_0 rfl rfl) ?_
   refine HA.val (k := 6) (v := .agg (e_api_Addr ((gi l_1 n_2).1)).toArray) rfl rfl (by kernel_rfl) (by kernel_rfl) (want_none) rfl (fun _ ⟨c528, c523⟩ => q_loadAgg (cs := (e_api_Addr ((gi l_1 n_2).1))) ta_28 rfl rfl (Blk.cells (k := 17) c528 rfl)) ?_
   refine HA.val (k := 7) (v := .pointer (some ⟨b_4, 17, none⟩)) rfl rfl (by kernel_rfl) (by kernel_rfl) (want_none) rfl (fun _ ⟨c528, c523⟩ => q_fieldAddr fa_77_1 rfl rfl) ?_
   refine HA.val (k := 8) (v := .agg #[.bool (((gi l_1 n_2).2).1), (((gi l_1 n_2).2).2).1]) rfl rfl (by kernel_rfl) (by kernel_rfl) (want_none) rfl (fun _ ⟨c528, c523⟩ => q_loadAgg (cs := [.bool (((gi l_1 n_2).2).1), (((gi l_1 n_2).2).2).1]) ta_50 rfl rfl (Blk.cells (k := 2) c528 rfl)) ?_
   refine HA.one (k := 9) ⟨⟨(hS.box 0 rfl), (hS.box 1 rfl)⟩, (Go.Wk.at_nil _ _)⟩ (by kernel_rfl) ?_
   replace hS : St F_7 (Ow.box bp_h 97 #[.bool p_1_0_3, .int .i64 p_1_1_3, .map (some rp_h_want), .int .i64 p_1_3_3, .int .i64 p_1_4_3] :: Ow.map rp_h_want (fun (x : T_api_Addr) => .agg (e_api_Addr x).toArray) (fun (x : T_api_Filter) => .agg #[.bool x.1, x.2.1]) p_1_2_3 :: Ow.box b_4 77 (c_api_Want ((gi l_1 n_2).1) (.bool (((gi l_1 n_2).2).1)) ((((gi l_1 n_2).2).2).1)).toArray :: Ow.box bp 141 #[.bool p_v6, .pointer (some ⟨bp_h, 0, none⟩), .int .i64 p_2_2] :: Ow.own 31 26 e_api_Talk vout_2 out_2 :: Ow.own 77 19 e_api_Want v_1 l_1 :: fr) h_14 := hS.perm2 [2, 3, 0, 1, 4, 5] 6 rfl rfl
   refine HS.call rfl (want_none) rfl (ec en_17 rfl rfl) (host_Host_Set_walk (fr := (Ow.box b_4 77 (c_api_Want ((gi l_1 n_2).1) (.bool (((gi l_1 n_2).2).1)) ((((gi l_1 n_2).2).2).1)).toArray :: Ow.box bp 141 #[.bool p_v6, .pointer (some ⟨bp_h, 0, none⟩), .int .i64 p_2_2] :: Ow.own 31 26 e_api_Talk vout_2 out_2 :: Ow.own 77 19 e_api_Want v_1 l_1 :: fr)) p_1_0_3 p_1_1_3 p_1_2_3 p_1_3_3 p_1_4_3 now ((gi l_1 n_2).1) (((gi l_1 n_2).2).1) ((((gi l_1 n_2).2).2).2) bp_h rp_h_want ((((gi l_1 n_2).2).2).1) hS hN_10 (nff_api_Want_18 (NfL.at hN_7 ho_5)) hM) ?_
   rintro _ h_15 ⟨F_8, r0_2, r1_2, a0_v6_2, a0_now_2, a0m_2, a0_one_2, a0_two_2, vr0_2, rfl, hk, hS, _, _, hL_7, hL_8, hM⟩
   replace hK := hK.trans hk
   replace hN_p_h_want := hN_p_h_want.kp hk
   replace hN_l := hN_l.kp hk
   replace hL_l := hL_l.kp hk
   replace hN_4 := hN_4.kp hk
   replace hL_1 := hL_1.kp hk
   replace hN_5 := hN_5.kp hk
   replace hN_6 := hN_6.kp hk
   replace hN_7 := hN_7.kp hk
   replace hN_10 := hN_10.kp hk
   replace hN_11 := hN_11.kp hk
   refine HA.val (k := 10) (v := .tuple #[vr0_2, .int .i64 r1_2]) rfl rfl (by kernel_rfl) (by kernel_rfl) (want_none) rfl (fun _ ⟨c528, c523⟩ => q_move rfl) ?_
   refine HA.val (k := 11) (v := vr0_2) rfl rfl (by kernel_rfl) (by kernel_rfl) (want_none) rfl (fun _ ⟨c528, c523⟩ => q_extract rfl rfl) ?_
   refine HA.val (k := 12) (v := .int .i64 r1_2) rfl rfl (by kernel_rfl) (by kernel_rfl) (want_none) rfl (fun _ ⟨c528, c523⟩ => q_extract rfl rfl) ?_
   refine HA.val (k := 13) (v := vr0_2) rfl rfl (by kernel_rfl) (by kernel_rfl) (want_none) rfl (fun _ ⟨c528, c523⟩ => q_assign rfl) ?_
   refine HA.val (k := 14) (v := .int .i64 r1_2) rfl rfl (by kernel_rfl) (by kernel_rfl) (want_none) rfl (fun _ ⟨c528, c523⟩ => q_assign rfl) ?_
   refine HA.nil ⟨⟨(hS.box 3 rfl), (hS.box 4 rfl)⟩, (Go.Wk.at_nil _ _)⟩ (by kernel_rfl) (thenQ_normal (?_))
   refine HW.seq_mid (fun f h => ∃ (F' : Fz) (p_2_3 : Int), f 0 = .pointer (some ⟨bp, 0, none⟩) ∧ f 1 = .int .i64 now ∧ f 6 = .slice none 0 0 ∧ f 7 = vout_2 ∧ f 16 = vr0_2 ∧ f 53 = v_1 ∧ f 54 = .int .i64 (l_1.length : Int) ∧ f 55 = .int .i64 n_2 ∧ Kp F h0 F' h ∧ St F' (Ow.box bp 141 #[.bool p_v6, .pointer (some ⟨bp_h, 0, none⟩), .int .i64 p_2_3] :: Ow.box bp_h 97 #[.bool a0_v6_2, .int .i64 a0_now_2, .map (some rp_h_want), .int .i64 a0_one_2, .int .i64 a0_two_2] :: Ow.map rp_h_want (fun (x : T_api_Addr) => .agg (e_api_Addr x).toArray) (fun (x : T_api_Filter) => .agg #[.bool x.1, x.2.1]) a0m_2 :: Ow.own 31 26 e_api_Talk vout_2 out_2 :: Ow.own 31 26 e_api_Talk vr0_2 r0_2 :: Ow.own 77 19 e_api_Want v_1 l_1 :: fr) h ∧ (NfL nf_api_Filter F' h (p_h_want.map (·.2))) ∧ (NfL nf_api_Want F' h l) ∧ (SliceF F' h 19 e_api_Want vl l) ∧ (NfL nf_s_api_Want F' h ([(vl, l)] : List T_s_api_Want)) ∧ (NfL nf_api_Want F' h r_2) ∧ (NfL nf_api_Filter F' h (p_1_2_2.map (·.2))) ∧ (NfL nf_api_Talk F' h out_1) ∧ (NfL nf_api_Want F' h l_1) ∧ (NfL nf_api_Filter F' h (p_1_2_3.map (·.2))) ∧ (NfL nf_api_Talk F' h out_2) ∧ (NfL nf_api_Talk F' h r0_2) ∧ (NfL nf_api_Filter F' h (a0m_2.map (·.2))) ∧ proxy_Proxy_Update_j1 out_2 n_2 K_2 r0_2 a0_v6_2 a0_now_2 a0m_2 a0_one_2 a0_two_2 p_2_3) ?_ ?_
   ·
    refine HW.seq ?_
    refine HW.region ?_
    refine oM (.int .i64 r1_2) rfl rfl ?_
    refine oV (.bool (!decide (r1_2 = 0))) (q_neq rfl rfl) rfl ?_
    refine HO.nil (thenQ_normal (?_))
    refine HW.cond (!decide (r1_2 = 0)) rfl (fun c_4 => ?_) (fun c_4 => ?_)
    ·
     replace hM := hM.1 (nd_true c_4)
     refine HW.region ?_
     refine oM (.pointer (some ⟨bp, 0, none⟩)) rfl rfl ?_
     refine oV (.pointer (some ⟨bp, 0, none⟩)) (q_nilCheck rfl) rfl ?_
     refine oV (.pointer (some ⟨bp, 2, none⟩)) (q_fieldAddr fa_141_2 rfl rfl) rfl ?_
     refine oV (.int .i64 p_2_2) (q_load to_3 rfl (Blk.cell (hS.box 4 rfl) rfl)) rfl ?_
     obtain ⟨ho_6, hM⟩ := hM
     refine oV (.int .i64 (p_2_2 + 1)) (q_addN _ rfl rfl rfl ho_6.1 ho_6.2) rfl ?_
     refine oV (.pointer (some ⟨bp, 0, none⟩)) (q_nilCheck rfl) rfl ?_
     refine oV (.pointer (some ⟨bp, 2, none⟩)) (q_fieldAddr fa_141_2 rfl rfl) rfl ?_
     refine HO.sto (want_none) rfl (st_store (c' := #[.bool p_v6, .pointer (some ⟨bp_h, 0, none⟩), .int .i64 (p_2_2 + 1)]) hS (i := 4) rfl to_3 rfl rfl rfl rfl (Nat.le_of_ble_eq_true rfl) rfl) ?_
     rintro h_16 ⟨hS, hk⟩
     replace hK := hK.trans hk
     replace hN_p_h_want := hN_p_h_want.kp hk
     replace hN_l := hN_l.kp hk
     replace hL_l := hL_l.kp hk
     replace hN_4 := hN_4.kp hk
     replace hL_1 := hL_1.kp hk
     replace hN_5 := hN_5.kp hk
     replace hN_6 := hN_6.kp hk
     replace hN_7 := hN_7.kp hk
     replace hN_10 := hN_10.kp hk
     replace hN_11 := hN_11.kp hk
     replace hL_7 := hL_7.kp hk
     replace hL_8 := hL_8.kp hk
     refine HO.nil (thenQ_normal (?_))
     replace hS : St F_8 (Ow.box bp 141 #[.bool p_v6, .pointer (some ⟨bp_h, 0, none⟩), .int .i64 (p_2_2 + 1)] :: Ow.box bp_h 97 #[.bool a0_v6_2, .int .i64 a0_now_2, .map (some rp_h_want), .int .i64 a0_one_2, .int .i64 a0_two_2] :: Ow.map rp_h_want (fun (x : T_api_Addr) => .agg (e_api_Addr x).toArray) (fun (x : T_api_Filter) => .agg #[.bool x.1, x.2.1]) a0m_2 :: Ow.own 31 26 e_api_Talk vout_2 out_2 :: Ow.own 31 26 e_api_Talk vr0_2 r0_2 :: Ow.own 77 19 e_api_Want v_1 l_1 :: fr) h_16 := hS.perm2 [4, 1, 2, 5, 0, 6] 7 rfl rfl
     exact ⟨F_8, p_2_2 + 1, rfl, rfl, rfl, rfl, rfl, rfl, rfl, rfl, hK, hS, hN_p_h_want, hN_l, hL_l, hN_4, hL_1, hN_5, hN_6, hN_7, hN_10, hN_11, hL_7, hL_8, hM⟩
    ·
     replace hM := hM.2 (nd_false c_4)
     refine HW.skip (thenQ_normal (?_))
     replace hS : St F_8 (Ow.box bp 141 #[.bool p_v6, .pointer (some ⟨bp_h, 0, none⟩), .int .i64 p_2_2] :: Ow.box bp_h 97 #[.bool a0_v6_2, .int .i64 a0_now_2, .map (some rp_h_want), .int .i64 a0_one_2, .int .i64 a0_two_2] :: Ow.map rp_h_want (fun (x : T_api_Addr) => .agg (e_api_Addr x).toArray) (fun (x : T_api_Filter) => .agg #[.bool x.1, x.2.1]) a0m_2 :: Ow.own 31 26 e_api_Talk vout_2 out_2 :: Ow.own 31 26 e_api_Talk vr0_2 r0_2 :: Ow.own 77 19 e_api_Want v_1 l_1 :: fr) h_15 := hS.perm2 [4, 1, 2, 5, 0, 6] 7 rfl rfl
     exact ⟨F_8, p_2_2, rfl, rfl, rfl, rfl, rfl, rfl, rfl, rfl, hK, hS, hN_p_h_want, hN_l, hL_l, hN_4, hL_1, hN_5, hN_6, hN_7, hN_10, hN_11, hL_7, hL_8, hM⟩
   ·
    rintro f_3 h_17 ⟨F_9, p_2_3, e0, e1, e6, e7, e16, e53, e54, e55, hK, hS, hN_p_h_want, hN_l, hL_l, hN_4, hL_1, hN_5, hN_6, hN_7, hN_10, hN_11, hL_7, hL_8, hM⟩
    unfold proxy_Proxy_Update_j1 at hM
    refine HW.fr [(0, .pointer (some ⟨bp, 0, none⟩)), (1, .int .i64 now), (6, .slice none 0 0), (7, vout_2), (16, vr0_2), (53, v_1), (54, .int .i64 (l_1.length : Int)), (55, .int .i64 n_2)] ⟨e0, e1, e6, e7, e16, e53, e54, e55, trivial⟩ ?_
    refine HW.region ?_
    refine oM (vout_2) rfl rfl ?_
    refine oM (vr0_2) rfl rfl ?_
    obtain ⟨ho_7, hM⟩ := hM
    refine HO.eff (want_none) rfl (st_append te_33 hS (i := 3) rfl (hS.own 4 rfl).slice rfl rfl rfl (fun a_ ha_ => nfo_api_Talk (hL_7.is.all a_ ha_)) ho_7 (by omega)) ?_
    rintro v_4 h_18 ⟨hS, hk⟩
    replace hK := hK.trans hk
    replace hN_p_h_want := hN_p_h_want.kp hk
    replace hN_l := hN_l.kp hk
    replace hL_l := hL_l.kp hk
    replace hN_4 := hN_4.kp hk
    replace hL_1 := hL_1.kp hk
    replace hN_5 := hN_5.kp hk
    replace hN_6 := hN_6.kp hk
    replace hN_7 := hN_7.kp hk
    replace hN_11 := hN_11.kp hk
    replace hL_7 := hL_7.kp hk
    replace hL_8 := hL_8.kp hk
    have hN_12 : NfL nf_api_Talk F_9 h_18 (out_2 ++ r0_2) := NfL.app hN_11 hL_7
    refine oA (v_4) rfl rfl ?_
    refine HO.nil (blockQ_normal (thenQ_normal (?_)))
    refine HW.region ?_
    obtain ⟨ho_8, hM⟩ := hM
    refine oV (.int .i64 (n_2 + 1)) (q_addN _ rfl rfl rfl ho_8.1 ho_8.2) rfl ?_
    refine oM (.int .i64 (n_2 + 1)) rfl rfl ?_
    refine HO.nil (thenQ_normal (?_))
    replace hS : St F_9 (Ow.box bp 141 #[.bool p_v6, .pointer (some ⟨bp_h, 0, none⟩), .int .i64 p_2_3] :: Ow.box bp_h 97 #[.bool a0_v6_2, .int .i64 a0_now_2, .map (some rp_h_want), .int .i64 a0_one_2, .int .i64 a0_two_2] :: Ow.map rp_h_want (fun (x : T_api_Addr) => .agg (e_api_Addr x).toArray) (fun (x : T_api_Filter) => .agg #[.bool x.1, x.2.1]) a0m_2 :: Ow.own 31 26 e_api_Talk v_4 (out_2 ++ r0_2) :: Ow.own 77 19 e_api_Want v_1 l_1 :: fr) h_18 := hS.perm2 [0, 1, 2, 3, 5] 6 rfl rfl
    rw [hKe_2] at hM
    exact ⟨(a0_v6_2, a0_now_2, a0m_2, a0_one_2, a0_two_2, p_2_3, out_2 ++ r0_2, n_2 + 1), ⟨F_9, v_4, rfl, rfl, rfl, rfl, rfl, rfl, rfl, hK, hS, hN_p_h_want, hN_l, hL_l, hN_4, hL_1, hN_5, hN_6, hN_7, hL_8, hN_12, hM.1⟩, hM.2⟩
  ·
   replace hM := hM.2 (of_decide_eq_false c_3)
   refine HW.exit (thenQ_exit (thenQ_exit (blockQ_exit (thenQ_normal (?_)))))
   refine HW.seq ?_
   refine HW.region ?_
   refine oM (.pointer (some ⟨bp, 0, none⟩)) rfl rfl ?_
   refine oM (vout_2) rfl rfl ?_
   refine HO.call (want_none) rfl (ec en_87 rfl rfl) (proxy_Proxy_packed_walk (fr := (Ow.own 77 19 e_api_Want v_1 l_1 :: fr)) p_v6 p_1_0_3 p_1_1_3 p_1_2_3 p_1_3_3 p_1_4_3 p_2_2 out_2 bp bp_h rp_h_want vout_2 hS hN_10 hN_11 hM) ?_
   rintro vr_4 h_19 ⟨F_10, r_5, p_v6_3, p_v6_4, p_now_2, pm_2, p_one_2, p_two_2, p_lost_2, _, rfl, hk, hS, _, _, hL_9, hL_10, hM⟩
   replace hK := hK.trans hk
   replace hN_p_h_want := hN_p_h_want.kp hk
   replace hN_l := hN_l.kp hk
   replace hL_l := hL_l.kp hk
   refine oA (vr_4) rfl rfl ?_
   refine HO.nil (thenQ_normal (?_))
   refine HW.ret (?_)
   refine ⟨.inr rfl, vr_4, res1 rfl (rt rfl), ?_⟩
   replace hS : St F_10 (Ow.own 31 26 e_api_Talk vr_4 r_5 :: Ow.box bp 141 #[.bool p_v6_3, .pointer (some ⟨bp_h, 0, none⟩), .int .i64 p_lost_2] :: Ow.box bp_h 97 #[.bool p_v6_4, .int .i64 p_now_2, .map (some rp_h_want), .int .i64 p_one_2, .int .i64 p_two_2] :: Ow.map rp_h_want (fun (x : T_api_Addr) => .agg (e_api_Addr x).toArray) (fun (x : T_api_Filter) => .agg #[.bool x.1, x.2.1]) pm_2 :: fr) h_19 := hS.perm2 [0, 1, 2, 3] 5 rfl rfl
   exact ⟨F_10, r_5, p_v6_3, p_v6_4, p_now_2, pm_2, p_one_2, p_two_2, p_lost_2, vr_4, rfl, hK, hS, hN_p_h_want, hN_l, hL_l, hL_9, hL_10, hM⟩
def law08_Few_W (t_V6 : Bool) (t_Version : Int) (t_Kind : Int) (t_Resp : Int) (t_Group : T_api_Addr) (t_Quiet : Bool) (t_Robust : Int) (t_Every : Int) (t_Sources : List T_api_Addr) (t_Records : List T_api_Record) (Q : Bool → Int → Int → Int → Bool → (Ba 16) → Bool → Int → Int → (List T_api_Addr) → (List T_api_Record) → Prop) : Prop :=
 law08_Addrs_W t_Sources 6 (fun r_1 => law08_Records_W t_Records 6 (fun r_2 => Q t_V6 t_Version t_Kind t_Resp t_Group.1 t_Group.2 t_Quiet t_Robust t_Every r_1 r_2))
theorem law08_Few_walk {F : Fz} {fr : List Ow} {h0 : Heap} (t_V6 : Bool) (t_Version : Int) (t_Kind : Int) (t_Resp : Int) (t_Group : T_api_Addr) (t_Quiet : Bool) (t_Robust : Int) (t_Every : Int) (t_Sources : List T_api_Addr) (t_Records : List T_api_Record) (vt_Sources : Value) (vt_Records : Value) (hS : St F (fr) h0) (hL_t_Sources : SliceF F h0 17 e_api_Addr vt_Sources t_Sources) (hN_t_Records : NfL nf_api_Record F h0 t_Records) (hL_t_Records : SliceF F h0 19 e_api_Record vt_Records t_Records) {Q : Bool → Int → Int → Int → Bool → (Ba 16) → Bool → Int → Int → (List T_api_Addr) → (List T_api_Record) → Prop} (hM : law08_Few_W t_V6 t_Version t_Kind t_Resp t_Group t_Quiet t_Robust t_Every t_Sources t_Records Q) :
  HC Tryz.prog 35 #[.agg (c_api_Talk (.bool t_V6) (.int .i64 t_Version) (.int .i64 t_Kind) (.int .i64 t_Resp) t_Group (.bool t_Quiet) (.int .i64 t_Robust) (.int .i64 t_Every) vt_Sources vt_Records).toArray] h0 fun u h' => ∃ (F' : Fz) (r_0_1 : Bool) (r_1_1 : Int) (r_2_1 : Int) (r_3_1 : Int) (r_4_1 : Bool) (r_5_1 : Ba 16) (r_21_1 : Bool) (r_22_1 : Int) (r_23_1 : Int) (r_24_1 : List T_api_Addr) (r_25_1 : List T_api_Record) (vr_24_1 : Value) (vr_25_1 : Value), u = .agg (c_api_Talk (.bool r_0_1) (.int .i64 r_1_1) (.int .i64 r_2_1) (.int .i64 r_3_1) (r_4_1, r_5_1) (.bool r_21_1) (.int .i64 r_22_1) (.int .i64 r_23_1) vr_24_1 vr_25_1).toArray ∧ Kp F h0 F' h' ∧ St F' (Ow.own 28 17 e_api_Addr vr_24_1 r_24_1 :: Ow.own 89 19 e_api_Record vr_25_1 r_25_1 :: fr) h' ∧ (SliceF F' h' 17 e_api_Addr vt_Sources t_Sources) ∧ (NfL nf_api_Record F' h' t_Records) ∧ (SliceF F' h' 19 e_api_Record vt_Records t_Records) ∧ (NfL nf_api_Record F' h' r_25_1) ∧ Q r_0_1 r_1_1 r_2_1 r_3_1 r_4_1 r_5_1 r_21_1 r_22_1 r_23_1 r_24_1 r_25_1 := by
 unfold law08_Few_W at hM
 have hK := Kp.refl F h0
 refine HC.of_HW (n := 12) Tryz.func35 rfl rfl (Nat.le_of_ble_eq_true rfl) ?_
 refine HW.seq ?_
 refine HW.region ?_
 refine HO.eff (want_none) rfl (st_box (c := (c_api_Talk (.bool t_V6) (.int .i64 t_Version) (.int .i64 t_Kind) (.int .i64 t_Resp) t_Group (.bool t_Quiet) (.int .i64 t_Robust) (.int .i64 t_Every) vt_Sources vt_Records).toArray) (k' := 26) hS rfl rfl) ?_
 rintro _ h_1 ⟨b_1, rfl, hS, hk⟩
 replace hK := hK.trans hk
 replace hL_t_Sources := hL_t_Sources.kp hk
 replace hN_t_Records := hN_t_Records.kp hk
 replace hL_t_Records := hL_t_Records.kp hk
 refine HO.eff (want_none) rfl (st_alloc (c := (c_api_Talk (.bool false) (.int .i64 0) (.int .i64 0) (.int .i64 0) (false, (default : Ba 16)) (.bool false) (.int .i64 0) (.int .i64 0) (.slice none 0 0) (.slice none 0 0)).toArray) hS tz_31 rfl) ?_
 rintro _ h_2 ⟨b_2, rfl, hS, hk⟩
 replace hK := hK.trans hk
 replace hL_t_Sources := hL_t_Sources.kp hk
 replace hN_t_Records := hN_t_Records.kp hk
 replace hL_t_Records := hL_t_Records.kp hk
 refine HO.nil (thenQ_normal (?_))
 refine HW.seq ?_
 refine HW.regionA 10 mixed (fun h => True) [(7, fun h => (Blk h b_1 (.cells (c_api_Talk (.bool t_V6) (.int .i64 t_Version) (.int .i64 t_Kind) (.int .i64 t_Resp) t_Group (.bool t_Quiet) (.int .i64 t_Robust) (.int .i64 t_Every) vt_Sources vt_Records).toArray 31 (0, 0))))] (by kernel_rfl) ?_
 refine HA.val (k := 0) (v := .pointer (some ⟨b_1, 24, none⟩)) rfl rfl (by kernel_rfl) (by kernel_rfl) (want_none) rfl (fun _ _ => q_fieldAddr fa_31_8 rfl rfl) ?_
 refine Go.Wk.HA.valN (k := 1) (v := vt_Sources) 0 7 (fun h => (Blk h b_1 (.cells (c_api_Talk (.bool t_V6) (.int .i64 t_Version) (.int .i64 t_Kind) (.int .i64 t_Resp) t_Group (.bool t_Quiet) (.int .i64 t_Robust) (.int .i64 t_Every) vt_Sources vt_Records).toArray 31 (0, 0)))) rfl rfl (by kernel_rfl) (by kernel_rfl) (want_none) rfl rfl (by kernel_rfl) (fun _ _ c203 => q_load to_29 rfl (Blk.cell c203 rfl)) ?_
 refine HA.val (k := 3) (v := .pointer (some ⟨b_1, 25, none⟩)) rfl rfl (by kernel_rfl) (by kernel_rfl) (want_none) rfl (fun _ _ => q_fieldAddr fa_31_9 rfl rfl) ?_
 refine Go.Wk.HA.valN (k := 4) (v := vt_Records) 0 7 (fun h => (Blk h b_1 (.cells (c_api_Talk (.bool t_V6) (.int .i64 t_Version) (.int .i64 t_Kind) (.int .i64 t_Resp) t_Group (.bool t_Quiet) (.int .i64 t_Robust) (.int .i64 t_Every) vt_Sources vt_Records).toArray 31 (0, 0)))) rfl rfl (by kernel_rfl) (by kernel_rfl) (want_none) rfl rfl (by kernel_rfl) (fun _ _ c203 => q_load to_22 rfl (Blk.cell c203 rfl)) ?_
 refine HA.one (k := 2) ⟨trivial, (at_now (hS.box 1 rfl) (Go.Wk.at_nil _ _))⟩ (by kernel_rfl) ?_
 refine HS.call rfl (want_none) rfl (ec en_38 rfl rfl) (law08_Addrs_walk (fr := (Ow.box b_2 31 (c_api_Talk (.bool false) (.int .i64 0) (.int .i64 0) (.int .i64 0) (false, (default : Ba 16)) (.bool false) (.int .i64 0) (.int .i64 0) (.slice none 0 0) (.slice none 0 0)).toArray :: Ow.box b_1 31 (c_api_Talk (.bool t_V6) (.int .i64 t_Version) (.int .i64 t_Kind) (.int .i64 t_Resp) t_Group (.bool t_Quiet) (.int .i64 t_Robust) (.int .i64 t_Every) vt_Sources vt_Records).toArray :: fr)) t_Sources 6 vt_Sources hS hL_t_Sources hM) ?_
 rintro vr_1 h_3 ⟨F_1, r_1, _, rfl, hk, hS, _, hM⟩
 replace hK := hK.trans hk
 replace hL_t_Sources := hL_t_Sources.kp hk
 replace hN_t_Records := hN_t_Records.kp hk
 replace hL_t_Records := hL_t_Records.kp hk
 refine HA.val (k := 6) (v := .pointer (some ⟨b_1, 24, none⟩)) rfl rfl (by kernel_rfl) (by kernel_rfl) (want_none) rfl (fun _ _ => q_fieldAddr fa_31_8 rfl rfl) ?_
 refine HA.one (k := 5) ⟨trivial, (at_now (hS.box 2 rfl) (Go.Wk.at_nil _ _))⟩ (by kernel_rfl) ?_
 refine HS.call rfl (want_none) rfl (ec en_7 rfl rfl) (law08_Records_walk (fr := (Ow.own 28 17 e_api_Addr vr_1 r_1 :: Ow.box b_2 31 (c_api_Talk (.bool false) (.int .i64 0) (.int .i64 0) (.int .i64 0) (false, (default : Ba 16)) (.bool false) (.int .i64 0) (.int .i64 0) (.slice none 0 0) (.slice none 0 0)).toArray :: Ow.box b_1 31 (c_api_Talk (.bool t_V6) (.int .i64 t_Version) (.int .i64 t_Kind) (.int .i64 t_Resp) t_Group (.bool t_Quiet) (.int .i64 t_Robust) (.int .i64 t_Every) vt_Sources vt_Records).toArray :: fr)) t_Records 6 vt_Records hS hN_t_Records hL_t_Records hM) ?_
 rintro vr_2 h_4 ⟨F_2, r_2, _, rfl, hk, hS, _, _, hL_1, hM⟩
 replace hK := hK.trans hk
 replace hL_t_Sources := hL_t_Sources.kp hk
 replace hN_t_Records := hN_t_Records.kp hk
 replace hL_t_Records := hL_t_Records.kp hk
 refine HA.one (k := 7) ⟨trivial, (at_now (hS.box 3 rfl) (Go.Wk.at_nil _ _))⟩ (by kernel_rfl) ?_
 refine HS.sto rfl (want_none) rfl (st_store (c' := (c_api_Talk (.bool t_V6) (.int .i64 t_Version) (.int .i64 t_Kind) (.int .i64 t_Resp) t_Group (.bool t_Quiet) (.int .i64 t_Robust) (.int .i64 t_Every) vr_1 vt_Records).toArray) hS (i := 3) rfl to_29 rfl rfl (shp (hS.own 1 rfl).slice).cells (shp (hS.own 1 rfl).slice).one (Nat.le_of_ble_eq_true rfl) rfl) ?_
 rintro h_5 ⟨hS, hk⟩
 replace hK := hK.trans hk
 replace hL_t_Sources := hL_t_Sources.kp hk
 replace hN_t_Records := hN_t_Records.kp hk
 replace hL_t_Records := hL_t_Records.kp hk
 replace hL_1 := hL_1.kp hk
 refine Go.Wk.HA.re (fun h => True) [(9, fun h => (Blk h b_1 (.cells (c_api_Talk (.bool t_V6) (.int .i64 t_Version) (.int .i64 t_Kind) (.int .i64 t_Resp) t_Group (.bool t_Quiet) (.int .i64 t_Robust) (.int .i64 t_Every) vr_1 vt_Records).toArray 31 (0, 0))))] (fun L_ h_ hL_ _ hs_ => ⟨trivial, (at_gone hL_ (by kernel_rfl) (Go.Wk.at_nil _ _))⟩) ?_
 refine HA.val (k := 8) (v := .pointer (some ⟨b_1, 25, none⟩)) rfl rfl (by kernel_rfl) (by kernel_rfl) (want_none) rfl (fun _ _ => q_fieldAddr fa_31_9 rfl rfl) ?_
 refine HA.one (k := 9) ⟨trivial, (at_now (hS.box 3 rfl) (Go.Wk.at_nil _ _))⟩ (by kernel_rfl) ?_
 refine HS.sto rfl (want_none) rfl (st_store (c' := (c_api_Talk (.bool t_V6) (.int .i64 t_Version) (.int .i64 t_Kind) (.int .i64 t_Resp) t_Group (.bool t_Quiet) (.int .i64 t_Robust) (.int .i64 t_Every) vr_1 vr_2).toArray) hS (i := 3) rfl to_22 rfl rfl (shp (hS.own 0 rfl).slice).cells (shp (hS.own 0 rfl).slice).one (Nat.le_of_ble_eq_true rfl) rfl) ?_
 rintro h_6 ⟨hS, hk⟩
 replace hK := hK.trans hk
 replace hL_t_Sources := hL_t_Sources.kp hk
 replace hN_t_Records := hN_t_Records.kp hk
 replace hL_t_Records := hL_t_Records.kp hk
 replace hL_1 := hL_1.kp hk
 refine HA.nil ⟨trivial, (at_done (by kernel_rfl) (Go.Wk.at_nil _ _))⟩ (by kernel_rfl) (thenQ_normal (?_))
 refine HW.seq ?_
 refine HW.region ?_
 refine oV (.agg (c_api_Talk (.bool t_V6) (.int .i64 t_Version) (.int .i64 t_Kind) (.int .i64 t_Resp) t_Group (.bool t_Quiet) (.int .i64 t_Robust) (.int .i64 t_Every) vr_1 vr_2).toArray) (q_loadAgg (cs := (c_api_Talk (.bool t_V6) (.int .i64 t_Version) (.int .i64 t_Kind) (.int .i64 t_Resp) t_Group (.bool t_Quiet) (.int .i64 t_Robust) (.int .i64 t_Every) vr_1 vr_2)) ta_31 rfl rfl (Blk.cells (k := 26) (hS.box 3 rfl) rfl)) rfl ?_
 refine HO.sto (want_none) rfl (st_storeAgg (c' := (c_api_Talk (.bool t_V6) (.int .i64 t_Version) (.int .i64 t_Kind) (.int .i64 t_Resp) t_Group (.bool t_Quiet) (.int .i64 t_Robust) (.int .i64 t_Every) vr_1 vr_2).toArray) hS (i := 2) rfl ta_31 rfl rfl rfl (List.forall_mem_cons.2 ⟨rfl, (List.forall_mem_cons.2 ⟨rfl, (List.forall_mem_cons.2 ⟨rfl, (List.forall_mem_cons.2 ⟨rfl, (List.forall_mem_cons.2 ⟨rfl, (List.forall_mem_cons.2 ⟨rfl, (List.forall_mem_cons.2 ⟨rfl, (List.forall_mem_cons.2 ⟨rfl, (List.forall_mem_cons.2 ⟨rfl, (List.forall_mem_cons.2 ⟨rfl, (List.forall_mem_cons.2 ⟨rfl, (List.forall_mem_cons.2 ⟨rfl, (List.forall_mem_cons.2 ⟨rfl, (List.forall_mem_cons.2 ⟨rfl, (List.forall_mem_cons.2 ⟨rfl, (List.forall_mem_cons.2 ⟨rfl, (List.forall_mem_cons.2 ⟨rfl, (List.forall_mem_cons.2 ⟨rfl, (List.forall_mem_cons.2 ⟨rfl, (List.forall_mem_cons.2 ⟨rfl, (List.forall_mem_cons.2 ⟨rfl, (List.forall_mem_cons.2 ⟨rfl, (List.forall_mem_cons.2 ⟨rfl, (List.forall_mem_cons.2 ⟨rfl, (List.forall_mem_cons.2 ⟨(shp (hS.own 1 rfl).slice).one, (List.forall_mem_cons.2 ⟨(shp (hS.own 0 rfl).slice).one, (fun _ h => by cases h)⟩)⟩)⟩)⟩)⟩)⟩)⟩)⟩)⟩)⟩)⟩)⟩)⟩)⟩)⟩)⟩)⟩)⟩)⟩)⟩)⟩)⟩)⟩)⟩)⟩)⟩) (Nat.le_of_ble_eq_true rfl) rfl) ?_
 rintro h_7 ⟨hS, hk⟩
 replace hK := hK.trans hk
 replace hL_t_Sources := hL_t_Sources.kp hk
 replace hN_t_Records := hN_t_Records.kp hk
 replace hL_t_Records := hL_t_Records.kp hk
 replace hL_1 := hL_1.kp hk
 refine HO.nil (thenQ_normal (?_))
 refine HW.ret (?_)
 refine ⟨.inr rfl, .agg (c_api_Talk (.bool t_V6) (.int .i64 t_Version) (.int .i64 t_Kind) (.int .i64 t_Resp) t_Group (.bool t_Quiet) (.int .i64 t_Robust) (.int .i64 t_Every) vr_1 vr_2).toArray, res1 rfl (rca (cs := (c_api_Talk (.bool t_V6) (.int .i64 t_Version) (.int .i64 t_Kind) (.int .i64 t_Resp) t_Group (.bool t_Quiet) (.int .i64 t_Robust) (.int .i64 t_Every) vr_1 vr_2)) ta_31 rfl rfl (Blk.cells (k := 26) (hS.box 2 rfl) rfl)), ?_⟩
 replace hS : St F_2 (Ow.own 28 17 e_api_Addr vr_1 r_1 :: Ow.own 89 19 e_api_Record vr_2 r_2 :: fr) h_7 := hS.perm2 [1, 0] 4 rfl rfl
 exact ⟨F_2, t_V6, t_Version, t_Kind, t_Resp, t_Group.1, t_Group.2, t_Quiet, t_Robust, t_Every, r_1, r_2, vr_1, vr_2, rfl, hK, hS, hL_t_Sources, hN_t_Records, hL_t_Records, hL_1, hM⟩
def host_Host_Filter_W (h_v6 : Bool) (h_now : Int) (h_want : List (T_api_Addr × T_api_Filter)) (h_one : Int) (h_two : Int) (g : T_api_Addr) (Q : Bool → (List T_api_Addr) → Prop) : Prop :=
 host_own_W ((mgetD z_api_Filter h_want g).1) (((mgetD z_api_Filter h_want g).2).2) (fun r_0_2 r_1_2 => Q r_0_2 r_1_2)
theorem host_Host_Filter_walk {F : Fz} {fr : List Ow} {h0 : Heap} (h_v6 : Bool) (h_now : Int) (h_want : List (T_api_Addr × T_api_Filter)) (h_one : Int) (h_two : Int) (g : T_api_Addr) (bh : Nat) (rh_want : Nat) (hS : St F (fr) h0) (hN_h_want : NfL nf_api_Filter F h0 (h_want.map (·.2))) (hM_rh_want : RoF (Ow.map rh_want (fun (x : T_api_Addr) => .agg (e_api_Addr x).toArray) (fun (x : T_api_Filter) => .agg #[.bool x.1, x.2.1]) h_want) F h0) (hB_bh : RoF (Ow.box bh 97 #[.bool h_v6, .int .i64 h_now, .map (some rh_want), .int .i64 h_one, .int .i64 h_two]) F h0) {Q : Bool → (List T_api_Addr) → Prop} (hM : host_Host_Filter_W h_v6 h_now h_want h_one h_two g Q) :
  HC Tryz.prog 25 #[.pointer (some ⟨bh, 0, none⟩), .agg (e_api_Addr g).toArray] h0 fun u h' => ∃ (F' : Fz) (r_0_1 : Bool) (r_1_1 : List T_api_Addr) (vr_1_1 : Value), u = .agg #[.bool r_0_1, vr_1_1] ∧ Kp F h0 F' h' ∧ St F' (Ow.own 28 17 e_api_Addr vr_1_1 r_1_1 :: fr) h' ∧ (NfL nf_api_Filter F' h' (h_want.map (·.2))) ∧ (RoF (Ow.map rh_want (fun (x : T_api_Addr) => .agg (e_api_Addr x).toArray) (fun (x : T_api_Filter) => .agg #[.bool x.1, x.2.1]) h_want) F' h') ∧ (RoF (Ow.box bh 97 #[.bool h_v6, .int .i64 h_now, .map (some rh_want), .int .i64 h_one, .int .i64 h_two]) F' h') ∧ Q r_0_1 r_1_1 := by
 unfold host_Host_Filter_W at hM
 have hK := Kp.refl F h0
 refine HC.of_HW (n := 15) Tryz.func25 rfl rfl (Nat.le_of_ble_eq_true rfl) ?_
 refine HW.seq ?_
 refine HW.region ?_
 refine HO.eff (want_none) rfl (st_box (c := (e_api_Addr g).toArray) (k' := 17) hS rfl rfl) ?_
 rintro _ h_1 ⟨b_1, rfl, hS, hk⟩
 replace hK := hK.trans hk
 replace hN_h_want := hN_h_want.kp hk
 replace hM_rh_want := hM_rh_want.kp hk
 replace hB_bh := hB_bh.kp hk
 refine HO.eff (want_none) rfl (st_alloc (c := #[.bool false, .slice none 0 0]) hS tz_50 rfl) ?_
 rintro _ h_2 ⟨b_2, rfl, hS, hk⟩
 replace hK := hK.trans hk
 replace hN_h_want := hN_h_want.kp hk
 replace hM_rh_want := hM_rh_want.kp hk
 replace hB_bh := hB_bh.kp hk
 refine HO.nil (thenQ_normal (?_))
 refine HW.seq ?_
 refine HW.seq ?_
 refine HW.region ?_
 refine oM (.pointer (some ⟨bh, 0, none⟩)) rfl rfl ?_
 refine oV (.bool false) (q_eqlPnil Tryz.underlying42 rfl rfl rfl) rfl ?_
 refine HO.nil (thenQ_normal (?_))
 refine HW.condF rfl ?_
 refine HW.skip (thenQ_normal (?_))
 refine HW.seq ?_
 refine HW.regionA 8 mixed (fun h => (MapIs h rh_want (fun (x : T_api_Addr) => .agg (e_api_Addr x).toArray) (fun (x : T_api_Filter) => .agg #[.bool x.1, x.2.1]) h_want) ∧ (Blk h bh (.cells #[.bool h_v6, .int .i64 h_now, .map (some rh_want), .int .i64 h_one, .int .i64 h_two] 97 (0, 0))) ∧ (Blk h b_1 (.cells (e_api_Addr g).toArray 28 (0, 0)))) [] (by kernel_rfl) ?_
 refine HA.val (k := 0) (v := .pointer (some ⟨bh, 0, none⟩)) rfl rfl (by kernel_rfl) (by kernel_rfl) (want_none) rfl (fun _ ⟨hM_rh_want, hB_bh, c202⟩ => q_move rfl) ?_
 refine HA.val (k := 1) (v := .pointer (some ⟨bh, 0, none⟩)) rfl rfl (by kernel_rfl) (by kernel_rfl) (want_none) rfl (fun _ ⟨hM_rh_want, hB_bh, c202⟩ => q_nilCheck rfl) ?_
 refine HA.val (k := 2) (v := .pointer (some ⟨bh, 2, none⟩)) rfl rfl (by kernel_rfl) (by kernel_rfl) (want_none) rfl (fun _ ⟨hM_rh_want, hB_bh, c202⟩ => q_fieldAddr fa_97_2 rfl rfl) ?_
 refine HA.val (k := 3) (v := .map (some rh_want)) rfl rfl (by kernel_rfl) (by kernel_rfl) (want_none) rfl (fun _ ⟨hM_rh_want, hB_bh, c202⟩ => q_load to_95 rfl (Blk.cell hB_bh rfl)) ?_
 refine HA.val (k := 4) (v := .agg (e_api_Addr g).toArray) rfl rfl (by kernel_rfl) (by kernel_rfl) (want_none) rfl (fun _ ⟨hM_rh_want, hB_bh, c202⟩ => q_loadAgg (cs := (e_api_Addr g)) ta_28 rfl rfl (Blk.cells (k := 17) c202 rfl)) ?_
 have hL_1 : SliceF F h_2 17 e_api_Addr (((mgetD z_api_Filter h_want g).2).1) (((mgetD z_api_Filter h_want g).2).2) := nff_api_Filter_1 (NfL.mgetD hN_h_want g (nfm_api_Filter z_api_Filter (SliceF.nil _ _ _ _)))
 refine HA.val (k := 5) (v := .agg #[.bool ((mgetD z_api_Filter h_want g).1), ((mgetD z_api_Filter h_want g).2).1]) rfl rfl (by kernel_rfl) (by kernel_rfl) (want_none) rfl (fun _ ⟨hM_rh_want, hB_bh, c202⟩ => (q_lookup (k := g) ka_28 tmk_95 hM_rh_want rfl rfl).of_eq (mvalD (z := z_api_Filter) rfl _ _)) ?_
 refine HA.one (k := 6) ⟨⟨hM_rh_want.mp, hB_bh.box, (hS.box 1 rfl)⟩, (Go.Wk.at_nil _ _)⟩ (by kernel_rfl) ?_
 refine HS.call rfl (want_none) rfl (ec en_54 rfl rfl) (host_own_walk (fr := (Ow.box b_2 50 #[.bool false, .slice none 0 0] :: Ow.box b_1 28 (e_api_Addr g).toArray :: fr)) ((mgetD z_api_Filter h_want g).1) (((mgetD z_api_Filter h_want g).2).2) (((mgetD z_api_Filter h_want g).2).1) hS hL_1 hM) ?_
 rintro _ h_3 ⟨F_1, r_0_2, r_1_2, vr_1_2, rfl, hk, hS, _, hM⟩
 replace hK := hK.trans hk
 replace hN_h_want := hN_h_want.kp hk
 replace hM_rh_want := hM_rh_want.kp hk
 replace hB_bh := hB_bh.kp hk
 refine HA.one (k := 7) ⟨⟨hM_rh_want.mp, hB_bh.box, (hS.box 2 rfl)⟩, (Go.Wk.at_nil _ _)⟩ (by kernel_rfl) ?_
 refine HS.sto rfl (want_none) rfl (st_storeAgg (c' := #[.bool r_0_2, vr_1_2]) hS (i := 1) rfl ta_50 rfl rfl rfl (List.forall_mem_cons.2 ⟨rfl, (List.forall_mem_cons.2 ⟨(shp (hS.own 0 rfl).slice).one, (fun _ h => by cases h)⟩)⟩) (Nat.le_of_ble_eq_true rfl) rfl) ?_
 rintro h_4 ⟨hS, hk⟩
 replace hK := hK.trans hk
 replace hN_h_want := hN_h_want.kp hk
 replace hM_rh_want := hM_rh_want.kp hk
 replace hB_bh := hB_bh.kp hk
 refine HA.nil ⟨⟨hM_rh_want.mp, hB_bh.box, (hS.box 2 rfl)⟩, (Go.Wk.at_nil _ _)⟩ (by kernel_rfl) (thenQ_normal (?_))
 refine HW.ret (?_)
 refine ⟨.inr rfl, .agg #[.bool r_0_2, vr_1_2], res1 rfl (rca (cs := [.bool r_0_2, vr_1_2]) ta_50 rfl rfl (Blk.cells (k := 2) (hS.box 1 rfl) rfl)), ?_⟩
 replace hS : St F_1 (Ow.own 28 17 e_api_Addr vr_1_2 r_1_2 :: fr) h_4 := hS.perm2 [0] 3 rfl rfl
 exact ⟨F_1, r_0_2, r_1_2, vr_1_2, rfl, hK, hS, hN_h_want, hM_rh_want, hB_bh, hM⟩
def proxy_Proxy_Wants_l1 (p_v6 : Bool) (p_h_v6 : Bool) (p_h_now : Int) (p_h_want : List (T_api_Addr × T_api_Filter)) (p_h_one : Int) (p_h_two : Int) (p_lost : Int) (Q : (List T_api_Want) → Bool → Bool → Int → (List (T_api_Addr × T_api_Filter)) → Int → Int → Int → Prop) (r_2 : List T_api_Addr) (K_1 : (List T_api_Want) → Int → Prop) (out_1 : List T_api_Want) (n_1 : Int) : Prop :=
 (n_1 < (r_2.length : Int) → ((0 : Int) ≤ n_1 ∧ n_1 < (r_2.length : Int)) ∧ (host_Host_Filter_W p_h_v6 p_h_now p_h_want p_h_one p_h_two (gi r_2 n_1) (fun r_0_1 r_1_1 => ∀ vr_1_1 : Value, (((out_1.length + ([((gi r_2 n_1), (r_0_1, (vr_1_1, r_1_1)))] : List T_api_Want).length) * 56 ≤ 140737488355328) ∧ ((I64 (n_1 + 1)) ∧ (K_1 (out_1 ++ ([((gi r_2 n_1), (r_0_1, (vr_1_1, r_1_1)))] : List T_api_Want)) (n_1 + 1))))))) ∧ (¬ (n_1 < (r_2.length : Int)) → Q out_1 p_v6 p_h_v6 p_h_now p_h_want p_h_one p_h_two p_lost)
def proxy_Proxy_Wants_W (p_v6 : Bool) (p_h_v6 : Bool) (p_h_now : Int) (p_h_want : List (T_api_Addr × T_api_Filter)) (p_h_one : Int) (p_h_two : Int) (p_lost : Int) (Q : (List T_api_Want) → Bool → Bool → Int → (List (T_api_Addr × T_api_Filter)) → Int → Int → Int → Prop) : Prop :=
 host_Host_Groups_W p_h_v6 p_h_now p_h_want p_h_one p_h_two (fun r_2 => loopW (fun (K_1 : (List T_api_Want × Int) → Prop) (s : List T_api_Want × Int) => proxy_Proxy_Wants_l1 p_v6 p_h_v6 p_h_now p_h_want p_h_one p_h_two p_lost Q r_2 (fun out_1 n_1 => K_1 (out_1, n_1)) s.1 s.2) ([], 0))
theorem proxy_Proxy_Wants_walk {F : Fz} {fr : List Ow} {h0 : Heap} (p_v6 : Bool) (p_h_v6 : Bool) (p_h_now : Int) (p_h_want : List (T_api_Addr × T_api_Filter)) (p_h_one : Int) (p_h_two : Int) (p_lost : Int) (bp : Nat) (bp_h : Nat) (rp_h_want : Nat) (hS : St F (Ow.box bp 141 #[.bool p_v6, .pointer (some ⟨bp_h, 0, none⟩), .int .i64 p_lost] :: Ow.box bp_h 97 #[.bool p_h_v6, .int .i64 p_h_now, .map (some rp_h_want), .int .i64 p_h_one, .int .i64 p_h_two] :: Ow.map rp_h_want (fun (x : T_api_Addr) => .agg (e_api_Addr x).toArray) (fun (x : T_api_Filter) => .agg #[.bool x.1, x.2.1]) p_h_want :: fr) h0) (hN_p_h_want : NfL nf_api_Filter F h0 (p_h_want.map (·.2))) {Q : (List T_api_Want) → Bool → Bool → Int → (List (T_api_Addr × T_api_Filter)) → Int → Int → Int → Prop} (hM : proxy_Proxy_Wants_W p_v6 p_h_v6 p_h_now p_h_want p_h_one p_h_two p_lost Q) :
  HC Tryz.prog 36 #[.pointer (some ⟨bp, 0, none⟩)] h0 fun u h' => ∃ (F' : Fz) (r_1 : List T_api_Want) (p_v6_1 : Bool) (p_v6_2 : Bool) (p_now_1 : Int) (pm_1 : List (T_api_Addr × T_api_Filter)) (p_one_1 : Int) (p_two_1 : Int) (p_lost_1 : Int) (vr_1 : Value), u = vr_1 ∧ Kp F h0 F' h' ∧ St F' (Ow.own 77 19 e_api_Want vr_1 r_1 :: Ow.box bp 141 #[.bool p_v6_1, .pointer (some ⟨bp_h, 0, none⟩), .int .i64 p_lost_1] :: Ow.box bp_h 97 #[.bool p_v6_2, .int .i64 p_now_1, .map (some rp_h_want), .int .i64 p_one_1, .int .i64 p_two_1] :: Ow.map rp_h_want (fun (x : T_api_Addr) => .agg (e_api_Addr x).toArray) (fun (x : T_api_Filter) => .agg #[.bool x.1, x.2.1]) pm_1 :: fr) h' ∧ (NfL nf_api_Filter F' h' (p_h_want.map (·.2))) ∧ (NfL nf_api_Want F' h' r_1) ∧ (NfL nf_api_Filter F' h' (pm_1.map (·.2))) ∧ Q r_1 p_v6_1 p_v6_2 p_now_1 pm_1 p_one_1 p_two_1 p_lost_1 := by
 unfold proxy_Proxy_Wants_W at hM
 have hK := Kp.refl F h0
 refine HC.of_HW (n := 31) Tryz.func36 rfl rfl (Nat.le_of_ble_eq_true rfl) ?_
 refine HW.seq ?_
 refine HW.region ?_
 refine oA (.slice none 0 0) rfl rfl ?_
 refine HO.nil (thenQ_normal (?_))
 refine HW.seq ?_
 refine HW.region ?_
 refine oA (.slice none 0 0) rfl rfl ?_
 refine HO.nil (thenQ_normal (?_))
 refine HW.seq ?_
 refine HW.seq ?_
 refine HW.region ?_
 refine oM (.pointer (some ⟨bp, 0, none⟩)) rfl rfl ?_
 refine oV (.bool false) (q_eqlPnil Tryz.underlying82 rfl rfl rfl) rfl ?_
 refine HO.nil (thenQ_normal (?_))
 refine HW.condF rfl ?_
 refine HW.skip (thenQ_normal (?_))
 refine HW.seq ?_
 refine HW.seq ?_
 refine HW.region ?_
 refine oM (.pointer (some ⟨bp, 0, none⟩)) rfl rfl ?_
 refine oV (.pointer (some ⟨bp, 0, none⟩)) (q_nilCheck rfl) rfl ?_
 refine oV (.pointer (some ⟨bp, 1, none⟩)) (q_fieldAddr fa_141_1 rfl rfl) rfl ?_
 refine oV (.pointer (some ⟨bp_h, 0, none⟩)) (q_load to_42 rfl (Blk.cell (hS.box 0 rfl) rfl)) rfl ?_
 replace hS : St F (Ow.box bp_h 97 #[.bool p_h_v6, .int .i64 p_h_now, .map (some rp_h_want), .int .i64 p_h_one, .int .i64 p_h_two] :: Ow.box bp 141 #[.bool p_v6, .pointer (some ⟨bp_h, 0, none⟩), .int .i64 p_lost] :: Ow.map rp_h_want (fun (x : T_api_Addr) => .agg (e_api_Addr x).toArray) (fun (x : T_api_Filter) => .agg #[.bool x.1, x.2.1]) p_h_want :: fr) h0 := hS.perm2 [1, 0, 2] 3 rfl rfl
 have hZ_1 := hS
 have hkz_1 := (hS.freeze).2
 replace hS := hS.freeze.1
 have hL_1 := hZ_1.lent
 replace hS : St (fun bz_ => F bz_ ∨ (Ow.box bp_h 97 #[.bool p_h_v6, .int .i64 p_h_now, .map (some rp_h_want), .int .i64 p_h_one, .int .i64 p_h_two]).foot bz_) (Ow.map rp_h_want (fun (x : T_api_Addr) => .agg (e_api_Addr x).toArray) (fun (x : T_api_Filter) => .agg #[.bool x.1, x.2.1]) p_h_want :: Ow.box bp 141 #[.bool p_v6, .pointer (some ⟨bp_h, 0, none⟩), .int .i64 p_lost] :: fr) h0 := hS.perm2 [1, 0] 2 rfl rfl
 have hZ_2 := hS
 have hkz_2 := (hS.freeze).2
 replace hS := hS.freeze.1
 have hL_2 := hZ_2.lent
 refine HO.call (want_none) rfl (ec en_26 rfl rfl) (host_Host_Groups_walk (fr := (Ow.box bp 141 #[.bool p_v6, .pointer (some ⟨bp_h, 0, none⟩), .int .i64 p_lost] :: fr)) p_h_v6 p_h_now p_h_want p_h_one p_h_two bp_h rp_h_want hS (NfL.kp (NfL.kp hN_p_h_want hkz_1) hkz_2) hL_2 (hL_1.kp hkz_2) hM) ?_
 rintro vr_2 h_1 ⟨F_1, r_2, _, rfl, hk, hS, _, _, _, hM⟩
 obtain ⟨hS, hk⟩ := hZ_2.back hk hS
 obtain ⟨hS, hk⟩ := hZ_1.back hk hS
 generalize (fun bz_ => (fun bz_ => F_1 bz_ ∧ ¬ (Ow.map rp_h_want (fun (x : T_api_Addr) => .agg (e_api_Addr x).toArray) (fun (x : T_api_Filter) => .agg #[.bool x.1, x.2.1]) p_h_want).foot bz_) bz_ ∧ ¬ (Ow.box bp_h 97 #[.bool p_h_v6, .int .i64 p_h_now, .map (some rp_h_want), .int .i64 p_h_one, .int .i64 p_h_two]).foot bz_) = F_2 at hS hk
 replace hK := hK.trans hk
 replace hN_p_h_want := hN_p_h_want.kp hk
 refine oV (.int .i64 (r_2.length : Int)) (q_len ts_29 (shp (hS.own 2 rfl).slice) rfl rfl) rfl ?_
 refine oM (.int .i64 0) rfl rfl ?_
 refine HO.nil (thenQ_normal (?_))
 refine HW.block ?_
 obtain ⟨I_1, m_1, hI_1, hR_1⟩ := hM
 replace hS := hS.nilOwn 77 19 e_api_Want
 have hN_4 : NfL nf_api_Want F_2 h_1 ([] : List T_api_Want) := NfL.nil _ _ _
 replace hS : St F_2 (Ow.box bp 141 #[.bool p_v6, .pointer (some ⟨bp_h, 0, none⟩), .int .i64 p_lost] :: Ow.box bp_h 97 #[.bool p_h_v6, .int .i64 p_h_now, .map (some rp_h_want), .int .i64 p_h_one, .int .i64 p_h_two] :: Ow.map rp_h_want (fun (x : T_api_Addr) => .agg (e_api_Addr x).toArray) (fun (x : T_api_Filter) => .agg #[.bool x.1, x.2.1]) p_h_want :: Ow.own 77 19 e_api_Want (.slice none 0 0) ([] : List T_api_Want) :: Ow.own 28 17 e_api_Addr vr_2 r_2 :: fr) h_1 := hS.perm2 [4, 1, 2, 0, 3] 5 rfl rfl
 refine HW.loop (S := List T_api_Want × Int) (fun s f h => match s with | (out_1, n_1) => ∃ (F' : Fz) (vout_1 : Value), f 0 = .pointer (some ⟨bp, 0, none⟩) ∧ f 2 = .slice none 0 0 ∧ f 3 = vout_1 ∧ f 12 = vr_2 ∧ f 13 = .int .i64 (r_2.length : Int) ∧ f 14 = .int .i64 n_1 ∧ Kp F h0 F' h ∧ St F' (Ow.box bp 141 #[.bool p_v6, .pointer (some ⟨bp_h, 0, none⟩), .int .i64 p_lost] :: Ow.box bp_h 97 #[.bool p_h_v6, .int .i64 p_h_now, .map (some rp_h_want), .int .i64 p_h_one, .int .i64 p_h_two] :: Ow.map rp_h_want (fun (x : T_api_Addr) => .agg (e_api_Addr x).toArray) (fun (x : T_api_Filter) => .agg #[.bool x.1, x.2.1]) p_h_want :: Ow.own 77 19 e_api_Want vout_1 out_1 :: Ow.own 28 17 e_api_Addr vr_2 r_2 :: fr) h ∧ (NfL nf_api_Filter F' h (p_h_want.map (·.2))) ∧ (NfL nf_api_Want F' h out_1) ∧ I_1 (out_1, n_1)) m_1 ([], 0) ⟨F_2, .slice none 0 0, rfl, rfl, rfl, rfl, rfl, rfl, hK, hS, hN_p_h_want, hN_4, hI_1⟩ ?_
 rintro ⟨out_1, n_1⟩ f_1 h_2 ⟨F_3, vout_1, e0, e2, e3, e12, e13, e14, hK, hS, hN_p_h_want, hN_3, hI0⟩
 obtain ⟨K_1, hKe_1⟩ : ∃ K : (List T_api_Want) → Int → Prop, K = fun out_1' n_1' => I_1 (out_1', n_1') ∧ m_1 (out_1', n_1') < m_1 (out_1, n_1) := ⟨_, rfl⟩
 have hM : proxy_Proxy_Wants_l1 p_v6 p_h_v6 p_h_now p_h_want p_h_one p_h_two p_lost Q r_2 K_1 out_1 n_1 := by rw [hKe_1]; exact hR_1 (out_1, n_1) hI0
 unfold proxy_Proxy_Wants_l1 at hM
 refine HW.fr [(0, .pointer (some ⟨bp, 0, none⟩)), (2, .slice none 0 0), (3, vout_1), (12, vr_2), (13, .int .i64 (r_2.length : Int)), (14, .int .i64 n_1)] ⟨e0, e2, e3, e12, e13, e14, trivial⟩ ?_
 refine HW.seq ?_
 refine HW.region ?_
 refine oV (.bool (decide (n_1 < (r_2.length : Int)))) (q_lss rfl rfl) rfl ?_
 refine HO.nil (thenQ_normal (?_))
 refine HW.seq ?_
 refine HW.cond (decide (n_1 < (r_2.length : Int))) rfl (fun c_1 => ?_) (fun c_1 => ?_)
 ·
  replace hM := hM.1 (of_decide_eq_true c_1)
  refine HW.skip (thenQ_normal (?_))
  refine HW.seq ?_
  refine HW.block ?_
  refine HW.seq ?_
  refine HW.region ?_
  obtain ⟨ho_1, hM⟩ := hM
  refine oV (elemPtr 17 vr_2 (n_1).toNat) (q_idx ts_29 (hS.own 4 rfl).slice rfl rfl ho_1) rfl ?_
  refine oV (.agg (e_api_Addr (gi r_2 n_1)).toArray) (q_ldElemAgg (cs := (e_api_Addr (gi r_2 n_1))) ta_28 (hS.own 4 rfl).slice rfl ho_1 rfl) rfl ?_
  refine HO.eff (want_none) rfl (st_alloc (c := (e_api_Addr (false, (default : Ba 16))).toArray) hS tz_28 rfl) ?_
  rintro _ h_3 ⟨b_1, rfl, hS, hk⟩
  replace hK := hK.trans hk
  replace hN_p_h_want := hN_p_h_want.kp hk
  replace hN_3 := hN_3.kp hk
  refine HO.sto (want_none) rfl (st_storeAgg (c' := (e_api_Addr (gi r_2 n_1)).toArray) hS (i := 0) rfl ta_28 rfl rfl rfl (one_e_api_Addr _) (Nat.le_of_ble_eq_true rfl) rfl) ?_
  rintro h_4 ⟨hS, hk⟩
  replace hK := hK.trans hk
  replace hN_p_h_want := hN_p_h_want.kp hk
  replace hN_3 := hN_3.kp hk
  refine HO.nil (thenQ_normal (?_))
  refine HW.regionA 12 mixed (fun h => (Blk h b_1 (.cells (e_api_Addr (gi r_2 n_1)).toArray 28 (0, 0))) ∧ (Blk h bp (.cells #[.bool p_v6, .pointer (some ⟨bp_h, 0, none⟩), .int .i64 p_lost] 141 (0, 0)))) [] (by kernel_rfl) ?_
  refine HA.val (k := 0) (v := vout_1) rfl rfl (by kernel_rfl) (by kernel_rfl) (want_none) rfl (fun _ ⟨c318, c312⟩ => q_move rfl) ?_
  refine HA.val (k := 1) (v := .agg (e_api_Addr (gi r_2 n_1)).toArray) rfl rfl (by kernel_rfl) (by kernel_rfl) (want_none) rfl (fun _ ⟨c318, c312⟩ => q_loadAgg (cs := (e_api_Addr (gi r_2 n_1))) ta_28 rfl rfl (Blk.cells (k := 17) c318 rfl)) ?_
  refine HA.val (k := 2) (v := .pointer (some ⟨bp, 0, none⟩)) rfl rfl (by kernel_rfl) (by kernel_rfl) (want_none) rfl (fun _ ⟨c318, c312⟩ => q_move rfl) ?_
  refine HA.val (k := 3) (v := .pointer (some ⟨bp, 0, none⟩)) rfl rfl (by kernel_rfl) (by kernel_rfl) (want_none) rfl (fun _ ⟨c318, c312⟩ => q_nilCheck rfl) ?_
  refine HA.val (k := 4) (v := .pointer (some ⟨bp, 1, none⟩)) rfl rfl (by kernel_rfl) (by kernel_rfl) (want_none) rfl (fun _ ⟨c318, c312⟩ => q_fieldAddr fa_141_1 rfl rfl) ?_
  refine HA.val (k := 5) (v := .pointer (some ⟨bp_h, 0, none⟩)) rfl rfl (by kernel_rfl) (by kernel_rfl) (want_none) rfl (fun _ ⟨c318, c312⟩ => q_load to_42 rfl (Blk.cell c312 rfl)) ?_
  refine HA.val (k := 6) (v := .agg (e_api_Addr (gi r_2 n_1)).toArray) rfl rfl (by kernel_rfl) (by kernel_rfl) (want_none) rfl (fun _ ⟨c318, c312⟩ => q_loadAgg (cs := (e_api_Addr (gi r_2 n_1))) ta_28 rfl rfl (Blk.cells (k := 17) c318 rfl)) ?_
  refine HA.one (k := 7) ⟨⟨(hS.box 0 rfl), (hS.box 1 rfl)⟩, (Go.Wk.at_nil _ _)⟩ (by kernel_rfl) ?_
  replace hS : St F_3 (Ow.box bp_h 97 #[.bool p_h_v6, .int .i64 p_h_now, .map (some rp_h_want), .int .i64 p_h_one, .int .i64 p_h_two] :: Ow.box b_1 28 (e_api_Addr (gi r_2 n_1)).toArray :: Ow.box bp 141 #[.bool p_v6, .pointer (some ⟨bp_h, 0, none⟩), .int .i64 p_lost] :: Ow.map rp_h_want (fun (x : T_api_Addr) => .agg (e_api_Addr x).toArray) (fun (x : T_api_Filter) => .agg #[.bool x.1, x.2.1]) p_h_want :: Ow.own 77 19 e_api_Want vout_1 out_1 :: Ow.own 28 17 e_api_Addr vr_2 r_2 :: fr) h_4 := hS.perm2 [2, 0, 1, 3, 4, 5] 6 rfl rfl
  have hZ_3 := hS
  have hkz_3 := (hS.freeze).2
  replace hS := hS.freeze.1
  have hL_3 := hZ_3.lent
  replace hS : St (fun bz_ => F_3 bz_ ∨ (Ow.box bp_h 97 #[.bool p_h_v6, .int .i64 p_h_now, .map (some rp_h_want), .int .i64 p_h_one, .int .i64 p_h_two]).foot bz_) (Ow.map rp_h_want (fun (x : T_api_Addr) => .agg (e_api_Addr x).toArray) (fun (x : T_api_Filter) => .agg #[.bool x.1, x.2.1]) p_h_want :: Ow.box b_1 28 (e_api_Addr (gi r_2 n_1)).toArray :: Ow.box bp 141 #[.bool p_v6, .pointer (some ⟨bp_h, 0, none⟩), .int .i64 p_lost] :: Ow.own 77 19 e_api_Want vout_1 out_1 :: Ow.own 28 17 e_api_Addr vr_2 r_2 :: fr) h_4 := hS.perm2 [2, 0, 1, 3, 4] 5 rfl rfl
  have hZ_4 := hS
  have hkz_4 := (hS.freeze).2
  replace hS := hS.freeze.1
  have hL_4 := hZ_4.lent
  refine HS.call rfl (want_none) rfl (ec en_25 rfl rfl) (host_Host_Filter_walk (fr := (Ow.box b_1 28 (e_api_Addr (gi r_2 n_1)).toArray :: Ow.box bp 141 #[.bool p_v6, .pointer (some ⟨bp_h, 0, none⟩), .int .i64 p_lost] :: Ow.own 77 19 e_api_Want vout_1 out_1 :: Ow.own 28 17 e_api_Addr vr_2 r_2 :: fr)) p_h_v6 p_h_now p_h_want p_h_one p_h_two (gi r_2 n_1) bp_h rp_h_want hS (NfL.kp (NfL.kp hN_p_h_want hkz_3) hkz_4) hL_4 (hL_3.kp hkz_4) hM) ?_
  rintro _ h_5 ⟨F_4, r_0_1, r_1_1, vr_1_1, rfl, hk, hS, _, _, _, hM⟩
  obtain ⟨hS, hk⟩ := hZ_4.back hk hS
  obtain ⟨hS, hk⟩ := hZ_3.back hk hS
  generalize (fun bz_ => (fun bz_ => F_4 bz_ ∧ ¬ (Ow.map rp_h_want (fun (x : T_api_Addr) => .agg (e_api_Addr x).toArray) (fun (x : T_api_Filter) => .agg #[.bool x.1, x.2.1]) p_h_want).foot bz_) bz_ ∧ ¬ (Ow.box bp_h 97 #[.bool p_h_v6, .int .i64 p_h_now, .map (some rp_h_want), .int .i64 p_h_one, .int .i64 p_h_two]).foot bz_) = F_5 at hS hk
  replace hK := hK.trans hk
  replace hN_p_h_want := hN_p_h_want.kp hk
  replace hN_3 := hN_3.kp hk
  refine HA.val (k := 8) (v := .agg (c_api_Want (gi r_2 n_1) (.bool r_0_1) vr_1_1).toArray) rfl rfl (by kernel_rfl) (by kernel_rfl) (want_none) rfl (fun _ ⟨c318, c312⟩ => q_build tp_77 (fill_cons (cs' := (c_api_Want (gi r_2 n_1) (.bool false) (.slice none 0 0)).toArray) (vc := (e_api_Addr (gi r_2 n_1)).toArray) rfl rfl rfl (Nat.le_of_ble_eq_true rfl) rfl (fill_cons (cs' := (c_api_Want (gi r_2 n_1) (.bool r_0_1) vr_1_1).toArray) (vc := #[.bool r_0_1, vr_1_1]) rfl rfl rfl (Nat.le_of_ble_eq_true rfl) rfl rfl))) ?_
  refine HA.one (k := 9) ⟨⟨(hS.box 3 rfl), (hS.box 4 rfl)⟩, (Go.Wk.at_nil _ _)⟩ (by kernel_rfl) ?_
  replace hS : St F_5 (Ow.own 28 17 e_api_Addr vr_1_1 r_1_1 :: Ow.box bp_h 97 #[.bool p_h_v6, .int .i64 p_h_now, .map (some rp_h_want), .int .i64 p_h_one, .int .i64 p_h_two] :: Ow.map rp_h_want (fun (x : T_api_Addr) => .agg (e_api_Addr x).toArray) (fun (x : T_api_Filter) => .agg #[.bool x.1, x.2.1]) p_h_want :: Ow.box b_1 28 (e_api_Addr (gi r_2 n_1)).toArray :: Ow.box bp 141 #[.bool p_v6, .pointer (some ⟨bp_h, 0, none⟩), .int .i64 p_lost] :: Ow.own 77 19 e_api_Want vout_1 out_1 :: Ow.own 28 17 e_api_Addr vr_2 r_2 :: fr) h_5 := hS.perm2 [2, 0, 1, 3, 4, 5, 6] 7 rfl rfl
  obtain ⟨F_6, hS, hk, hL_5⟩ := hS.freezeOwn
  replace hK := hK.trans hk
  replace hN_p_h_want := hN_p_h_want.kp hk
  replace hN_3 := hN_3.kp hk
  replace hM := hM vr_1_1
  refine HS.eff rfl (want_none) rfl (st_lit (enc := e_api_Want) (cells := #[.bool ((gi r_2 n_1).1), .int .u8 (b8 ((gi r_2 n_1).2) 0), .int .u8 (b8 ((gi r_2 n_1).2) 1), .int .u8 (b8 ((gi r_2 n_1).2) 2), .int .u8 (b8 ((gi r_2 n_1).2) 3), .int .u8 (b8 ((gi r_2 n_1).2) 4), .int .u8 (b8 ((gi r_2 n_1).2) 5), .int .u8 (b8 ((gi r_2 n_1).2) 6), .int .u8 (b8 ((gi r_2 n_1).2) 7), .int .u8 (b8 ((gi r_2 n_1).2) 8), .int .u8 (b8 ((gi r_2 n_1).2) 9), .int .u8 (b8 ((gi r_2 n_1).2) 10), .int .u8 (b8 ((gi r_2 n_1).2) 11), .int .u8 (b8 ((gi r_2 n_1).2) 12), .int .u8 (b8 ((gi r_2 n_1).2) 13), .int .u8 (b8 ((gi r_2 n_1).2) 14), .int .u8 (b8 ((gi r_2 n_1).2) 15), .bool r_0_1, vr_1_1]) #[.bool false, .int .u8 0, .int .u8 0, .int .u8 0, .int .u8 0, .int .u8 0, .int .u8 0, .int .u8 0, .int .u8 0, .int .u8 0, .int .u8 0, .int .u8 0, .int .u8 0, .int .u8 0, .int .u8 0, .int .u8 0, .int .u8 0, .bool false, .slice none 0 0] ([((gi r_2 n_1), (r_0_1, (vr_1_1, r_1_1)))] : List T_api_Want) hS tl_71 (by decide) (by decide) (by kernel_rfl) (by kernel_rfl) rfl (by intro x hx; rfl) rfl) ?_
  rintro _ h_6 ⟨b_2, rfl, hS, hk⟩
  replace hK := hK.trans hk
  replace hN_p_h_want := hN_p_h_want.kp hk
  replace hN_3 := hN_3.kp hk
  replace hL_5 := hL_5.kp hk
  have hN_5 : NfL nf_api_Want F_6 h_6 ([((gi r_2 n_1), (r_0_1, (vr_1_1, r_1_1)))] : List T_api_Want) := (NfL.cons (nfm_api_Want ((gi r_2 n_1), (r_0_1, (vr_1_1, r_1_1))) hL_5) (NfL.nil _ _ _))
  refine HA.one (k := 10) ⟨⟨(hS.box 3 rfl), (hS.box 4 rfl)⟩, (Go.Wk.at_nil _ _)⟩ (by kernel_rfl) ?_
  obtain ⟨ho_2, hM⟩ := hM
  refine HS.eff rfl (want_none) rfl (st_append te_71 hS (i := 5) rfl (hS.own 0 rfl).slice rfl rfl rfl (fun a_ ha_ => nfo_api_Want (hN_5.is.all a_ ha_)) ho_2 (by omega)) ?_
  rintro v_1 h_7 ⟨hS, hk⟩
  replace hK := hK.trans hk
  replace hN_p_h_want := hN_p_h_want.kp hk
  replace hN_3 := hN_3.kp hk
  replace hN_5 := hN_5.kp hk
  have hN_6 : NfL nf_api_Want F_6 h_7 (out_1 ++ ([((gi r_2 n_1), (r_0_1, (vr_1_1, r_1_1)))] : List T_api_Want)) := NfL.app hN_3 hN_5
  refine HA.val (k := 11) (v := v_1) rfl rfl (by kernel_rfl) (by kernel_rfl) (want_none) rfl (fun _ ⟨c318, c312⟩ => q_assign rfl) ?_
  refine HA.nil ⟨⟨(hS.box 3 rfl), (hS.box 4 rfl)⟩, (Go.Wk.at_nil _ _)⟩ (by kernel_rfl) (blockQ_normal (thenQ_normal (?_)))
  refine HW.region ?_
  obtain ⟨ho_3, hM⟩ := hM
  refine oV (.int .i64 (n_1 + 1)) (q_addN _ rfl rfl rfl ho_3.1 ho_3.2) rfl ?_
  refine oM (.int .i64 (n_1 + 1)) rfl rfl ?_
  refine HO.nil (thenQ_normal (?_))
  replace hS : St F_6 (Ow.box bp 141 #[.bool p_v6, .pointer (some ⟨bp_h, 0, none⟩), .int .i64 p_lost] :: Ow.box bp_h 97 #[.bool p_h_v6, .int .i64 p_h_now, .map (some rp_h_want), .int .i64 p_h_one, .int .i64 p_h_two] :: Ow.map rp_h_want (fun (x : T_api_Addr) => .agg (e_api_Addr x).toArray) (fun (x : T_api_Filter) => .agg #[.bool x.1, x.2.1]) p_h_want :: Ow.own 77 19 e_api_Want v_1 (out_1 ++ ([((gi r_2 n_1), (r_0_1, (vr_1_1, r_1_1)))] : List T_api_Want)) :: Ow.own 28 17 e_api_Addr vr_2 r_2 :: fr) h_7 := hS.perm2 [4, 1, 2, 5, 6] 7 rfl rfl
  rw [hKe_1] at hM
  exact ⟨(out_1 ++ ([((gi r_2 n_1), (r_0_1, (vr_1_1, r_1_1)))] : List T_api_Want), n_1 + 1), ⟨F_6, v_1, rfl, rfl, rfl, rfl, rfl, rfl, hK, hS, hN_p_h_want, hN_6, hM.1⟩, hM.2⟩
 ·
  replace hM := hM.2 (of_decide_eq_false c_1)
  refine HW.exit (thenQ_exit (thenQ_exit (blockQ_exit (thenQ_normal (?_)))))
  refine HW.seq ?_
  refine HW.region ?_
  refine oM (vout_1) rfl rfl ?_
  refine oA (vout_1) rfl rfl ?_
  refine HO.nil (thenQ_normal (?_))
  refine HW.ret (?_)
  refine ⟨.inr rfl, vout_1, res1 rfl (rt rfl), ?_⟩
  replace hS : St F_3 (Ow.own 77 19 e_api_Want vout_1 out_1 :: Ow.box bp 141 #[.bool p_v6, .pointer (some ⟨bp_h, 0, none⟩), .int .i64 p_lost] :: Ow.box bp_h 97 #[.bool p_h_v6, .int .i64 p_h_now, .map (some rp_h_want), .int .i64 p_h_one, .int .i64 p_h_two] :: Ow.map rp_h_want (fun (x : T_api_Addr) => .agg (e_api_Addr x).toArray) (fun (x : T_api_Filter) => .agg #[.bool x.1, x.2.1]) p_h_want :: fr) h_2 := hS.perm2 [3, 0, 1, 2] 5 rfl rfl
  exact ⟨F_3, out_1, p_v6, p_h_v6, p_h_now, p_h_want, p_h_one, p_h_two, p_lost, vout_1, rfl, hK, hS, hN_p_h_want, hN_3, hN_p_h_want, hM⟩
def proxy_New_W (v6 : Bool) (Q : Prop) : Prop :=
 host_New_W v6 (Q)
theorem proxy_New_walk {F : Fz} {fr : List Ow} {h0 : Heap} (v6 : Bool) (hS : St F (fr) h0)  {Q : Prop} (hM : proxy_New_W v6 Q) :
  HC Tryz.prog 82 #[.bool v6] h0 fun u h' => ∃ (F' : Fz) (b_1 : Nat) (b_2 : Nat) (r_1 : Nat), u = .pointer (some ⟨b_1, 0, none⟩) ∧ Kp F h0 F' h' ∧ St F' (Ow.box b_1 141 #[.bool v6, .pointer (some ⟨b_2, 0, none⟩), .int .i64 0] :: Ow.box b_2 97 #[.bool v6, .int .i64 0, .map (some r_1), .int .i64 0, .int .i64 0] :: Ow.map r_1 (fun (x : T_api_Addr) => .agg (e_api_Addr x).toArray) (fun (x : T_api_Filter) => .agg #[.bool x.1, x.2.1]) ([] : List (T_api_Addr × T_api_Filter)) :: fr) h' ∧ (NfL nf_api_Filter F' h' (([] : List (T_api_Addr × T_api_Filter)).map (·.2))) ∧ Q := by
 unfold proxy_New_W at hM
 have hK := Kp.refl F h0
 refine HC.of_HW (n := 8) Tryz.func82 rfl rfl (Nat.le_of_ble_eq_true rfl) ?_
 refine HW.seq ?_
 refine HW.region ?_
 refine oA (.pointer none) rfl rfl ?_
 refine HO.nil (thenQ_normal (?_))
 refine HW.seq ?_
 refine HW.region ?_
 refine oM (.bool v6) rfl rfl ?_
 refine oM (.bool v6) rfl rfl ?_
 refine HO.call (want_none) rfl (ec en_15 rfl rfl) (host_New_walk (fr := (fr)) v6 hS hM) ?_
 rintro _ h_1 ⟨F_1, b_3, r_2, rfl, hk, hS, hL_1, hM⟩
 replace hK := hK.trans hk
 refine oV (.agg #[.bool v6, .pointer (some ⟨b_3, 0, none⟩), .int .i64 0]) (q_build tp_141 rfl) rfl ?_
 refine HO.eff (want_none) rfl (st_box (c := #[.bool v6, .pointer (some ⟨b_3, 0, none⟩), .int .i64 0]) (k' := 3) hS rfl rfl) ?_
 rintro _ h_2 ⟨b_4, rfl, hS, hk⟩
 replace hK := hK.trans hk
 replace hL_1 := hL_1.kp hk
 refine oA (.pointer (some ⟨b_4, 0, none⟩)) rfl rfl ?_
 refine HO.nil (thenQ_normal (?_))
 refine HW.ret (?_)
 refine ⟨.inr rfl, .pointer (some ⟨b_4, 0, none⟩), res1 rfl (rt rfl), ?_⟩
 exact ⟨F_1, b_4, b_3, r_2, rfl, hK, hS, hL_1, hM⟩
def law24_four_W (last : Int) (Q : T_api_Addr → Prop) : Prop :=
 ((0 : Int) ≤ last ∧ last < 256) ∧ (Q (false, mkB 16 [239, 1, 1, last, 0, 0, 0, 0, 0, 0, 0, 0, 0, 0, 0, 0]))
theorem law24_four_walk {F : Fz} {fr : List Ow} {h0 : Heap} (last : Int) (hS : St F (fr) h0)  {Q : T_api_Addr → Prop} (hM : law24_four_W last Q) :
  HC Tryz.prog 134 #[.int .u8 last] h0 fun u h' => ∃ (F' : Fz) (r_1 : T_api_Addr), u = .agg (e_api_Addr r_1).toArray ∧ Kp F h0 F' h' ∧ St F' (fr) h' ∧ Q r_1 := by
 unfold law24_four_W at hM
 have hK := Kp.refl F h0
 refine HC.of_HW (n := 6) Tryz.func134 rfl rfl (Nat.le_of_ble_eq_true rfl) ?_
 refine HW.seq ?_
 refine HW.region ?_
 refine HO.eff (want_none) rfl (st_alloc (c := (e_api_Addr (false, (default : Ba 16))).toArray) hS tz_28 rfl) ?_
 rintro _ h_1 ⟨b_1, rfl, hS, hk⟩
 replace hK := hK.trans hk
 refine HO.nil (thenQ_normal (?_))
 refine HW.seq ?_
 refine HW.region ?_
 refine oM (.int .u8 last) rfl rfl ?_
 obtain ⟨ho_1, hM⟩ := hM
 refine oV (.agg (arrCells (mkB 16 [239, 1, 1, last, 0, 0, 0, 0, 0, 0, 0, 0, 0, 0, 0, 0])).toArray) ((q_buildA (cells := #[.int .u8 239, .int .u8 1, .int .u8 1, .int .u8 last, .int .u8 0, .int .u8 0, .int .u8 0, .int .u8 0, .int .u8 0, .int .u8 0, .int .u8 0, .int .u8 0, .int .u8 0, .int .u8 0, .int .u8 0, .int .u8 0]) tb_26 rfl).of_eq (mkB_agg (n := 16) (l := [239, 1, 1, last, 0, 0, 0, 0, 0, 0, 0, 0, 0, 0, 0, 0]) rfl ⟨⟨by decide, by decide⟩, ⟨⟨by decide, by decide⟩, ⟨⟨by decide, by decide⟩, ⟨ho_1, ⟨⟨by decide, by decide⟩, ⟨⟨by decide, by decide⟩, ⟨⟨by decide, by decide⟩, ⟨⟨by decide, by decide⟩, ⟨⟨by decide, by decide⟩, ⟨⟨by decide, by decide⟩, ⟨⟨by decide, by decide⟩, ⟨⟨by decide, by decide⟩, ⟨⟨by decide, by decide⟩, ⟨⟨by decide, by decide⟩, ⟨⟨by decide, by decide⟩, ⟨⟨by decide, by decide⟩, trivial⟩⟩⟩⟩⟩⟩⟩⟩⟩⟩⟩⟩⟩⟩⟩⟩)) rfl ?_
 refine oV (.agg (e_api_Addr (false, mkB 16 [239, 1, 1, last, 0, 0, 0, 0, 0, 0, 0, 0, 0, 0, 0, 0])).toArray) (q_build tp_28 (fill_cons (cs' := (e_api_Addr (false, mkB 16 [239, 1, 1, last, 0, 0, 0, 0, 0, 0, 0, 0, 0, 0, 0, 0])).toArray) (vc := (arrCells (mkB 16 [239, 1, 1, last, 0, 0, 0, 0, 0, 0, 0, 0, 0, 0, 0, 0])).toArray) rfl rfl rfl (Nat.le_of_ble_eq_true rfl) rfl rfl)) rfl ?_
 refine HO.sto (want_none) rfl (st_storeAgg (c' := (e_api_Addr (false, mkB 16 [239, 1, 1, last, 0, 0, 0, 0, 0, 0, 0, 0, 0, 0, 0, 0])).toArray) hS (i := 0) rfl ta_28 rfl rfl rfl (one_e_api_Addr _) (Nat.le_of_ble_eq_true rfl) rfl) ?_
 rintro h_2 ⟨hS, hk⟩
 replace hK := hK.trans hk
 refine HO.nil (thenQ_normal (?_))
 refine HW.ret (?_)
 refine ⟨.inr rfl, .agg (e_api_Addr (false, mkB 16 [239, 1, 1, last, 0, 0, 0, 0, 0, 0, 0, 0, 0, 0, 0, 0])).toArray, res1 rfl (rca (cs := (e_api_Addr (false, mkB 16 [239, 1, 1, last, 0, 0, 0, 0, 0, 0, 0, 0, 0, 0, 0, 0]))) ta_28 rfl rfl (Blk.cells (k := 17) (hS.box 0 rfl) rfl)), ?_⟩
 replace hS : St F (fr) h_2 := hS.perm2 [] 1 rfl rfl
 exact ⟨F, (false, mkB 16 [239, 1, 1, last, 0, 0, 0, 0, 0, 0, 0, 0, 0, 0, 0, 0]), rfl, hK, hS, hM⟩
def law24_all_W (last : Int) (Q : (List T_api_Want) → Prop) : Prop :=
 law24_four_W last (fun r_2 => Q ([(r_2, (true, (.slice none 0 0, [])))] : List T_api_Want))
theorem law24_all_walk {F : Fz} {fr : List Ow} {h0 : Heap} (last : Int) (hS : St F (fr) h0)  {Q : (List T_api_Want) → Prop} (hM : law24_all_W last Q) :
  HC Tryz.prog 83 #[.int .u8 last] h0 fun u h' => ∃ (F' : Fz) (r_1 : List T_api_Want) (vr_1 : Value), u = vr_1 ∧ Kp F h0 F' h' ∧ St F' (Ow.own 77 19 e_api_Want vr_1 r_1 :: fr) h' ∧ (NfL nf_api_Want F' h' r_1) ∧ Q r_1 := by
 unfold law24_all_W at hM
 have hK := Kp.refl F h0
 refine HC.of_HW (n := 8) Tryz.func83 rfl rfl (Nat.le_of_ble_eq_true rfl) ?_
 refine HW.seq ?_
 refine HW.region ?_
 refine oA (.slice none 0 0) rfl rfl ?_
 refine HO.nil (thenQ_normal (?_))
 refine HW.seq ?_
 refine HW.region ?_
 refine oM (.int .u8 last) rfl rfl ?_
 refine HO.call (want_none) rfl (ec en_134 rfl rfl) (law24_four_walk (fr := (fr)) last hS hM) ?_
 rintro _ h_1 ⟨F_1, r_2, rfl, hk, hS, hM⟩
 replace hK := hK.trans hk
 refine oV (.agg #[.bool true, .slice none 0 0]) (q_build tp_50 rfl) rfl ?_
 refine oV (.agg (c_api_Want r_2 (.bool true) (.slice none 0 0)).toArray) (q_build tp_77 (fill_cons (cs' := (c_api_Want r_2 (.bool false) (.slice none 0 0)).toArray) (vc := (e_api_Addr r_2).toArray) rfl rfl rfl (Nat.le_of_ble_eq_true rfl) rfl (fill_cons (cs' := (c_api_Want r_2 (.bool true) (.slice none 0 0)).toArray) (vc := #[.bool true, .slice none 0 0]) rfl rfl rfl (Nat.le_of_ble_eq_true rfl) rfl rfl))) rfl ?_
 refine HO.eff (want_none) rfl (st_lit (enc := e_api_Want) (cells := #[.bool r_2.1, .int .u8 (b8 r_2.2 0), .int .u8 (b8 r_2.2 1), .int .u8 (b8 r_2.2 2), .int .u8 (b8 r_2.2 3), .int .u8 (b8 r_2.2 4), .int .u8 (b8 r_2.2 5), .int .u8 (b8 r_2.2 6), .int .u8 (b8 r_2.2 7), .int .u8 (b8 r_2.2 8), .int .u8 (b8 r_2.2 9), .int .u8 (b8 r_2.2 10), .int .u8 (b8 r_2.2 11), .int .u8 (b8 r_2.2 12), .int .u8 (b8 r_2.2 13), .int .u8 (b8 r_2.2 14), .int .u8 (b8 r_2.2 15), .bool true, .slice none 0 0]) #[.bool false, .int .u8 0, .int .u8 0, .int .u8 0, .int .u8 0, .int .u8 0, .int .u8 0, .int .u8 0, .int .u8 0, .int .u8 0, .int .u8 0, .int .u8 0, .int .u8 0, .int .u8 0, .int .u8 0, .int .u8 0, .int .u8 0, .bool false, .slice none 0 0] ([(r_2, (true, (.slice none 0 0, [])))] : List T_api_Want) hS tl_71 (by decide) (by decide) (by kernel_rfl) (by kernel_rfl) rfl (by intro x hx; rfl) rfl) ?_
 rintro _ h_2 ⟨b_1, rfl, hS, hk⟩
 replace hK := hK.trans hk
 have hN_2 : NfL nf_api_Want F_1 h_2 ([(r_2, (true, (.slice none 0 0, [])))] : List T_api_Want) := (NfL.cons (nfm_api_Want (r_2, (true, (.slice none 0 0, []))) (SliceF.nil _ _ _ _)) (NfL.nil _ _ _))
 refine oA (.slice (some ⟨b_1, 0, none⟩) 1 1) rfl rfl ?_
 refine HO.nil (thenQ_normal (?_))
 refine HW.ret (?_)
 refine ⟨.inr rfl, .slice (some ⟨b_1, 0, none⟩) 1 1, res1 rfl (rt rfl), ?_⟩
 exact ⟨F_1, ([(r_2, (true, (.slice none 0 0, [])))] : List T_api_Want), .slice (some ⟨b_1, 0, none⟩) 1 1, rfl, hK, hS, hN_2, hM⟩
def law24_lives_W (Q : Bool → Prop) : Prop :=
 proxy_New_W false (law24_all_W 1 (fun r_3 => proxy_Proxy_Update_W false false 0 [] 0 0 0 0 r_3 (fun r_4 p_v6_1 p_v6_2 p_now_1 pm_1 p_one_1 p_two_1 p_lost_1 => law24_all_W 2 (fun r_5 => proxy_Proxy_Update_W p_v6_1 p_v6_2 p_now_1 pm_1 p_one_1 p_two_1 p_lost_1 0 r_5 (fun r_6 p_v6_3 p_v6_4 p_now_2 pm_2 p_one_2 p_two_2 p_lost_2 => ((r_4.length : Int) = 1 → ((0 : Int) ≤ 0 ∧ 0 < (r_4.length : Int)) ∧ ((((((gi r_4 0).2.2.2.2.2.2.2.2.2).2).length : Int) = 1 → ((r_6.length : Int) = 1 → ((0 : Int) ≤ 0 ∧ 0 < (r_6.length : Int)) ∧ ((((((gi r_6 0).2.2.2.2.2.2.2.2.2).2).length : Int) = 2 → ((0 : Int) ≤ 0 ∧ 0 < ((((gi r_6 0).2.2.2.2.2.2.2.2.2).2).length : Int)) ∧ ((((gi (((gi r_6 0).2.2.2.2.2.2.2.2.2).2) 0).1) = 3 → proxy_Proxy_Wants_W p_v6_3 p_v6_4 p_now_2 pm_2 p_one_2 p_two_2 p_lost_2 (fun r_7 p_v6_5 p_v6_6 p_now_3 pm_3 p_one_3 p_two_3 p_lost_3 => Q (decide ((r_7.length : Int) = 1)))) ∧ (¬ (((gi (((gi r_6 0).2.2.2.2.2.2.2.2.2).2) 0).1) = 3) → Q false))) ∧ (¬ (((((gi r_6 0).2.2.2.2.2.2.2.2.2).2).length : Int) = 2) → Q false))) ∧ (¬ ((r_6.length : Int) = 1) → Q false)) ∧ (¬ (((((gi r_4 0).2.2.2.2.2.2.2.2.2).2).length : Int) = 1) → Q false))) ∧ (¬ ((r_4.length : Int) = 1) → Q false))))))
theorem law24_lives_walk {F : Fz} {fr : List Ow} {h0 : Heap}  (hS : St F (fr) h0)  (hD : DM.on = false) {Q : Bool → Prop} (hM : law24_lives_W Q) :
  HC Tryz.prog 32 #[] h0 fun u h' => ∃ (F' : Fz) (r_1 : Bool), u = .bool r_1 ∧ Kp F h0 F' h' ∧ St F' (fr) h' ∧ Q r_1 := by
 unfold law24_lives_W at hM
 have hK := Kp.refl F h0
 refine HC.of_HW (n := 51) Tryz.func32 rfl rfl (Nat.le_of_ble_eq_true rfl) ?_
 refine HW.seq ?_
 refine HW.region ?_
 refine oA (.bool false) rfl rfl ?_
 refine HO.nil (thenQ_normal (?_))
 refine HW.seq ?_
 refine HW.region ?_
 refine HO.call (want_none) rfl (ec en_82 rfl rfl) (proxy_New_walk (fr := (fr)) false hS hM) ?_
 rintro _ h_1 ⟨F_1, b_1, b_2, r_2, rfl, hk, hS, hL_1, hM⟩
 replace hK := hK.trans hk
 refine oA (.pointer (some ⟨b_1, 0, none⟩)) rfl rfl ?_
 refine HO.nil (thenQ_normal (?_))
 refine HW.seq ?_
 refine HW.region ?_
 refine oM (.pointer (some ⟨b_1, 0, none⟩)) rfl rfl ?_
 refine HO.call (want_none) rfl (ec en_83 rfl rfl) (law24_all_walk (fr := (Ow.box b_1 141 #[.bool false, .pointer (some ⟨b_2, 0, none⟩), .int .i64 0] :: Ow.box b_2 97 #[.bool false, .int .i64 0, .map (some r_2), .int .i64 0, .int .i64 0] :: Ow.map r_2 (fun (x : T_api_Addr) => .agg (e_api_Addr x).toArray) (fun (x : T_api_Filter) => .agg #[.bool x.1, x.2.1]) ([] : List (T_api_Addr × T_api_Filter)) :: fr)) 1 hS hM) ?_
 rintro vr_1 h_2 ⟨F_2, r_3, _, rfl, hk, hS, hL_2, hM⟩
 replace hK := hK.trans hk
 replace hL_1 := hL_1.kp hk
 obtain ⟨F_3, hS, hk, hL_3⟩ := hS.freezeOwn
 replace hK := hK.trans hk
 replace hL_1 := hL_1.kp hk
 replace hL_2 := hL_2.kp hk
 refine HO.call (want_none) rfl (ec en_33 rfl rfl) (proxy_Proxy_Update_walk (fr := (fr)) false false 0 [] 0 0 0 0 r_3 b_1 b_2 r_2 vr_1 hS hL_1 hL_2 hL_3 hD hM) ?_
 rintro vr_2 h_3 ⟨F_4, r_4, p_v6_1, p_v6_2, p_now_1, pm_1, p_one_1, p_two_1, p_lost_1, _, rfl, hk, hS, _, _, _, hL_4, hL_5, hM⟩
 replace hK := hK.trans hk
 refine oM (.pointer (some ⟨b_1, 0, none⟩)) rfl rfl ?_
 refine HO.call (want_none) rfl (ec en_83 rfl rfl) (law24_all_walk (fr := (Ow.own 31 26 e_api_Talk vr_2 r_4 :: Ow.box b_1 141 #[.bool p_v6_1, .pointer (some ⟨b_2, 0, none⟩), .int .i64 p_lost_1] :: Ow.box b_2 97 #[.bool p_v6_2, .int .i64 p_now_1, .map (some r_2), .int .i64 p_one_1, .int .i64 p_two_1] :: Ow.map r_2 (fun (x : T_api_Addr) => .agg (e_api_Addr x).toArray) (fun (x : T_api_Filter) => .agg #[.bool x.1, x.2.1]) pm_1 :: fr)) 2 hS hM) ?_
 rintro vr_3 h_4 ⟨F_5, r_5, _, rfl, hk, hS, hL_6, hM⟩
 replace hK := hK.trans hk
 replace hL_4 := hL_4.kp hk
 replace hL_5 := hL_5.kp hk
 obtain ⟨F_6, hS, hk, hL_7⟩ := hS.freezeOwn
 replace hK := hK.trans hk
 replace hL_4 := hL_4.kp hk
 replace hL_5 := hL_5.kp hk
 replace hL_6 := hL_6.kp hk
 replace hS : St F_6 (Ow.box b_1 141 #[.bool p_v6_1, .pointer (some ⟨b_2, 0, none⟩), .int .i64 p_lost_1] :: Ow.box b_2 97 #[.bool p_v6_2, .int .i64 p_now_1, .map (some r_2), .int .i64 p_one_1, .int .i64 p_two_1] :: Ow.map r_2 (fun (x : T_api_Addr) => .agg (e_api_Addr x).toArray) (fun (x : T_api_Filter) => .agg #[.bool x.1, x.2.1]) pm_1 :: Ow.own 31 26 e_api_Talk vr_2 r_4 :: fr) h_4 := hS.perm2 [1, 2, 3, 0] 4 rfl rfl
 refine HO.call (want_none) rfl (ec en_33 rfl rfl) (proxy_Proxy_Update_walk (fr := (Ow.own 31 26 e_api_Talk vr_2 r_4 :: fr)) p_v6_1 p_v6_2 p_now_1 pm_1 p_one_1 p_two_1 p_lost_1 0 r_5 b_1 b_2 r_2 vr_3 hS hL_5 hL_6 hL_7 hD hM) ?_
 rintro vr_4 h_5 ⟨F_7, r_6, p_v6_3, p_v6_4, p_now_2, pm_2, p_one_2, p_two_2, p_lost_2, _, rfl, hk, hS, _, _, _, hL_8, hL_9, hM⟩
 replace hK := hK.trans hk
 replace hL_4 := hL_4.kp hk
 refine oA (vr_2) rfl rfl ?_
 refine oA (vr_4) rfl rfl ?_
 refine HO.nil (thenQ_normal (?_))
 refine HW.seq ?_
 refine HW.region ?_
 refine oM (vr_2) rfl rfl ?_
 refine oV (.int .i64 (r_4.length : Int)) (q_len ts_33 (shp (hS.own 4 rfl).slice) rfl rfl) rfl ?_
 refine oV (.bool (decide ((r_4.length : Int) = 1))) (q_eql rfl rfl) rfl ?_
 refine oM (.bool (decide ((r_4.length : Int) = 1))) rfl rfl ?_
 rcases Bool.eq_false_or_eq_true (decide ((r_4.length : Int) = 1)) with c_1 | c_1
 ·
  replace hM := hM.1 (of_decide_eq_true c_1)
  refine HO.val (v := vr_2) (want_by rfl rfl c_1) rfl (q_move rfl) ?_
  obtain ⟨ho_1, hM⟩ := hM
  refine HO.val (v := elemPtr 26 vr_2 (0 : Int).toNat) (want_by rfl rfl c_1) rfl (q_idx ts_33 (hS.own 4 rfl).slice rfl rfl ho_1) ?_
  refine HO.val (v := fieldPtr 26 vr_2 (0 : Int).toNat 25) (want_by rfl rfl c_1) rfl (q_fldElem fa_31_9 (hS.own 4 rfl).slice rfl ho_1) ?_
  refine HO.val (v := ((gi r_4 0).2.2.2.2.2.2.2.2.2).1) (want_by rfl rfl c_1) rfl (q_ldField to_22 (hS.own 4 rfl).slice rfl ho_1 (by decide) rfl) ?_
  refine HO.val (v := .int .i64 ((((gi r_4 0).2.2.2.2.2.2.2.2.2).2).length : Int)) (want_by rfl rfl c_1) rfl (q_len ts_22 (shp (nfi_api_Talk_25 (NfI.at hL_4.is ho_1))) rfl rfl) ?_
  refine HO.val (v := .bool (decide (((((gi r_4 0).2.2.2.2.2.2.2.2.2).2).length : Int) = 1))) (want_by rfl rfl c_1) rfl (q_eql rfl rfl) ?_
  refine oV (.bool (decide (((((gi r_4 0).2.2.2.2.2.2.2.2.2).2).length : Int) = 1))) (q_pickK true rfl c_1 rfl) rfl ?_
  refine oM (.bool (decide (((((gi r_4 0).2.2.2.2.2.2.2.2.2).2).length : Int) = 1))) rfl rfl ?_
  rcases Bool.eq_false_or_eq_true (decide (((((gi r_4 0).2.2.2.2.2.2.2.2.2).2).length : Int) = 1)) with c_2 | c_2
  ·
   replace hM := hM.1 (of_decide_eq_true c_2)
   refine HO.val (v := vr_4) (want_by rfl rfl c_2) rfl (q_move rfl) ?_
   refine HO.val (v := .int .i64 (r_6.length : Int)) (want_by rfl rfl c_2) rfl (q_len ts_33 (shp (hS.own 0 rfl).slice) rfl rfl) ?_
   refine HO.val (v := .bool (decide ((r_6.length : Int) = 1))) (want_by rfl rfl c_2) rfl (q_eql rfl rfl) ?_
   refine oV (.bool (decide ((r_6.length : Int) = 1))) (q_pickK true rfl c_2 rfl) rfl ?_
   refine oM (.bool (decide ((r_6.length : Int) = 1))) rfl rfl ?_
   rcases Bool.eq_false_or_eq_true (decide ((r_6.length : Int) = 1)) with c_3 | c_3
   ·
    replace hM := hM.1 (of_decide_eq_true c_3)
    refine HO.val (v := vr_4) (want_by rfl rfl c_3) rfl (q_move rfl) ?_
    obtain ⟨ho_2, hM⟩ := hM
    refine HO.val (v := elemPtr 26 vr_4 (0 : Int).toNat) (want_by rfl rfl c_3) rfl (q_idx ts_33 (hS.own 0 rfl).slice rfl rfl ho_2) ?_
    refine HO.val (v := fieldPtr 26 vr_4 (0 : Int).toNat 25) (want_by rfl rfl c_3) rfl (q_fldElem fa_31_9 (hS.own 0 rfl).slice rfl ho_2) ?_
    refine HO.val (v := ((gi r_6 0).2.2.2.2.2.2.2.2.2).1) (want_by rfl rfl c_3) rfl (q_ldField to_22 (hS.own 0 rfl).slice rfl ho_2 (by decide) rfl) ?_
    refine HO.val (v := .int .i64 ((((gi r_6 0).2.2.2.2.2.2.2.2.2).2).length : Int)) (want_by rfl rfl c_3) rfl (q_len ts_22 (shp (nfi_api_Talk_25 (NfI.at hL_8.is ho_2))) rfl rfl) ?_
    refine HO.val (v := .bool (decide (((((gi r_6 0).2.2.2.2.2.2.2.2.2).2).length : Int) = 2))) (want_by rfl rfl c_3) rfl (q_eql rfl rfl) ?_
    refine oV (.bool (decide (((((gi r_6 0).2.2.2.2.2.2.2.2.2).2).length : Int) = 2))) (q_pickK true rfl c_3 rfl) rfl ?_
    refine oM (.bool (decide (((((gi r_6 0).2.2.2.2.2.2.2.2.2).2).length : Int) = 2))) rfl rfl ?_
    rcases Bool.eq_false_or_eq_true (decide (((((gi r_6 0).2.2.2.2.2.2.2.2.2).2).length : Int) = 2)) with c_4 | c_4
    ·
     replace hM := hM.1 (of_decide_eq_true c_4)
     refine HO.val (v := vr_4) (want_by rfl rfl c_4) rfl (q_move rfl) ?_
     refine HO.val (v := elemPtr 26 vr_4 (0 : Int).toNat) (want_by rfl rfl c_4) rfl (q_idx ts_33 (hS.own 0 rfl).slice rfl rfl ho_2) ?_
     refine HO.val (v := fieldPtr 26 vr_4 (0 : Int).toNat 25) (want_by rfl rfl c_4) rfl (q_fldElem fa_31_9 (hS.own 0 rfl).slice rfl ho_2) ?_
     refine HO.val (v := ((gi r_6 0).2.2.2.2.2.2.2.2.2).1) (want_by rfl rfl c_4) rfl (q_ldField to_22 (hS.own 0 rfl).slice rfl ho_2 (by decide) rfl) ?_
     obtain ⟨ho_3, hM⟩ := hM
     refine HO.val (v := elemPtr 19 (((gi r_6 0).2.2.2.2.2.2.2.2.2).1) (0 : Int).toNat) (want_by rfl rfl c_4) rfl (q_idx ts_22 (nfi_api_Talk_25 (NfI.at hL_8.is ho_2)) rfl rfl ho_3) ?_
     refine HO.val (v := fieldPtr 19 (((gi r_6 0).2.2.2.2.2.2.2.2.2).1) (0 : Int).toNat 0) (want_by rfl rfl c_4) rfl (q_fldElem fa_89_0 (nfi_api_Talk_25 (NfI.at hL_8.is ho_2)) rfl ho_3) ?_
     refine HO.val (v := .int .i64 ((gi (((gi r_6 0).2.2.2.2.2.2.2.2.2).2) 0).1)) (want_by rfl rfl c_4) rfl (q_ldField to_3 (nfi_api_Talk_25 (NfI.at hL_8.is ho_2)) rfl ho_3 (by decide) rfl) ?_
     refine HO.val (v := .bool (decide (((gi (((gi r_6 0).2.2.2.2.2.2.2.2.2).2) 0).1) = 3))) (want_by rfl rfl c_4) rfl (q_eql rfl rfl) ?_
     refine oV (.bool (decide (((gi (((gi r_6 0).2.2.2.2.2.2.2.2.2).2) 0).1) = 3))) (q_pickK true rfl c_4 rfl) rfl ?_
     refine oM (.bool (decide (((gi (((gi r_6 0).2.2.2.2.2.2.2.2.2).2) 0).1) = 3))) rfl rfl ?_
     rcases Bool.eq_false_or_eq_true (decide (((gi (((gi r_6 0).2.2.2.2.2.2.2.2.2).2) 0).1) = 3)) with c_5 | c_5
     ·
      replace hM := hM.1 (of_decide_eq_true c_5)
      refine HO.val (v := .pointer (some ⟨b_1, 0, none⟩)) (want_by rfl rfl c_5) rfl (q_move rfl) ?_
      replace hS : St F_7 (Ow.box b_1 141 #[.bool p_v6_3, .pointer (some ⟨b_2, 0, none⟩), .int .i64 p_lost_2] :: Ow.box b_2 97 #[.bool p_v6_4, .int .i64 p_now_2, .map (some r_2), .int .i64 p_one_2, .int .i64 p_two_2] :: Ow.map r_2 (fun (x : T_api_Addr) => .agg (e_api_Addr x).toArray) (fun (x : T_api_Filter) => .agg #[.bool x.1, x.2.1]) pm_2 :: Ow.own 31 26 e_api_Talk vr_4 r_6 :: Ow.own 31 26 e_api_Talk vr_2 r_4 :: fr) h_5 := hS.perm2 [1, 2, 3, 0, 4] 5 rfl rfl
      refine HO.call (want_by rfl rfl c_5) rfl (ec en_36 rfl rfl) (proxy_Proxy_Wants_walk (fr := (Ow.own 31 26 e_api_Talk vr_4 r_6 :: Ow.own 31 26 e_api_Talk vr_2 r_4 :: fr)) p_v6_3 p_v6_4 p_now_2 pm_2 p_one_2 p_two_2 p_lost_2 b_1 b_2 r_2 hS hL_9 hM) ?_
      rintro vr_5 h_6 ⟨F_8, r_7, p_v6_5, p_v6_6, p_now_3, pm_3, p_one_3, p_two_3, p_lost_3, _, rfl, hk, hS, _, hL_10, hL_11, hM⟩
      replace hK := hK.trans hk
      refine HO.val (v := .int .i64 (r_7.length : Int)) (want_by rfl rfl c_5) rfl (q_len ts_71 (shp (hS.own 0 rfl).slice) rfl rfl) ?_
      refine HO.val (v := .bool (decide ((r_7.length : Int) = 1))) (want_by rfl rfl c_5) rfl (q_eql rfl rfl) ?_
      refine oV (.bool (decide ((r_7.length : Int) = 1))) (q_pickK true rfl c_5 rfl) rfl ?_
      refine oA (.bool (decide ((r_7.length : Int) = 1))) rfl rfl ?_
      refine HO.nil (thenQ_normal (?_))
      refine HW.ret (?_)
      refine ⟨.inr rfl, .bool (decide ((r_7.length : Int) = 1)), res1 rfl (rt rfl), ?_⟩
      replace hS : St F_8 (fr) h_6 := hS.perm2 [] 6 rfl rfl
      exact ⟨F_8, decide ((r_7.length : Int) = 1), rfl, hK, hS, hM⟩
     ·
      replace hM := hM.2 (of_decide_eq_false c_5)
      refine HO.past (past_by rfl rfl c_5) rfl ?_
      refine HO.past (past_by rfl rfl c_5) rfl ?_
      refine HO.past (past_by rfl rfl c_5) rfl ?_
      refine HO.past (past_by rfl rfl c_5) rfl ?_
      refine oV (.bool false) (q_pickK false rfl c_5 rfl) rfl ?_
      refine oA (.bool false) rfl rfl ?_
      refine HO.nil (thenQ_normal (?_))
      refine HW.ret (?_)
      refine ⟨.inr rfl, .bool false, res1 rfl (rt rfl), ?_⟩
      replace hS : St F_7 (fr) h_5 := hS.perm2 [] 5 rfl rfl
      exact ⟨F_7, false, rfl, hK, hS, hM⟩
    ·
     replace hM := hM.2 (of_decide_eq_false c_4)
     refine HO.past (past_by rfl rfl c_4) rfl ?_
     refine HO.past (past_by rfl rfl c_4) rfl ?_
     refine HO.past (past_by rfl rfl c_4) rfl ?_
     refine HO.past (past_by rfl rfl c_4) rfl ?_
     refine HO.past (past_by rfl rfl c_4) rfl ?_
     refine HO.past (past_by rfl rfl c_4) rfl ?_
     refine HO.past (past_by rfl rfl c_4) rfl ?_
     refine HO.past (past_by rfl rfl c_4) rfl ?_
     refine oV (.bool false) (q_pickK false rfl c_4 rfl) rfl ?_
     refine oM (.bool false) rfl rfl ?_
     refine HO.past (past_some rfl rfl) rfl ?_
     refine HO.past (past_some rfl rfl) rfl ?_
     refine HO.past (past_some rfl rfl) rfl ?_
     refine HO.past (past_some rfl rfl) rfl ?_
     refine oV (.bool false) (q_pick rfl rfl) rfl ?_
     refine oA (.bool false) rfl rfl ?_
     refine HO.nil (thenQ_normal (?_))
     refine HW.ret (?_)
     refine ⟨.inr rfl, .bool false, res1 rfl (rt rfl), ?_⟩
     replace hS : St F_7 (fr) h_5 := hS.perm2 [] 5 rfl rfl
     exact ⟨F_7, false, rfl, hK, hS, hM⟩
   ·
    replace hM := hM.2 (of_decide_eq_false c_3)
    refine HO.past (past_by rfl rfl c_3) rfl ?_
    refine HO.past (past_by rfl rfl c_3) rfl ?_
    refine HO.past (past_by rfl rfl c_3) rfl ?_
    refine HO.past (past_by rfl rfl c_3) rfl ?_
    refine HO.past (past_by rfl rfl c_3) rfl ?_
    refine HO.past (past_by rfl rfl c_3) rfl ?_
    refine oV (.bool false) (q_pickK false rfl c_3 rfl) rfl ?_
    refine oM (.bool false) rfl rfl ?_
    refine HO.past (past_some rfl rfl) rfl ?_
    refine HO.past (past_some rfl rfl) rfl ?_
    refine HO.past (past_some rfl rfl) rfl ?_
    refine HO.past (past_some rfl rfl) rfl ?_
    refine HO.past (past_some rfl rfl) rfl ?_
    refine HO.past (past_some rfl rfl) rfl ?_
    refine HO.past (past_some rfl rfl) rfl ?_
    refine HO.past (past_some rfl rfl) rfl ?_
    refine oV (.bool false) (q_pick rfl rfl) rfl ?_
    refine oM (.bool false) rfl rfl ?_
    refine HO.past (past_some rfl rfl) rfl ?_
    refine HO.past (past_some rfl rfl) rfl ?_
    refine HO.past (past_some rfl rfl) rfl ?_
    refine HO.past (past_some rfl rfl) rfl ?_
    refine oV (.bool false) (q_pick rfl rfl) rfl ?_
    refine oA (.bool false) rfl rfl ?_
    refine HO.nil (thenQ_normal (?_))
    refine HW.ret (?_)
    refine ⟨.inr rfl, .bool false, res1 rfl (rt rfl), ?_⟩
    replace hS : St F_7 (fr) h_5 := hS.perm2 [] 5 rfl rfl
    exact ⟨F_7, false, rfl, hK, hS, hM⟩
  ·
   replace hM := hM.2 (of_decide_eq_false c_2)
   refine HO.past (past_by rfl rfl c_2) rfl ?_
   refine HO.past (past_by rfl rfl c_2) rfl ?_
   refine HO.past (past_by rfl rfl c_2) rfl ?_
   refine oV (.bool false) (q_pickK false rfl c_2 rfl) rfl ?_
   refine oM (.bool false) rfl rfl ?_
   refine HO.past (past_some rfl rfl) rfl ?_
   refine HO.past (past_some rfl rfl) rfl ?_
   refine HO.past (past_some rfl rfl) rfl ?_
   refine HO.past (past_some rfl rfl) rfl ?_
   refine HO.past (past_some rfl rfl) rfl ?_
   refine HO.past (past_some rfl rfl) rfl ?_
   refine oV (.bool false) (q_pick rfl rfl) rfl ?_
   refine oM (.bool false) rfl rfl ?_
   refine HO.past (past_some rfl rfl) rfl ?_
   refine HO.past (past_some rfl rfl) rfl ?_
   refine HO.past (past_some rfl rfl) rfl ?_
   refine HO.past (past_some rfl rfl) rfl ?_
   refine HO.past (past_some rfl rfl) rfl ?_
   refine HO.past (past_some rfl rfl) rfl ?_
   refine HO.past (past_some rfl rfl) rfl ?_
   refine HO.past (past_some rfl rfl) rfl ?_
   refine oV (.bool false) (q_pick rfl rfl) rfl ?_
   refine oM (.bool false) rfl rfl ?_
   refine HO.past (past_some rfl rfl) rfl ?_
   refine HO.past (past_some rfl rfl) rfl ?_
   refine HO.past (past_some rfl rfl) rfl ?_
   refine HO.past (past_some rfl rfl) rfl ?_
   refine oV (.bool false) (q_pick rfl rfl) rfl ?_
   refine oA (.bool false) rfl rfl ?_
   refine HO.nil (thenQ_normal (?_))
   refine HW.ret (?_)
   refine ⟨.inr rfl, .bool false, res1 rfl (rt rfl), ?_⟩
   replace hS : St F_7 (fr) h_5 := hS.perm2 [] 5 rfl rfl
   exact ⟨F_7, false, rfl, hK, hS, hM⟩
 ·
  replace hM := hM.2 (of_decide_eq_false c_1)
  refine HO.past (past_by rfl rfl c_1) rfl ?_
  refine HO.past (past_by rfl rfl c_1) rfl ?_
  refine HO.past (past_by rfl rfl c_1) rfl ?_
  refine HO.past (past_by rfl rfl c_1) rfl ?_
  refine HO.past (past_by rfl rfl c_1) rfl ?_
  refine HO.past (past_by rfl rfl c_1) rfl ?_
  refine oV (.bool false) (q_pickK false rfl c_1 rfl) rfl ?_
  refine oM (.bool false) rfl rfl ?_
  refine HO.past (past_some rfl rfl) rfl ?_
  refine HO.past (past_some rfl rfl) rfl ?_
  refine HO.past (past_some rfl rfl) rfl ?_
  refine oV (.bool false) (q_pick rfl rfl) rfl ?_
  refine oM (.bool false) rfl rfl ?_
  refine HO.past (past_some rfl rfl) rfl ?_
  refine HO.past (past_some rfl rfl) rfl ?_
  refine HO.past (past_some rfl rfl) rfl ?_
  refine HO.past (past_some rfl rfl) rfl ?_
  refine HO.past (past_some rfl rfl) rfl ?_
  refine HO.past (past_some rfl rfl) rfl ?_
  refine oV (.bool false) (q_pick rfl rfl) rfl ?_
  refine oM (.bool false) rfl rfl ?_
  refine HO.past (past_some rfl rfl) rfl ?_
  refine HO.past (past_some rfl rfl) rfl ?_
  refine HO.past (past_some rfl rfl) rfl ?_
  refine HO.past (past_some rfl rfl) rfl ?_
  refine HO.past (past_some rfl rfl) rfl ?_
  refine HO.past (past_some rfl rfl) rfl ?_
  refine HO.past (past_some rfl rfl) rfl ?_
  refine HO.past (past_some rfl rfl) rfl ?_
  refine oV (.bool false) (q_pick rfl rfl) rfl ?_
  refine oM (.bool false) rfl rfl ?_
  refine HO.past (past_some rfl rfl) rfl ?_
  refine HO.past (past_some rfl rfl) rfl ?_
  refine HO.past (past_some rfl rfl) rfl ?_
  refine HO.past (past_some rfl rfl) rfl ?_
  refine oV (.bool false) (q_pick rfl rfl) rfl ?_
  refine oA (.bool false) rfl rfl ?_
  refine HO.nil (thenQ_normal (?_))
  refine HW.ret (?_)
  refine ⟨.inr rfl, .bool false, res1 rfl (rt rfl), ?_⟩
  replace hS : St F_7 (fr) h_5 := hS.perm2 [] 5 rfl rfl
  exact ⟨F_7, false, rfl, hK, hS, hM⟩
def proxy_Proxy_Update_nil0_W (now : Int) (l : List T_api_Want) (Q : (List T_api_Talk) → Prop) : Prop :=
 Q []
theorem proxy_Proxy_Update_nil0_walk {F : Fz} {fr : List Ow} {h0 : Heap} (now : Int) (l : List T_api_Want) (vl : Value) (hS : St F (fr) h0) (hN_l : NfL nf_api_Want F h0 l) (hL_l : SliceF F h0 19 e_api_Want vl l) {Q : (List T_api_Talk) → Prop} (hM : proxy_Proxy_Update_nil0_W now l Q) :
  HC Tryz.prog 33 #[.pointer none, .int .i64 now, vl] h0 fun u h' => ∃ (F' : Fz) (r_1 : List T_api_Talk) (vr_1 : Value), u = vr_1 ∧ Kp F h0 F' h' ∧ St F' (Ow.own 31 26 e_api_Talk vr_1 r_1 :: fr) h' ∧ (NfL nf_api_Want F' h' l) ∧ (SliceF F' h' 19 e_api_Want vl l) ∧ (NfL nf_api_Talk F' h' r_1) ∧ Q r_1 := by
 unfold proxy_Proxy_Update_nil0_W at hM
 have hK := Kp.refl F h0
 refine HC.of_HW (n := 88) Tryz.func33 rfl rfl (Nat.le_of_ble_eq_true rfl) ?_
 refine HW.seq ?_
 refine HW.region ?_
 refine oA (.slice none 0 0) rfl rfl ?_
 refine HO.nil (thenQ_normal (?_))
 refine HW.seq ?_
 refine HW.region ?_
 refine oA (.slice none 0 0) rfl rfl ?_
 refine HO.nil (thenQ_normal (?_))
 refine HW.seq ?_
 refine HW.seq ?_
 refine HW.region ?_
 refine oM (.pointer none) rfl rfl ?_
 refine oV (.bool true) (q_eqlPnil Tryz.underlying82 rfl rfl rfl) rfl ?_
 refine HO.nil (thenQ_normal (?_))
 refine HW.condT rfl ?_
 refine HW.seq ?_
 refine HW.region ?_
 refine oA (.slice none 0 0) rfl rfl ?_
 refine HO.nil (thenQ_normal (?_))
 refine HW.ret (thenQ_ret (?_))
 refine ⟨.inr rfl, .slice none 0 0, res1 rfl (rt rfl), ?_⟩
 replace hS := hS.nilOwn 31 26 e_api_Talk
 have hN_2 : NfL nf_api_Talk F h0 ([] : List T_api_Talk) := NfL.nil _ _ _
 exact ⟨F, [], .slice none 0 0, rfl, hK, hS, hN_l, hL_l, hN_2, hM⟩
def proxy_Proxy_Hear_nil0_W (now : Int) (t : T_api_Tune) (q_V6 : Bool) (q_Version : Int) (q_Kind : Int) (q_Resp : Int) (q_Group : T_api_Addr) (q_Quiet : Bool) (q_Robust : Int) (q_Every : Int) (q_Sources : List T_api_Addr) (q_Records : List T_api_Record) (Q : (List T_api_Talk) → Prop) : Prop :=
 Q []
theorem proxy_Proxy_Hear_nil0_walk {F : Fz} {fr : List Ow} {h0 : Heap} (now : Int) (t : T_api_Tune) (q_V6 : Bool) (q_Version : Int) (q_Kind : Int) (q_Resp : Int) (q_Group : T_api_Addr) (q_Quiet : Bool) (q_Robust : Int) (q_Every : Int) (q_Sources : List T_api_Addr) (q_Records : List T_api_Record) (vq_Sources : Value) (vq_Records : Value) (hS : St F (fr) h0) (hL_q_Sources : SliceF F h0 17 e_api_Addr vq_Sources q_Sources) (hN_q_Records : NfL nf_api_Record F h0 q_Records) (hL_q_Records : SliceF F h0 19 e_api_Record vq_Records q_Records) {Q : (List T_api_Talk) → Prop} (hM : proxy_Proxy_Hear_nil0_W now t q_V6 q_Version q_Kind q_Resp q_Group q_Quiet q_Robust q_Every q_Sources q_Records Q) :
  HC Tryz.prog 34 #[.pointer none, .int .i64 now, .agg (e_api_Tune t).toArray, .agg (c_api_Talk (.bool q_V6) (.int .i64 q_Version) (.int .i64 q_Kind) (.int .i64 q_Resp) q_Group (.bool q_Quiet) (.int .i64 q_Robust) (.int .i64 q_Every) vq_Sources vq_Records).toArray] h0 fun u h' => ∃ (F' : Fz) (r_1 : List T_api_Talk) (vr_1 : Value), u = vr_1 ∧ Kp F h0 F' h' ∧ St F' (Ow.own 31 26 e_api_Talk vr_1 r_1 :: fr) h' ∧ (SliceF F' h' 17 e_api_Addr vq_Sources q_Sources) ∧ (NfL nf_api_Record F' h' q_Records) ∧ (SliceF F' h' 19 e_api_Record vq_Records q_Records) ∧ (NfL nf_api_Talk F' h' r_1) ∧ Q r_1 := by
 unfold proxy_Proxy_Hear_nil0_W at hM
 have hK := Kp.refl F h0
 refine HC.of_HW (n := 19) Tryz.func34 rfl rfl (Nat.le_of_ble_eq_true rfl) ?_
 refine HW.seq ?_
 refine HW.region ?_
 refine HO.eff (want_none) rfl (st_box (c := (e_api_Tune t).toArray) (k' := 5) hS rfl rfl) ?_
 rintro _ h_1 ⟨b_1, rfl, hS, hk⟩
 replace hK := hK.trans hk
 replace hL_q_Sources := hL_q_Sources.kp hk
 replace hN_q_Records := hN_q_Records.kp hk
 replace hL_q_Records := hL_q_Records.kp hk
 refine HO.eff (want_none) rfl (st_box (c := (c_api_Talk (.bool q_V6) (.int .i64 q_Version) (.int .i64 q_Kind) (.int .i64 q_Resp) q_Group (.bool q_Quiet) (.int .i64 q_Robust) (.int .i64 q_Every) vq_Sources vq_Records).toArray) (k' := 26) hS rfl rfl) ?_
 rintro _ h_2 ⟨b_2, rfl, hS, hk⟩
 replace hK := hK.trans hk
 replace hL_q_Sources := hL_q_Sources.kp hk
 replace hN_q_Records := hN_q_Records.kp hk
 replace hL_q_Records := hL_q_Records.kp hk
 refine oA (.slice none 0 0) rfl rfl ?_
 refine HO.nil (thenQ_normal (?_))
 refine HW.seq ?_
 refine HW.seq ?_
 refine HW.region ?_
 refine oM (.pointer none) rfl rfl ?_
 refine oV (.bool true) (q_eqlPnil Tryz.underlying82 rfl rfl rfl) rfl ?_
 refine HO.nil (thenQ_normal (?_))
 refine HW.condT rfl ?_
 refine HW.seq ?_
 refine HW.region ?_
 refine oA (.slice none 0 0) rfl rfl ?_
 refine HO.nil (thenQ_normal (?_))
 refine HW.ret (thenQ_ret (?_))
 refine ⟨.inr rfl, .slice none 0 0, res1 rfl (rt rfl), ?_⟩
 replace hS := hS.nilOwn 31 26 e_api_Talk
 have hN_2 : NfL nf_api_Talk F h_2 ([] : List T_api_Talk) := NfL.nil _ _ _
 replace hS : St F (Ow.own 31 26 e_api_Talk (.slice none 0 0) ([] : List T_api_Talk) :: fr) h_2 := hS.perm2 [0] 3 rfl rfl
 exact ⟨F, [], .slice none 0 0, rfl, hK, hS, hL_q_Sources, hN_q_Records, hL_q_Records, hN_2, hM⟩
def proxy_Proxy_Wants_nil0_W (Q : (List T_api_Want) → Prop) : Prop :=
 Q []
theorem proxy_Proxy_Wants_nil0_walk {F : Fz} {fr : List Ow} {h0 : Heap}  (hS : St F (fr) h0)  {Q : (List T_api_Want) → Prop} (hM : proxy_Proxy_Wants_nil0_W Q) :
  HC Tryz.prog 36 #[.pointer none] h0 fun u h' => ∃ (F' : Fz) (r_1 : List T_api_Want) (vr_1 : Value), u = vr_1 ∧ Kp F h0 F' h' ∧ St F' (Ow.own 77 19 e_api_Want vr_1 r_1 :: fr) h' ∧ (NfL nf_api_Want F' h' r_1) ∧ Q r_1 := by
 unfold proxy_Proxy_Wants_nil0_W at hM
 have hK := Kp.refl F h0
 refine HC.of_HW (n := 31) Tryz.func36 rfl rfl (Nat.le_of_ble_eq_true rfl) ?_
 refine HW.seq ?_
 refine HW.region ?_
 refine oA (.slice none 0 0) rfl rfl ?_
 refine HO.nil (thenQ_normal (?_))
 refine HW.seq ?_
 refine HW.region ?_
 refine oA (.slice none 0 0) rfl rfl ?_
 refine HO.nil (thenQ_normal (?_))
 refine HW.seq ?_
 refine HW.seq ?_
 refine HW.region ?_
 refine oM (.pointer none) rfl rfl ?_
 refine oV (.bool true) (q_eqlPnil Tryz.underlying82 rfl rfl rfl) rfl ?_
 refine HO.nil (thenQ_normal (?_))
 refine HW.condT rfl ?_
 refine HW.seq ?_
 refine HW.region ?_
 refine oA (.slice none 0 0) rfl rfl ?_
 refine HO.nil (thenQ_normal (?_))
 refine HW.ret (thenQ_ret (?_))
 refine ⟨.inr rfl, .slice none 0 0, res1 rfl (rt rfl), ?_⟩
 replace hS := hS.nilOwn 77 19 e_api_Want
 have hN_2 : NfL nf_api_Want F h0 ([] : List T_api_Want) := NfL.nil _ _ _
 exact ⟨F, [], .slice none 0 0, rfl, hK, hS, hN_2, hM⟩
def proxy_Proxy_Lost_nil0_W (Q : Int → Prop) : Prop :=
 Q 0
theorem proxy_Proxy_Lost_nil0_walk {F : Fz} {fr : List Ow} {h0 : Heap}  (hS : St F (fr) h0)  {Q : Int → Prop} (hM : proxy_Proxy_Lost_nil0_W Q) :
  HC Tryz.prog 37 #[.pointer none] h0 fun u h' => ∃ (F' : Fz) (r_1 : Int), u = .int .i64 r_1 ∧ Kp F h0 F' h' ∧ St F' (fr) h' ∧ Q r_1 := by
 unfold proxy_Proxy_Lost_nil0_W at hM
 have hK := Kp.refl F h0
 refine HC.of_HW (n := 9) Tryz.func37 rfl rfl (Nat.le_of_ble_eq_true rfl) ?_
 refine HW.seq ?_
 refine HW.region ?_
 refine oA (.int .i64 0) rfl rfl ?_
 refine HO.nil (thenQ_normal (?_))
 refine HW.seq ?_
 refine HW.seq ?_
 refine HW.region ?_
 refine oM (.pointer none) rfl rfl ?_
 refine oV (.bool true) (q_eqlPnil Tryz.underlying82 rfl rfl rfl) rfl ?_
 refine HO.nil (thenQ_normal (?_))
 refine HW.condT rfl ?_
 refine HW.seq ?_
 refine HW.region ?_
 refine oA (.int .i64 0) rfl rfl ?_
 refine HO.nil (thenQ_normal (?_))
 refine HW.ret (thenQ_ret (?_))
 refine ⟨.inr rfl, .int .i64 0, res1 rfl (rt rfl), ?_⟩
 exact ⟨F, 0, rfl, hK, hS, hM⟩
def law24_ProxyNil_W (now : Int) (l : List T_api_Want) (q_V6 : Bool) (q_Version : Int) (q_Kind : Int) (q_Resp : Int) (q_Group : T_api_Addr) (q_Quiet : Bool) (q_Robust : Int) (q_Every : Int) (q_Sources : List T_api_Addr) (q_Records : List T_api_Record) (Q : Bool → Prop) : Prop :=
 law24_Wants_W l 4 (fun r_2 => proxy_Proxy_Update_nil0_W now r_2 (fun r_3 => ((r_3.length : Int) = 0 → law18_Usual_W  (fun r_4 => law08_Few_W q_V6 q_Version q_Kind q_Resp q_Group q_Quiet q_Robust q_Every q_Sources q_Records (fun r_0_1 r_1_1 r_2_1 r_3_1 r_4_1 r_5_1 r_21_1 r_22_1 r_23_1 r_24_1 r_25_1 => proxy_Proxy_Hear_nil0_W now r_4 r_0_1 r_1_1 r_2_1 r_3_1 (r_4_1, r_5_1) r_21_1 r_22_1 r_23_1 r_24_1 r_25_1 (fun r_5 => ((r_5.length : Int) = 0 → proxy_Proxy_Wants_nil0_W  (fun r_6 => ((r_6.length : Int) = 0 → proxy_Proxy_Lost_nil0_W  (fun r_7 => (r_7 = 0 → law24_lives_W  (fun r_8 => Q r_8)) ∧ (¬ (r_7 = 0) → Q false))) ∧ (¬ ((r_6.length : Int) = 0) → Q false))) ∧ (¬ ((r_5.length : Int) = 0) → Q false))))) ∧ (¬ ((r_3.length : Int) = 0) → Q false)))
theorem law24_ProxyNil_walk {F : Fz} {fr : List Ow} {h0 : Heap} (now : Int) (l : List T_api_Want) (q_V6 : Bool) (q_Version : Int) (q_Kind : Int) (q_Resp : Int) (q_Group : T_api_Addr) (q_Quiet : Bool) (q_Robust : Int) (q_Every : Int) (q_Sources : List T_api_Addr) (q_Records : List T_api_Record) (vl : Value) (vq_Sources : Value) (vq_Records : Value) (hS : St F (fr) h0) (hN_l : NfL nf_api_Want F h0 l) (hL_l : SliceF F h0 19 e_api_Want vl l) (hL_q_Sources : SliceF F h0 17 e_api_Addr vq_Sources q_Sources) (hN_q_Records : NfL nf_api_Record F h0 q_Records) (hL_q_Records : SliceF F h0 19 e_api_Record vq_Records q_Records) (hD : DM.on = false) {Q : Bool → Prop} (hM : law24_ProxyNil_W now l q_V6 q_Version q_Kind q_Resp q_Group q_Quiet q_Robust q_Every q_Sources q_Records Q) :
  HC Tryz.prog 6 #[.int .i64 now, vl, .agg (c_api_Talk (.bool q_V6) (.int .i64 q_Version) (.int .i64 q_Kind) (.int .i64 q_Resp) q_Group (.bool q_Quiet) (.int .i64 q_Robust) (.int .i64 q_Every) vq_Sources vq_Records).toArray] h0 fun u h' => ∃ (F' : Fz) (r_1 : Bool), u = .bool r_1 ∧ Kp F h0 F' h' ∧ St F' (fr) h' ∧ (NfL nf_api_Want F' h' l) ∧ (SliceF F' h' 19 e_api_Want vl l) ∧ (SliceF F' h' 17 e_api_Addr vq_Sources q_Sources) ∧ (NfL nf_api_Record F' h' q_Records) ∧ (SliceF F' h' 19 e_api_Record vq_Records q_Records) ∧ Q r_1 := by
 unfold law24_ProxyNil_W at hM
 have hK := Kp.refl F h0
 refine HC.of_HW (n := 39) Tryz.func6 rfl rfl (Nat.le_of_ble_eq_true rfl) ?_
 refine HW.seq ?_
 refine HW.region ?_
 refine HO.eff (want_none) rfl (st_box (c := (c_api_Talk (.bool q_V6) (.int .i64 q_Version) (.int .i64 q_Kind) (.int .i64 q_Resp) q_Group (.bool q_Quiet) (.int .i64 q_Robust) (.int .i64 q_Every) vq_Sources vq_Records).toArray) (k' := 26) hS rfl rfl) ?_
 rintro _ h_1 ⟨b_1, rfl, hS, hk⟩
 replace hK := hK.trans hk
 replace hN_l := hN_l.kp hk
 replace hL_l := hL_l.kp hk
 replace hL_q_Sources := hL_q_Sources.kp hk
 replace hN_q_Records := hN_q_Records.kp hk
 replace hL_q_Records := hL_q_Records.kp hk
 refine oA (.bool false) rfl rfl ?_
 refine HO.nil (thenQ_normal (?_))
 refine HW.seq ?_
 refine HW.region ?_
 refine oA (.pointer none) rfl rfl ?_
 refine HO.nil (thenQ_normal (?_))
 refine HW.seq ?_
 refine HW.regionA 32 mixed (fun h => (Blk h b_1 (.cells (c_api_Talk (.bool q_V6) (.int .i64 q_Version) (.int .i64 q_Kind) (.int .i64 q_Resp) q_Group (.bool q_Quiet) (.int .i64 q_Robust) (.int .i64 q_Every) vq_Sources vq_Records).toArray 31 (0, 0)))) [] (by kernel_rfl) ?_
 refine HA.val (k := 0) (v := .pointer none) rfl rfl (by kernel_rfl) (by kernel_rfl) (want_none) rfl (fun _ c201 => q_move rfl) ?_
 refine HA.val (k := 1) (v := .int .i64 now) rfl rfl (by kernel_rfl) (by kernel_rfl) (want_none) rfl (fun _ c201 => q_move rfl) ?_
 refine HA.val (k := 2) (v := vl) rfl rfl (by kernel_rfl) (by kernel_rfl) (want_none) rfl (fun _ c201 => q_move rfl) ?_
 refine HA.one (k := 3) ⟨(hS.box 0 rfl), (Go.Wk.at_nil _ _)⟩ (by kernel_rfl) ?_
 refine HS.call rfl (want_none) rfl (ec en_27 rfl rfl) (law24_Wants_walk (fr := (Ow.box b_1 31 (c_api_Talk (.bool q_V6) (.int .i64 q_Version) (.int .i64 q_Kind) (.int .i64 q_Resp) q_Group (.bool q_Quiet) (.int .i64 q_Robust) (.int .i64 q_Every) vq_Sources vq_Records).toArray :: fr)) l 4 vl hS hN_l hL_l hM) ?_
 rintro vr_1 h_2 ⟨F_1, r_2, _, rfl, hk, hS, _, _, hL_1, hM⟩
 replace hK := hK.trans hk
 replace hN_l := hN_l.kp hk
 replace hL_l := hL_l.kp hk
 replace hL_q_Sources := hL_q_Sources.kp hk
 replace hN_q_Records := hN_q_Records.kp hk
 replace hL_q_Records := hL_q_Records.kp hk
 refine HA.one (k := 4) ⟨(hS.box 1 rfl), (Go.Wk.at_nil _ _)⟩ (by kernel_rfl) ?_
 obtain ⟨F_2, hS, hk, hL_2⟩ := hS.freezeOwn
 replace hK := hK.trans hk
 replace hN_l := hN_l.kp hk
 replace hL_l := hL_l.kp hk
 replace hL_q_Sources := hL_q_Sources.kp hk
 replace hN_q_Records := hN_q_Records.kp hk
 replace hL_q_Records := hL_q_Records.kp hk
 replace hL_1 := hL_1.kp hk
 refine HS.call rfl (want_none) rfl (ec en_33 rfl rfl) (proxy_Proxy_Update_nil0_walk (fr := (Ow.box b_1 31 (c_api_Talk (.bool q_V6) (.int .i64 q_Version) (.int .i64 q_Kind) (.int .i64 q_Resp) q_Group (.bool q_Quiet) (.int .i64 q_Robust) (.int .i64 q_Every) vq_Sources vq_Records).toArray :: fr)) now r_2 vr_1 hS hL_1 hL_2 hM) ?_
 rintro vr_2 h_3 ⟨F_3, r_3, _, rfl, hk, hS, _, _, hL_3, hM⟩
 replace hK := hK.trans hk
 replace hN_l := hN_l.kp hk
 replace hL_l := hL_l.kp hk
 replace hL_q_Sources := hL_q_Sources.kp hk
 replace hN_q_Records := hN_q_Records.kp hk
 replace hL_q_Records := hL_q_Records.kp hk
 refine Go.Wk.HA.re (fun h => (OwnIs h 0 31 26 e_api_Talk vr_2 r_3) ∧ (Blk h b_1 (.cells (c_api_Talk (.bool q_V6) (.int .i64 q_Version) (.int .i64 q_Kind) (.int .i64 q_Resp) q_Group (.bool q_Quiet) (.int .i64 q_Robust) (.int .i64 q_Every) vq_Sources vq_Records).toArray 31 (0, 0)))) [] (fun L_ h_ hL_ ⟨c226, c201⟩ hs_ => ⟨c201, (Go.Wk.at_nil _ _)⟩) ?_
 refine HA.val (k := 5) (v := .int .i64 (r_3.length : Int)) rfl rfl (by kernel_rfl) (by kernel_rfl) (want_none) rfl (fun _ ⟨c226, c201⟩ => q_len ts_33 (shp c226.slice) rfl rfl) ?_
 refine HA.val (k := 6) (v := .bool (decide ((r_3.length : Int) = 0))) rfl rfl (by kernel_rfl) (by kernel_rfl) (want_none) rfl (fun _ ⟨c226, c201⟩ => q_eql rfl rfl) ?_
 refine HA.val (k := 7) (v := .bool (decide ((r_3.length : Int) = 0))) rfl rfl (by kernel_rfl) (by kernel_rfl) (want_none) rfl (fun _ ⟨c226, c201⟩ => q_move rfl) ?_
 rcases Bool.eq_false_or_eq_true (decide ((r_3.length : Int) = 0)) with c_1 | c_1
 ·
  replace hM := hM.1 (of_decide_eq_true c_1)
  refine HA.val (k := 8) (v := .pointer none) rfl rfl (by kernel_rfl) (by kernel_rfl) (want_by rfl rfl c_1) rfl (fun _ ⟨c226, c201⟩ => q_move rfl) ?_
  refine HA.val (k := 9) (v := .int .i64 now) rfl rfl (by kernel_rfl) (by kernel_rfl) (want_by rfl rfl c_1) rfl (fun _ ⟨c226, c201⟩ => q_move rfl) ?_
  refine HA.val (k := 11) (v := .agg (c_api_Talk (.bool q_V6) (.int .i64 q_Version) (.int .i64 q_Kind) (.int .i64 q_Resp) q_Group (.bool q_Quiet) (.int .i64 q_Robust) (.int .i64 q_Every) vq_Sources vq_Records).toArray) rfl rfl (by kernel_rfl) (by kernel_rfl) (want_by rfl rfl c_1) rfl (fun _ ⟨c226, c201⟩ => q_loadAgg (cs := (c_api_Talk (.bool q_V6) (.int .i64 q_Version) (.int .i64 q_Kind) (.int .i64 q_Resp) q_Group (.bool q_Quiet) (.int .i64 q_Robust) (.int .i64 q_Every) vq_Sources vq_Records)) ta_31 rfl rfl (Blk.cells (k := 26) c201 rfl)) ?_
  refine HA.one (k := 10) ⟨⟨(hS.own 0 rfl), (hS.box 1 rfl)⟩, (Go.Wk.at_nil _ _)⟩ (by kernel_rfl) ?_
  refine HS.call rfl (want_by rfl rfl c_1) rfl (ec en_20 rfl rfl) (law18_Usual_walk (fr := (Ow.own 31 26 e_api_Talk vr_2 r_3 :: Ow.box b_1 31 (c_api_Talk (.bool q_V6) (.int .i64 q_Version) (.int .i64 q_Kind) (.int .i64 q_Resp) q_Group (.bool q_Quiet) (.int .i64 q_Robust) (.int .i64 q_Every) vq_Sources vq_Records).toArray :: fr))  hS hM) ?_
  rintro _ h_4 ⟨F_4, r_4, rfl, hk, hS, hM⟩
  replace hK := hK.trans hk
  replace hN_l := hN_l.kp hk
  replace hL_l := hL_l.kp hk
  replace hL_q_Sources := hL_q_Sources.kp hk
  replace hN_q_Records := hN_q_Records.kp hk
  replace hL_q_Records := hL_q_Records.kp hk
  refine HA.one (k := 12) ⟨⟨(hS.own 0 rfl), (hS.box 1 rfl)⟩, (Go.Wk.at_nil _ _)⟩ (by kernel_rfl) ?_
  refine HS.call rfl (want_by rfl rfl c_1) rfl (ec en_35 rfl rfl) (law08_Few_walk (fr := (Ow.own 31 26 e_api_Talk vr_2 r_3 :: Ow.box b_1 31 (c_api_Talk (.bool q_V6) (.int .i64 q_Version) (.int .i64 q_Kind) (.int .i64 q_Resp) q_Group (.bool q_Quiet) (.int .i64 q_Robust) (.int .i64 q_Every) vq_Sources vq_Records).toArray :: fr)) q_V6 q_Version q_Kind q_Resp q_Group q_Quiet q_Robust q_Every q_Sources q_Records vq_Sources vq_Records hS hL_q_Sources hN_q_Records hL_q_Records hM) ?_
  rintro _ h_5 ⟨F_5, r_0_1, r_1_1, r_2_1, r_3_1, r_4_1, r_5_1, r_21_1, r_22_1, r_23_1, r_24_1, r_25_1, vr_24_1, vr_25_1, rfl, hk, hS, _, _, _, hL_4, hM⟩
  replace hK := hK.trans hk
  replace hN_l := hN_l.kp hk
  replace hL_l := hL_l.kp hk
  replace hL_q_Sources := hL_q_Sources.kp hk
  replace hN_q_Records := hN_q_Records.kp hk
  replace hL_q_Records := hL_q_Records.kp hk
  refine HA.one (k := 13) ⟨⟨(hS.own 2 rfl), (hS.box 3 rfl)⟩, (Go.Wk.at_nil _ _)⟩ (by kernel_rfl) ?_
  obtain ⟨F_6, hS, hk, hL_5⟩ := hS.freezeOwn
  replace hK := hK.trans hk
  replace hN_l := hN_l.kp hk
  replace hL_l := hL_l.kp hk
  replace hL_q_Sources := hL_q_Sources.kp hk
  replace hN_q_Records := hN_q_Records.kp hk
  replace hL_q_Records := hL_q_Records.kp hk
  replace hL_4 := hL_4.kp hk
  obtain ⟨F_7, hS, hk, hL_6⟩ := hS.freezeOwn
  replace hK := hK.trans hk
  replace hN_l := hN_l.kp hk
  replace hL_l := hL_l.kp hk
  replace hL_q_Sources := hL_q_Sources.kp hk
  replace hN_q_Records := hN_q_Records.kp hk
  replace hL_q_Records := hL_q_Records.kp hk
  replace hL_4 := hL_4.kp hk
  replace hL_5 := hL_5.kp hk
  refine HS.call rfl (want_by rfl rfl c_1) rfl (ec en_34 rfl rfl) (proxy_Proxy_Hear_nil0_walk (fr := (Ow.own 31 26 e_api_Talk vr_2 r_3 :: Ow.box b_1 31 (c_api_Talk (.bool q_V6) (.int .i64 q_Version) (.int .i64 q_Kind) (.int .i64 q_Resp) q_Group (.bool q_Quiet) (.int .i64 q_Robust) (.int .i64 q_Every) vq_Sources vq_Records).toArray :: fr)) now r_4 r_0_1 r_1_1 r_2_1 r_3_1 (r_4_1, r_5_1) r_21_1 r_22_1 r_23_1 r_24_1 r_25_1 vr_24_1 vr_25_1 hS hL_5 hL_4 hL_6 hM) ?_
  rintro vr_3 h_6 ⟨F_8, r_5, _, rfl, hk, hS, _, _, _, hL_7, hM⟩
  replace hK := hK.trans hk
  replace hN_l := hN_l.kp hk
  replace hL_l := hL_l.kp hk
  replace hL_q_Sources := hL_q_Sources.kp hk
  replace hN_q_Records := hN_q_Records.kp hk
  replace hL_q_Records := hL_q_Records.kp hk
  refine Go.Wk.HA.re (fun h => (OwnIs h 0 31 26 e_api_Talk vr_3 r_5) ∧ (OwnIs h 0 31 26 e_api_Talk vr_2 r_3) ∧ (Blk h b_1 (.cells (c_api_Talk (.bool q_V6) (.int .i64 q_Version) (.int .i64 q_Kind) (.int .i64 q_Resp) q_Group (.bool q_Quiet) (.int .i64 q_Robust) (.int .i64 q_Every) vq_Sources vq_Records).toArray 31 (0, 0)))) [] (fun L_ h_ hL_ ⟨c280, c226, c201⟩ hs_ => ⟨⟨c226, c201⟩, (Go.Wk.at_nil _ _)⟩) ?_
  refine HA.val (k := 14) (v := .int .i64 (r_5.length : Int)) rfl rfl (by kernel_rfl) (by kernel_rfl) (want_by rfl rfl c_1) rfl (fun _ ⟨c280, c226, c201⟩ => q_len ts_33 (shp c280.slice) rfl rfl) ?_
  refine HA.val (k := 15) (v := .bool (decide ((r_5.length : Int) = 0))) rfl rfl (by kernel_rfl) (by kernel_rfl) (want_by rfl rfl c_1) rfl (fun _ ⟨c280, c226, c201⟩ => q_eql rfl rfl) ?_
  refine HA.val (k := 16) (v := .bool (decide ((r_5.length : Int) = 0))) rfl rfl (by kernel_rfl) (by kernel_rfl) (want_none) rfl (fun _ ⟨c280, c226, c201⟩ => q_pickK true rfl c_1 rfl) ?_
  refine HA.val (k := 17) (v := .bool (decide ((r_5.length : Int) = 0))) rfl rfl (by kernel_rfl) (by kernel_rfl) (want_none) rfl (fun _ ⟨c280, c226, c201⟩ => q_move rfl) ?_
  rcases Bool.eq_false_or_eq_true (decide ((r_5.length : Int) = 0)) with c_2 | c_2
  ·
   replace hM := hM.1 (of_decide_eq_true c_2)
   refine HA.val (k := 18) (v := .pointer none) rfl rfl (by kernel_rfl) (by kernel_rfl) (want_by rfl rfl c_2) rfl (fun _ ⟨c280, c226, c201⟩ => q_move rfl) ?_
   refine HA.one (k := 19) ⟨⟨(hS.own 0 rfl), (hS.own 1 rfl), (hS.box 2 rfl)⟩, (Go.Wk.at_nil _ _)⟩ (by kernel_rfl) ?_
   refine HS.call rfl (want_by rfl rfl c_2) rfl (ec en_36 rfl rfl) (proxy_Proxy_Wants_nil0_walk (fr := (Ow.own 31 26 e_api_Talk vr_3 r_5 :: Ow.own 31 26 e_api_Talk vr_2 r_3 :: Ow.box b_1 31 (c_api_Talk (.bool q_V6) (.int .i64 q_Version) (.int .i64 q_Kind) (.int .i64 q_Resp) q_Group (.bool q_Quiet) (.int .i64 q_Robust) (.int .i64 q_Every) vq_Sources vq_Records).toArray :: fr))  hS hM) ?_
   rintro vr_4 h_7 ⟨F_9, r_6, _, rfl, hk, hS, hL_8, hM⟩
   replace hK := hK.trans hk
   replace hN_l := hN_l.kp hk
   replace hL_l := hL_l.kp hk
   replace hL_q_Sources := hL_q_Sources.kp hk
   replace hN_q_Records := hN_q_Records.kp hk
   replace hL_q_Records := hL_q_Records.kp hk
   refine Go.Wk.HA.re (fun h => (OwnIs h 0 77 19 e_api_Want vr_4 r_6) ∧ (OwnIs h 0 31 26 e_api_Talk vr_3 r_5) ∧ (OwnIs h 0 31 26 e_api_Talk vr_2 r_3) ∧ (Blk h b_1 (.cells (c_api_Talk (.bool q_V6) (.int .i64 q_Version) (.int .i64 q_Kind) (.int .i64 q_Resp) q_Group (.bool q_Quiet) (.int .i64 q_Robust) (.int .i64 q_Every) vq_Sources vq_Records).toArray 31 (0, 0)))) [] (fun L_ h_ hL_ ⟨c316, c280, c226, c201⟩ hs_ => ⟨⟨c280, c226, c201⟩, (Go.Wk.at_nil _ _)⟩) ?_
   refine HA.val (k := 20) (v := .int .i64 (r_6.length : Int)) rfl rfl (by kernel_rfl) (by kernel_rfl) (want_by rfl rfl c_2) rfl (fun _ ⟨c316, c280, c226, c201⟩ => q_len ts_71 (shp c316.slice) rfl rfl) ?_
   refine HA.val (k := 21) (v := .bool (decide ((r_6.length : Int) = 0))) rfl rfl (by kernel_rfl) (by kernel_rfl) (want_by rfl rfl c_2) rfl (fun _ ⟨c316, c280, c226, c201⟩ => q_eql rfl rfl) ?_
   refine HA.val (k := 22) (v := .bool (decide ((r_6.length : Int) = 0))) rfl rfl (by kernel_rfl) (by kernel_rfl) (want_none) rfl (fun _ ⟨c316, c280, c226, c201⟩ => q_pickK true rfl c_2 rfl) ?_
   refine HA.val (k := 23) (v := .bool (decide ((r_6.length : Int) = 0))) rfl rfl (by kernel_rfl) (by kernel_rfl) (want_none) rfl (fun _ ⟨c316, c280, c226, c201⟩ => q_move rfl) ?_
   rcases Bool.eq_false_or_eq_true (decide ((r_6.length : Int) = 0)) with c_3 | c_3
   ·
    replace hM := hM.1 (of_decide_eq_true c_3)
    refine HA.val (k := 24) (v := .pointer none) rfl rfl (by kernel_rfl) (by kernel_rfl) (want_by rfl rfl c_3) rfl (fun _ ⟨c316, c280, c226, c201⟩ => q_move rfl) ?_
    refine HA.one (k := 25) ⟨⟨(hS.own 0 rfl), (hS.own 1 rfl), (hS.own 2 rfl), (hS.box 3 rfl)⟩, (Go.Wk.at_nil _ _)⟩ (by kernel_rfl) ?_
    refine HS.call rfl (want_by rfl rfl c_3) rfl (ec en_37 rfl rfl) (proxy_Proxy_Lost_nil0_walk (fr := (Ow.own 77 19 e_api_Want vr_4 r_6 :: Ow.own 31 26 e_api_Talk vr_3 r_5 :: Ow.own 31 26 e_api_Talk vr_2 r_3 :: Ow.box b_1 31 (c_api_Talk (.bool q_V6) (.int .i64 q_Version) (.int .i64 q_Kind) (.int .i64 q_Resp) q_Group (.bool q_Quiet) (.int .i64 q_Robust) (.int .i64 q_Every) vq_Sources vq_Records).toArray :: fr))  hS hM) ?_
    rintro _ h_8 ⟨F_10, r_7, rfl, hk, hS, hM⟩
    replace hK := hK.trans hk
    replace hN_l := hN_l.kp hk
    replace hL_l := hL_l.kp hk
    replace hL_q_Sources := hL_q_Sources.kp hk
    replace hN_q_Records := hN_q_Records.kp hk
    replace hL_q_Records := hL_q_Records.kp hk
    refine HA.val (k := 26) (v := .bool (decide (r_7 = 0))) rfl rfl (by kernel_rfl) (by kernel_rfl) (want_by rfl rfl c_3) rfl (fun _ ⟨c316, c280, c226, c201⟩ => q_eql rfl rfl) ?_
    refine HA.val (k := 27) (v := .bool (decide (r_7 = 0))) rfl rfl (by kernel_rfl) (by kernel_rfl) (want_none) rfl (fun _ ⟨c316, c280, c226, c201⟩ => q_pickK true rfl c_3 rfl) ?_
    refine HA.val (k := 28) (v := .bool (decide (r_7 = 0))) rfl rfl (by kernel_rfl) (by kernel_rfl) (want_none) rfl (fun _ ⟨c316, c280, c226, c201⟩ => q_move rfl) ?_
    rcases Bool.eq_false_or_eq_true (decide (r_7 = 0)) with c_4 | c_4
    ·
     replace hM := hM.1 (of_decide_eq_true c_4)
     refine HA.one (k := 29) ⟨⟨(hS.own 0 rfl), (hS.own 1 rfl), (hS.own 2 rfl), (hS.box 3 rfl)⟩, (Go.Wk.at_nil _ _)⟩ (by kernel_rfl) ?_
     refine HS.call rfl (want_by rfl rfl c_4) rfl (ec en_32 rfl rfl) (law24_lives_walk (fr := (Ow.own 77 19 e_api_Want vr_4 r_6 :: Ow.own 31 26 e_api_Talk vr_3 r_5 :: Ow.own 31 26 e_api_Talk vr_2 r_3 :: Ow.box b_1 31 (c_api_Talk (.bool q_V6) (.int .i64 q_Version) (.int .i64 q_Kind) (.int .i64 q_Resp) q_Group (.bool q_Quiet) (.int .i64 q_Robust) (.int .i64 q_Every) vq_Sources vq_Records).toArray :: fr))  hS hD hM) ?_
     rintro _ h_9 ⟨F_11, r_8, rfl, hk, hS, hM⟩
     replace hK := hK.trans hk
     replace hN_l := hN_l.kp hk
     replace hL_l := hL_l.kp hk
     replace hL_q_Sources := hL_q_Sources.kp hk
     replace hN_q_Records := hN_q_Records.kp hk
     replace hL_q_Records := hL_q_Records.kp hk
     refine HA.val (k := 30) (v := .bool r_8) rfl rfl (by kernel_rfl) (by kernel_rfl) (want_none) rfl (fun _ ⟨c316, c280, c226, c201⟩ => q_pickK true rfl c_4 rfl) ?_
     refine HA.val (k := 31) (v := .bool r_8) rfl rfl (by kernel_rfl) (by kernel_rfl) (want_none) rfl (fun _ ⟨c316, c280, c226, c201⟩ => q_assign rfl) ?_
     refine HA.nil ⟨⟨(hS.own 0 rfl), (hS.own 1 rfl), (hS.own 2 rfl), (hS.box 3 rfl)⟩, (Go.Wk.at_nil _ _)⟩ (by kernel_rfl) (thenQ_normal (?_))
     refine HW.ret (?_)
     refine ⟨.inr rfl, .bool r_8, res1 rfl (rt rfl), ?_⟩
     replace hS : St F_11 (fr) h_9 := hS.perm2 [] 4 rfl rfl
     exact ⟨F_11, r_8, rfl, hK, hS, hN_l, hL_l, hL_q_Sources, hN_q_Records, hL_q_Records, hM⟩
    ·
     replace hM := hM.2 (of_decide_eq_false c_4)
     refine HA.one (k := 29) ⟨⟨(hS.own 0 rfl), (hS.own 1 rfl), (hS.own 2 rfl), (hS.box 3 rfl)⟩, (Go.Wk.at_nil _ _)⟩ (by kernel_rfl) ?_
     refine HS.past rfl (past_by rfl rfl c_4) rfl ?_
     refine HA.val (k := 30) (v := .bool false) rfl rfl (by kernel_rfl) (by kernel_rfl) (want_none) rfl (fun _ ⟨c316, c280, c226, c201⟩ => q_pickK false rfl c_4 rfl) ?_
     refine HA.val (k := 31) (v := .bool false) rfl rfl (by kernel_rfl) (by kernel_rfl) (want_none) rfl (fun _ ⟨c316, c280, c226, c201⟩ => q_assign rfl) ?_
     refine HA.nil ⟨⟨(hS.own 0 rfl), (hS.own 1 rfl), (hS.own 2 rfl), (hS.box 3 rfl)⟩, (Go.Wk.at_nil _ _)⟩ (by kernel_rfl) (thenQ_normal (?_))
     refine HW.ret (?_)
     refine ⟨.inr rfl, .bool false, res1 rfl (rt rfl), ?_⟩
     replace hS : St F_10 (fr) h_8 := hS.perm2 [] 4 rfl rfl
     exact ⟨F_10, false, rfl, hK, hS, hN_l, hL_l, hL_q_Sources, hN_q_Records, hL_q_Records, hM⟩
   ·
    replace hM := hM.2 (of_decide_eq_false c_3)
    refine HA.past (k := 24) rfl rfl (by kernel_rfl) (by kernel_rfl) (past_by rfl rfl c_3) rfl ?_
    refine HA.one (k := 25) ⟨⟨(hS.own 0 rfl), (hS.own 1 rfl), (hS.own 2 rfl), (hS.box 3 rfl)⟩, (Go.Wk.at_nil _ _)⟩ (by kernel_rfl) ?_
    refine HS.past rfl (past_by rfl rfl c_3) rfl ?_
    refine HA.past (k := 26) rfl rfl (by kernel_rfl) (by kernel_rfl) (past_by rfl rfl c_3) rfl ?_
    refine HA.val (k := 27) (v := .bool false) rfl rfl (by kernel_rfl) (by kernel_rfl) (want_none) rfl (fun _ ⟨c316, c280, c226, c201⟩ => q_pickK false rfl c_3 rfl) ?_
    refine HA.val (k := 28) (v := .bool false) rfl rfl (by kernel_rfl) (by kernel_rfl) (want_none) rfl (fun _ ⟨c316, c280, c226, c201⟩ => q_move rfl) ?_
    refine HA.one (k := 29) ⟨⟨(hS.own 0 rfl), (hS.own 1 rfl), (hS.own 2 rfl), (hS.box 3 rfl)⟩, (Go.Wk.at_nil _ _)⟩ (by kernel_rfl) ?_
    refine HS.past rfl (past_some rfl rfl) rfl ?_
    refine HA.val (k := 30) (v := .bool false) rfl rfl (by kernel_rfl) (by kernel_rfl) (want_none) rfl (fun _ ⟨c316, c280, c226, c201⟩ => q_pick rfl rfl) ?_
    refine HA.val (k := 31) (v := .bool false) rfl rfl (by kernel_rfl) (by kernel_rfl) (want_none) rfl (fun _ ⟨c316, c280, c226, c201⟩ => q_assign rfl) ?_
    refine HA.nil ⟨⟨(hS.own 0 rfl), (hS.own 1 rfl), (hS.own 2 rfl), (hS.box 3 rfl)⟩, (Go.Wk.at_nil _ _)⟩ (by kernel_rfl) (thenQ_normal (?_))
    refine HW.ret (?_)
    refine ⟨.inr rfl, .bool false, res1 rfl (rt rfl), ?_⟩
    replace hS : St F_9 (fr) h_7 := hS.perm2 [] 4 rfl rfl
    exact ⟨F_9, false, rfl, hK, hS, hN_l, hL_l, hL_q_Sources, hN_q_Records, hL_q_Records, hM⟩
  ·
   replace hM := hM.2 (of_decide_eq_false c_2)
   refine HA.past (k := 18) rfl rfl (by kernel_rfl) (by kernel_rfl) (past_by rfl rfl c_2) rfl ?_
   refine HA.one (k := 19) ⟨⟨(hS.own 0 rfl), (hS.own 1 rfl), (hS.box 2 rfl)⟩, (Go.Wk.at_nil _ _)⟩ (by kernel_rfl) ?_
   refine HS.past rfl (past_by rfl rfl c_2) rfl ?_
   refine HA.past (k := 20) rfl rfl (by kernel_rfl) (by kernel_rfl) (past_by rfl rfl c_2) rfl ?_
   refine HA.past (k := 21) rfl rfl (by kernel_rfl) (by kernel_rfl) (past_by rfl rfl c_2) rfl ?_
   refine HA.val (k := 22) (v := .bool false) rfl rfl (by kernel_rfl) (by kernel_rfl) (want_none) rfl (fun _ ⟨c280, c226, c201⟩ => q_pickK false rfl c_2 rfl) ?_
   refine HA.val (k := 23) (v := .bool false) rfl rfl (by kernel_rfl) (by kernel_rfl) (want_none) rfl (fun _ ⟨c280, c226, c201⟩ => q_move rfl) ?_
   refine HA.past (k := 24) rfl rfl (by kernel_rfl) (by kernel_rfl) (past_some rfl rfl) rfl ?_
   refine HA.one (k := 25) ⟨⟨(hS.own 0 rfl), (hS.own 1 rfl), (hS.box 2 rfl)⟩, (Go.Wk.at_nil _ _)⟩ (by kernel_rfl) ?_
   refine HS.past rfl (past_some rfl rfl) rfl ?_
   refine HA.past (k := 26) rfl rfl (by kernel_rfl) (by kernel_rfl) (past_some rfl rfl) rfl ?_
   refine HA.val (k := 27) (v := .bool false) rfl rfl (by kernel_rfl) (by kernel_rfl) (want_none) rfl (fun _ ⟨c280, c226, c201⟩ => q_pick rfl rfl) ?_
   refine HA.val (k := 28) (v := .bool false) rfl rfl (by kernel_rfl) (by kernel_rfl) (want_none) rfl (fun _ ⟨c280, c226, c201⟩ => q_move rfl) ?_
   refine HA.one (k := 29) ⟨⟨(hS.own 0 rfl), (hS.own 1 rfl), (hS.box 2 rfl)⟩, (Go.Wk.at_nil _ _)⟩ (by kernel_rfl) ?_
   refine HS.past rfl (past_some rfl rfl) rfl ?_
   refine HA.val (k := 30) (v := .bool false) rfl rfl (by kernel_rfl) (by kernel_rfl) (want_none) rfl (fun _ ⟨c280, c226, c201⟩ => q_pick rfl rfl) ?_
   refine HA.val (k := 31) (v := .bool false) rfl rfl (by kernel_rfl) (by kernel_rfl) (want_none) rfl (fun _ ⟨c280, c226, c201⟩ => q_assign rfl) ?_
   refine HA.nil ⟨⟨(hS.own 0 rfl), (hS.own 1 rfl), (hS.box 2 rfl)⟩, (Go.Wk.at_nil _ _)⟩ (by kernel_rfl) (thenQ_normal (?_))
   refine HW.ret (?_)
   refine ⟨.inr rfl, .bool false, res1 rfl (rt rfl), ?_⟩
   replace hS : St F_8 (fr) h_6 := hS.perm2 [] 3 rfl rfl
   exact ⟨F_8, false, rfl, hK, hS, hN_l, hL_l, hL_q_Sources, hN_q_Records, hL_q_Records, hM⟩
 ·
  replace hM := hM.2 (of_decide_eq_false c_1)
  refine HA.past (k := 8) rfl rfl (by kernel_rfl) (by kernel_rfl) (past_by rfl rfl c_1) rfl ?_
  refine HA.past (k := 9) rfl rfl (by kernel_rfl) (by kernel_rfl) (past_by rfl rfl c_1) rfl ?_
  refine HA.past (k := 11) rfl rfl (by kernel_rfl) (by kernel_rfl) (past_by rfl rfl c_1) rfl ?_
  refine HA.one (k := 10) ⟨⟨(hS.own 0 rfl), (hS.box 1 rfl)⟩, (Go.Wk.at_nil _ _)⟩ (by kernel_rfl) ?_
  refine HS.past rfl (past_by rfl rfl c_1) rfl ?_
  refine HA.one (k := 12) ⟨⟨(hS.own 0 rfl), (hS.box 1 rfl)⟩, (Go.Wk.at_nil _ _)⟩ (by kernel_rfl) ?_
  refine HS.past rfl (past_by rfl rfl c_1) rfl ?_
  refine HA.one (k := 13) ⟨⟨(hS.own 0 rfl), (hS.box 1 rfl)⟩, (Go.Wk.at_nil _ _)⟩ (by kernel_rfl) ?_
  refine HS.past rfl (past_by rfl rfl c_1) rfl ?_
  refine HA.past (k := 14) rfl rfl (by kernel_rfl) (by kernel_rfl) (past_by rfl rfl c_1) rfl ?_
  refine HA.past (k := 15) rfl rfl (by kernel_rfl) (by kernel_rfl) (past_by rfl rfl c_1) rfl ?_
  refine HA.val (k := 16) (v := .bool false) rfl rfl (by kernel_rfl) (by kernel_rfl) (want_none) rfl (fun _ ⟨c226, c201⟩ => q_pickK false rfl c_1 rfl) ?_
  refine HA.val (k := 17) (v := .bool false) rfl rfl (by kernel_rfl) (by kernel_rfl) (want_none) rfl (fun _ ⟨c226, c201⟩ => q_move rfl) ?_
  refine HA.past (k := 18) rfl rfl (by kernel_rfl) (by kernel_rfl) (past_some rfl rfl) rfl ?_
  refine HA.one (k := 19) ⟨⟨(hS.own 0 rfl), (hS.box 1 rfl)⟩, (Go.Wk.at_nil _ _)⟩ (by kernel_rfl) ?_
  refine HS.past rfl (past_some rfl rfl) rfl ?_
  refine HA.past (k := 20) rfl rfl (by kernel_rfl) (by kernel_rfl) (past_some rfl rfl) rfl ?_
  refine HA.past (k := 21) rfl rfl (by kernel_rfl) (by kernel_rfl) (past_some rfl rfl) rfl ?_
  refine HA.val (k := 22) (v := .bool false) rfl rfl (by kernel_rfl) (by kernel_rfl) (want_none) rfl (fun _ ⟨c226, c201⟩ => q_pick rfl rfl) ?_
  refine HA.val (k := 23) (v := .bool false) rfl rfl (by kernel_rfl) (by kernel_rfl) (want_none) rfl (fun _ ⟨c226, c201⟩ => q_move rfl) ?_
  refine HA.past (k := 24) rfl rfl (by kernel_rfl) (by kernel_rfl) (past_some rfl rfl) rfl ?_
  refine HA.one (k := 25) ⟨⟨(hS.own 0 rfl), (hS.box 1 rfl)⟩, (Go.Wk.at_nil _ _)⟩ (by kernel_rfl) ?_
  refine HS.past rfl (past_some rfl rfl) rfl ?_
  refine HA.past (k := 26) rfl rfl (by kernel_rfl) (by kernel_rfl) (past_some rfl rfl) rfl ?_
  refine HA.val (k := 27) (v := .bool false) rfl rfl (by kernel_rfl) (by kernel_rfl) (want_none) rfl (fun _ ⟨c226, c201⟩ => q_pick rfl rfl) ?_
  refine HA.val (k := 28) (v := .bool false) rfl rfl (by kernel_rfl) (by kernel_rfl) (want_none) rfl (fun _ ⟨c226, c201⟩ => q_move rfl) ?_
  refine HA.one (k := 29) ⟨⟨(hS.own 0 rfl), (hS.box 1 rfl)⟩, (Go.Wk.at_nil _ _)⟩ (by kernel_rfl) ?_
  refine HS.past rfl (past_some rfl rfl) rfl ?_
  refine HA.val (k := 30) (v := .bool false) rfl rfl (by kernel_rfl) (by kernel_rfl) (want_none) rfl (fun _ ⟨c226, c201⟩ => q_pick rfl rfl) ?_
  refine HA.val (k := 31) (v := .bool false) rfl rfl (by kernel_rfl) (by kernel_rfl) (want_none) rfl (fun _ ⟨c226, c201⟩ => q_assign rfl) ?_
  refine HA.nil ⟨⟨(hS.own 0 rfl), (hS.box 1 rfl)⟩, (Go.Wk.at_nil _ _)⟩ (by kernel_rfl) (thenQ_normal (?_))
  refine HW.ret (?_)
  refine ⟨.inr rfl, .bool false, res1 rfl (rt rfl), ?_⟩
  replace hS : St F_3 (fr) h_3 := hS.perm2 [] 2 rfl rfl
  exact ⟨F_3, false, rfl, hK, hS, hN_l, hL_l, hL_q_Sources, hN_q_Records, hL_q_Records, hM⟩
def ref03_Own_l1 (a : T_api_Addr) (Q : T_api_Addr → Prop) (K_1 : (Ba 16) → Int → Prop) (a_1_1 : Ba 16) (i_1 : Int) : Prop :=
 (i_1 < 16 → ((!a.1) = true → ((0 : Int) ≤ i_1 ∧ i_1 < 16) ∧ ((I64 (i_1 + 1)) ∧ (K_1 (setB a_1_1 i_1 0) (i_1 + 1)))) ∧ ((!a.1) = false → (I64 (i_1 + 1)) ∧ (K_1 a_1_1 (i_1 + 1)))) ∧ (¬ (i_1 < 16) → Q (a.1, a_1_1))
def ref03_Own_W (a : T_api_Addr) (Q : T_api_Addr → Prop) : Prop :=
 loopW (fun (K_1 : (Ba 16 × Int) → Prop) (s : Ba 16 × Int) => ref03_Own_l1 a Q (fun a_1_1 i_1 => K_1 (a_1_1, i_1)) s.1 s.2) (a.2, 4)
theorem ref03_Own_walk {F : Fz} {fr : List Ow} {h0 : Heap} (a : T_api_Addr) (hS : St F (fr) h0)  {Q : T_api_Addr → Prop} (hM : ref03_Own_W a Q) :
  HC Tryz.prog 28 #[.agg (e_api_Addr a).toArray] h0 fun u h' => ∃ (F' : Fz) (r_1 : T_api_Addr), u = .agg (e_api_Addr r_1).toArray ∧ Kp F h0 F' h' ∧ St F' (fr) h' ∧ Q r_1 := by
 unfold ref03_Own_W at hM
 have hK := Kp.refl F h0
 refine HC.of_HW (n := 15) Tryz.func28 rfl rfl (Nat.le_of_ble_eq_true rfl) ?_
 refine HW.seq ?_
 refine HW.region ?_
 refine HO.eff (want_none) rfl (st_box (c := (e_api_Addr a).toArray) (k' := 17) hS rfl rfl) ?_
 rintro _ h_1 ⟨b_1, rfl, hS, hk⟩
 replace hK := hK.trans hk
 refine HO.eff (want_none) rfl (st_alloc (c := (e_api_Addr (false, (default : Ba 16))).toArray) hS tz_28 rfl) ?_
 rintro _ h_2 ⟨b_2, rfl, hS, hk⟩
 replace hK := hK.trans hk
 refine HO.nil (thenQ_normal (?_))
 refine HW.seq ?_
 refine HW.seq ?_
 refine HW.region ?_
 refine oA (.int .i64 4) rfl rfl ?_
 refine HO.nil (thenQ_normal (?_))
 refine HW.block ?_
 obtain ⟨I_1, m_1, hI_1, hR_1⟩ := hM
 replace hS : St F (Ow.box b_1 28 (e_api_Addr a).toArray :: Ow.box b_2 28 (e_api_Addr (false, (default : Ba 16))).toArray :: fr) h_2 := hS.perm2 [1, 0] 2 rfl rfl
 refine HW.loop (S := Ba 16 × Int) (fun s f h => match s with | (a_1_1, i_1) => ∃ (F' : Fz), f 1 = .pointer (some ⟨b_1, 0, none⟩) ∧ f 2 = .pointer (some ⟨b_2, 0, none⟩) ∧ f 3 = .int .i64 i_1 ∧ Kp F h0 F' h ∧ St F' (Ow.box b_1 28 (e_api_Addr (a.1, a_1_1)).toArray :: Ow.box b_2 28 (e_api_Addr (false, (default : Ba 16))).toArray :: fr) h ∧ I_1 (a_1_1, i_1)) m_1 (a.2, 4) ⟨F, rfl, rfl, rfl, hK, hS, hI_1⟩ ?_
 rintro ⟨a_1_1, i_1⟩ f_1 h_3 ⟨F_1, e1, e2, e3, hK, hS, hI0⟩
 obtain ⟨K_1, hKe_1⟩ : ∃ K : (Ba 16) → Int → Prop, K = fun a_1_1' i_1' => I_1 (a_1_1', i_1') ∧ m_1 (a_1_1', i_1') < m_1 (a_1_1, i_1) := ⟨_, rfl⟩
 have hM : ref03_Own_l1 a Q K_1 a_1_1 i_1 := by rw [hKe_1]; exact hR_1 (a_1_1, i_1) hI0
 unfold ref03_Own_l1 at hM
 refine HW.fr [(1, .pointer (some ⟨b_1, 0, none⟩)), (2, .pointer (some ⟨b_2, 0, none⟩)), (3, .int .i64 i_1)] ⟨e1, e2, e3, trivial⟩ ?_
 refine HW.seq ?_
 refine HW.seq ?_
 refine HW.region ?_
 refine oM (.int .i64 i_1) rfl rfl ?_
 refine oV (.bool (decide (i_1 < 16))) (q_lss rfl rfl) rfl ?_
 refine HO.nil (thenQ_normal (?_))
 refine HW.cond (decide (i_1 < 16)) rfl (fun c_1 => ?_) (fun c_1 => ?_)
 ·
  replace hM := hM.1 (of_decide_eq_true c_1)
  refine HW.skip (thenQ_normal (?_))
  refine HW.seq ?_
  refine HW.block ?_
  refine HW.seq ?_
  refine HW.region ?_
  refine oV (.pointer (some ⟨b_1, 0, none⟩)) (q_fieldAddr fa_28_0 rfl rfl) rfl ?_
  refine oV (.bool a.1) (q_load to_4 rfl (Blk.cell (hS.box 0 rfl) rfl)) rfl ?_
  refine oV (.bool (!a.1)) (q_not rfl) rfl ?_
  refine HO.nil (thenQ_normal (?_))
  refine HW.cond (!a.1) rfl (fun c_2 => ?_) (fun c_2 => ?_)
  ·
   replace hM := hM.1 c_2
   refine HW.region ?_
   refine oM (.int .i64 i_1) rfl rfl ?_
   refine oV (.pointer (some ⟨b_1, 1, none⟩)) (q_fieldAddr fa_28_1 rfl rfl) rfl ?_
   obtain ⟨ho_1, hM⟩ := hM
   refine oV (.pointer (some ⟨b_1, 1 + (i_1).toNat, none⟩)) (q_idxA (o := 1) (t := i_1) tr_26 rfl rfl ho_1) rfl ?_
   refine HO.sto (want_none) rfl (st_storeSeg (n := 16) (o := 1) (X := a_1_1) (t := i_1) (u := 0) (c' := (e_api_Addr (a.1, setB a_1_1 i_1 0)).toArray) hS (i := 0) rfl to_5 rfl rfl ho_1 ⟨by decide, by decide⟩ rfl rfl) ?_
   rintro h_4 ⟨hS, hk⟩
   replace hK := hK.trans hk
   refine HO.nil (blockQ_normal (thenQ_normal (?_)))
   refine HW.region ?_
   refine oM (.int .i64 i_1) rfl rfl ?_
   obtain ⟨ho_2, hM⟩ := hM
   refine oV (.int .i64 (i_1 + 1)) (q_addN _ rfl rfl rfl ho_2.1 ho_2.2) rfl ?_
   refine oA (.int .i64 (i_1 + 1)) rfl rfl ?_
   refine HO.nil (thenQ_normal (?_))
   rw [hKe_1] at hM
   exact ⟨((setB a_1_1 i_1 0), i_1 + 1), ⟨F_1, rfl, rfl, rfl, hK, hS, hM.1⟩, hM.2⟩
  ·
   replace hM := hM.2 c_2
   refine HW.skip (blockQ_normal (thenQ_normal (?_)))
   refine HW.region ?_
   refine oM (.int .i64 i_1) rfl rfl ?_
   obtain ⟨ho_3, hM⟩ := hM
   refine oV (.int .i64 (i_1 + 1)) (q_addN _ rfl rfl rfl ho_3.1 ho_3.2) rfl ?_
   refine oA (.int .i64 (i_1 + 1)) rfl rfl ?_
   refine HO.nil (thenQ_normal (?_))
   rw [hKe_1] at hM
   exact ⟨(a_1_1, i_1 + 1), ⟨F_1, rfl, rfl, rfl, hK, hS, hM.1⟩, hM.2⟩
 ·
  replace hM := hM.2 (of_decide_eq_false c_1)
  refine HW.exit (thenQ_exit (thenQ_exit (blockQ_exit (thenQ_normal (?_)))))
  refine HW.seq ?_
  refine HW.region ?_
  refine oV (.agg (e_api_Addr (a.1, a_1_1)).toArray) (q_loadAgg (cs := (e_api_Addr (a.1, a_1_1))) ta_28 rfl rfl (Blk.cells (k := 17) (hS.box 0 rfl) rfl)) rfl ?_
  refine HO.sto (want_none) rfl (st_storeAgg (c' := (e_api_Addr (a.1, a_1_1)).toArray) hS (i := 1) rfl ta_28 rfl rfl rfl (one_e_api_Addr _) (Nat.le_of_ble_eq_true rfl) rfl) ?_
  rintro h_5 ⟨hS, hk⟩
  replace hK := hK.trans hk
  refine HO.nil (thenQ_normal (?_))
  refine HW.ret (?_)
  refine ⟨.inr rfl, .agg (e_api_Addr (a.1, a_1_1)).toArray, res1 rfl (rca (cs := (e_api_Addr (a.1, a_1_1))) ta_28 rfl rfl (Blk.cells (k := 17) (hS.box 1 rfl) rfl)), ?_⟩
  replace hS : St F_1 (fr) h_5 := hS.perm2 [] 2 rfl rfl
  exact ⟨F_1, (a.1, a_1_1), rfl, hK, hS, hM⟩
def proxy_Gather_W (l : List T_s_api_Want) (Q : (List T_api_Want) → Prop) : Prop :=
 proxy_gather_W l (fun r_2 => Q r_2)
theorem proxy_Gather_walk {F : Fz} {fr : List Ow} {h0 : Heap} (l : List T_s_api_Want) (vl : Value) (hS : St F (Ow.own 71 1 e_s_api_Want vl l :: fr) h0) (hN_l : NfL nf_s_api_Want F h0 l) (hD : DM.on = false) {Q : (List T_api_Want) → Prop} (hM : proxy_Gather_W l Q) :
  HC Tryz.prog 29 #[vl] h0 fun u h' => ∃ (F' : Fz) (r_1 : List T_api_Want) (vr_1 : Value), u = vr_1 ∧ Kp F h0 F' h' ∧ St F' (Ow.own 77 19 e_api_Want vr_1 r_1 :: fr) h' ∧ (NfL nf_s_api_Want F' h' l) ∧ (NfL nf_api_Want F' h' r_1) ∧ Q r_1 := by
 unfold proxy_Gather_W at hM
 have hK := Kp.refl F h0
 refine HC.of_HW (n := 5) Tryz.func29 rfl rfl (Nat.le_of_ble_eq_true rfl) ?_
 refine HW.seq ?_
 refine HW.region ?_
 refine oA (.slice none 0 0) rfl rfl ?_
 refine HO.nil (thenQ_normal (?_))
 refine HW.seq ?_
 refine HW.region ?_
 refine oM (vl) rfl rfl ?_
 refine HO.call (want_none) rfl (ec en_76 rfl rfl) (proxy_gather_walk (fr := (fr)) l vl hS hN_l hD hM) ?_
 rintro vr_2 h_1 ⟨F_1, r_2, _, rfl, hk, hS, _, hL_1, hM⟩
 replace hK := hK.trans hk
 replace hN_l := hN_l.kp hk
 refine oA (vr_2) rfl rfl ?_
 refine HO.nil (thenQ_normal (?_))
 refine HW.ret (?_)
 refine ⟨.inr rfl, vr_2, res1 rfl (rt rfl), ?_⟩
 exact ⟨F_1, r_2, vr_2, rfl, hK, hS, hN_l, hL_1, hM⟩
def ref19_Lets_W (f_Exclude : Bool) (f_Sources : List T_api_Addr) (a : T_api_Addr) (Q : Bool → Prop) : Prop :=
 (f_Exclude = true → ref11_Has_W f_Sources a (fun r_2 => Q (!r_2))) ∧ (f_Exclude = false → ref11_Has_W f_Sources a (fun r_3 => Q r_3))
theorem ref19_Lets_walk {F : Fz} {fr : List Ow} {h0 : Heap} (f_Exclude : Bool) (f_Sources : List T_api_Addr) (a : T_api_Addr) (vf_Sources : Value) (hS : St F (fr) h0) (hL_f_Sources : SliceF F h0 17 e_api_Addr vf_Sources f_Sources) {Q : Bool → Prop} (hM : ref19_Lets_W f_Exclude f_Sources a Q) :
  HC Tryz.prog 24 #[.agg #[.bool f_Exclude, vf_Sources], .agg (e_api_Addr a).toArray] h0 fun u h' => ∃ (F' : Fz) (r_1 : Bool), u = .bool r_1 ∧ Kp F h0 F' h' ∧ St F' (fr) h' ∧ (SliceF F' h' 17 e_api_Addr vf_Sources f_Sources) ∧ Q r_1 := by
 unfold ref19_Lets_W at hM
 have hK := Kp.refl F h0
 refine HC.of_HW (n := 16) Tryz.func24 rfl rfl (Nat.le_of_ble_eq_true rfl) ?_
 refine HW.seq ?_
 refine HW.region ?_
 refine HO.eff (want_none) rfl (st_box (c := #[.bool f_Exclude, vf_Sources]) (k' := 2) hS rfl rfl) ?_
 rintro _ h_1 ⟨b_1, rfl, hS, hk⟩
 replace hK := hK.trans hk
 replace hL_f_Sources := hL_f_Sources.kp hk
 refine HO.eff (want_none) rfl (st_box (c := (e_api_Addr a).toArray) (k' := 17) hS rfl rfl) ?_
 rintro _ h_2 ⟨b_2, rfl, hS, hk⟩
 replace hK := hK.trans hk
 replace hL_f_Sources := hL_f_Sources.kp hk
 refine oA (.bool false) rfl rfl ?_
 refine HO.nil (thenQ_normal (?_))
 refine HW.seq ?_
 refine HW.seq ?_
 refine HW.region ?_
 refine oV (.pointer (some ⟨b_1, 0, none⟩)) (q_fieldAddr fa_50_0 rfl rfl) rfl ?_
 refine oV (.bool f_Exclude) (q_load to_4 rfl (Blk.cell (hS.box 1 rfl) rfl)) rfl ?_
 refine HO.nil (thenQ_normal (?_))
 refine HW.cond f_Exclude rfl (fun c_1 => ?_) (fun c_1 => ?_)
 ·
  replace hM := hM.1 c_1
  refine HW.seq ?_
  refine HW.region ?_
  refine oV (.pointer (some ⟨b_1, 1, none⟩)) (q_fieldAddr fa_50_1 rfl rfl) rfl ?_
  refine oV (vf_Sources) (q_load to_29 rfl (Blk.cell (hS.box 1 rfl) rfl)) rfl ?_
  refine oV (.agg (e_api_Addr a).toArray) (q_loadAgg (cs := (e_api_Addr a)) ta_28 rfl rfl (Blk.cells (k := 17) (hS.box 0 rfl) rfl)) rfl ?_
  refine HO.call (want_none) rfl (ec en_75 rfl rfl) (ref11_Has_walk (fr := (Ow.box b_2 28 (e_api_Addr a).toArray :: Ow.box b_1 50 #[.bool f_Exclude, vf_Sources] :: fr)) f_Sources a vf_Sources hS hL_f_Sources hM) ?_
  rintro _ h_3 ⟨F_1, r_2, rfl, hk, hS, _, hM⟩
  replace hK := hK.trans hk
  replace hL_f_Sources := hL_f_Sources.kp hk
  refine oV (.bool (!r_2)) (q_not rfl) rfl ?_
  refine oA (.bool (!r_2)) rfl rfl ?_
  refine HO.nil (thenQ_normal (?_))
  refine HW.ret (thenQ_ret (?_))
  refine ⟨.inr rfl, .bool (!r_2), res1 rfl (rt rfl), ?_⟩
  replace hS : St F_1 (fr) h_3 := hS.perm2 [] 2 rfl rfl
  exact ⟨F_1, !r_2, rfl, hK, hS, hL_f_Sources, hM⟩
 ·
  replace hM := hM.2 c_1
  refine HW.skip (thenQ_normal (?_))
  refine HW.seq ?_
  refine HW.region ?_
  refine oV (.pointer (some ⟨b_1, 1, none⟩)) (q_fieldAddr fa_50_1 rfl rfl) rfl ?_
  refine oV (vf_Sources) (q_load to_29 rfl (Blk.cell (hS.box 1 rfl) rfl)) rfl ?_
  refine oV (.agg (e_api_Addr a).toArray) (q_loadAgg (cs := (e_api_Addr a)) ta_28 rfl rfl (Blk.cells (k := 17) (hS.box 0 rfl) rfl)) rfl ?_
  refine HO.call (want_none) rfl (ec en_75 rfl rfl) (ref11_Has_walk (fr := (Ow.box b_2 28 (e_api_Addr a).toArray :: Ow.box b_1 50 #[.bool f_Exclude, vf_Sources] :: fr)) f_Sources a vf_Sources hS hL_f_Sources hM) ?_
  rintro _ h_4 ⟨F_2, r_3, rfl, hk, hS, _, hM⟩
  replace hK := hK.trans hk
  replace hL_f_Sources := hL_f_Sources.kp hk
  refine oA (.bool r_3) rfl rfl ?_
  refine HO.nil (thenQ_normal (?_))
  refine HW.ret (?_)
  refine ⟨.inr rfl, .bool r_3, res1 rfl (rt rfl), ?_⟩
  replace hS : St F_2 (fr) h_4 := hS.perm2 [] 2 rfl rfl
  exact ⟨F_2, r_3, rfl, hK, hS, hL_f_Sources, hM⟩
def ref24_find_l1 (l : List T_api_Want) (g : T_api_Addr) (Q : Int → Prop) (K_1 : Int → Prop) (i_1 : Int) : Prop :=
 (i_1 < (l.length : Int) → ((0 : Int) ≤ i_1 ∧ i_1 < (l.length : Int)) ∧ (((((gi l i_1).1) : T_api_Addr) = g → Q i_1) ∧ (¬ ((((gi l i_1).1) : T_api_Addr) = g) → (I64 (i_1 + 1)) ∧ (K_1 (i_1 + 1))))) ∧ (¬ (i_1 < (l.length : Int)) → Q (-1))
def ref24_find_W (l : List T_api_Want) (g : T_api_Addr) (Q : Int → Prop) : Prop :=
 loopW (fun (K_1 : Int → Prop) (s : Int) => ref24_find_l1 l g Q K_1 s) 0
theorem ref24_find_walk {F : Fz} {fr : List Ow} {h0 : Heap} (l : List T_api_Want) (g : T_api_Addr) (vl : Value) (hS : St F (fr) h0) (hN_l : NfL nf_api_Want F h0 l) (hL_l : SliceF F h0 19 e_api_Want vl l) {Q : Int → Prop} (hM : ref24_find_W l g Q) :
  HC Tryz.prog 78 #[vl, .agg (e_api_Addr g).toArray] h0 fun u h' => ∃ (F' : Fz) (r_1 : Int), u = .int .i64 r_1 ∧ Kp F h0 F' h' ∧ St F' (fr) h' ∧ (NfL nf_api_Want F' h' l) ∧ (SliceF F' h' 19 e_api_Want vl l) ∧ Q r_1 := by
 unfold ref24_find_W at hM
 have hK := Kp.refl F h0
 refine HC.of_HW (n := 20) Tryz.func78 rfl rfl (Nat.le_of_ble_eq_true rfl) ?_
 refine HW.seq ?_
 refine HW.region ?_
 refine HO.eff (want_none) rfl (st_box (c := (e_api_Addr g).toArray) (k' := 17) hS rfl rfl) ?_
 rintro _ h_1 ⟨b_1, rfl, hS, hk⟩
 replace hK := hK.trans hk
 replace hN_l := hN_l.kp hk
 replace hL_l := hL_l.kp hk
 refine oA (.int .i64 0) rfl rfl ?_
 refine HO.nil (thenQ_normal (?_))
 refine HW.seq ?_
 refine HW.seq ?_
 refine HW.region ?_
 refine oA (.int .i64 0) rfl rfl ?_
 refine HO.nil (thenQ_normal (?_))
 refine HW.block ?_
 obtain ⟨I_1, m_1, hI_1, hR_1⟩ := hM
 refine HW.loop (S := Int) (fun i_1 f h => ∃ (F' : Fz), f 0 = vl ∧ f 3 = .pointer (some ⟨b_1, 0, none⟩) ∧ f 4 = .int .i64 0 ∧ f 5 = .int .i64 i_1 ∧ Kp F h0 F' h ∧ St F' (Ow.box b_1 28 (e_api_Addr g).toArray :: fr) h ∧ (NfL nf_api_Want F' h l) ∧ (SliceF F' h 19 e_api_Want vl l) ∧ I_1 i_1) m_1 0 ⟨F, rfl, rfl, rfl, rfl, hK, hS, hN_l, hL_l, hI_1⟩ ?_
 rintro i_1 f_1 h_2 ⟨F_1, e0, e3, e4, e5, hK, hS, hN_l, hL_l, hI0⟩
 obtain ⟨K_1, hKe_1⟩ : ∃ K : Int → Prop, K = fun i_1' => I_1 i_1' ∧ m_1 i_1' < m_1 i_1 := ⟨_, rfl⟩
 have hM : ref24_find_l1 l g Q K_1 i_1 := by rw [hKe_1]; exact hR_1 i_1 hI0
 unfold ref24_find_l1 at hM
 refine HW.fr [(0, vl), (3, .pointer (some ⟨b_1, 0, none⟩)), (4, .int .i64 0), (5, .int .i64 i_1)] ⟨e0, e3, e4, e5, trivial⟩ ?_
 refine HW.seq ?_
 refine HW.seq ?_
 refine HW.region ?_
 refine oM (.int .i64 i_1) rfl rfl ?_
 refine oM (vl) rfl rfl ?_
 refine oV (.int .i64 (l.length : Int)) (q_len ts_71 (shp hL_l.is) rfl rfl) rfl ?_
 refine oV (.bool (decide (i_1 < (l.length : Int)))) (q_lss rfl rfl) rfl ?_
 refine HO.nil (thenQ_normal (?_))
 refine HW.cond (decide (i_1 < (l.length : Int))) rfl (fun c_1 => ?_) (fun c_1 => ?_)
 ·
  replace hM := hM.1 (of_decide_eq_true c_1)
  refine HW.skip (thenQ_normal (?_))
  refine HW.seq ?_
  refine HW.block ?_
  refine HW.seq ?_
  refine HW.regionA 7 mixed (fun h => (NfI nf_api_Want h l) ∧ (SliceIs h 19 e_api_Want vl l) ∧ (Blk h b_1 (.cells (e_api_Addr g).toArray 28 (0, 0)))) [] (by kernel_rfl) ?_
  refine HA.val (k := 0) (v := vl) rfl rfl (by kernel_rfl) (by kernel_rfl) (want_none) rfl (fun _ ⟨hN_l, hL_l, c302⟩ => q_move rfl) ?_
  refine HA.val (k := 1) (v := .int .i64 i_1) rfl rfl (by kernel_rfl) (by kernel_rfl) (want_none) rfl (fun _ ⟨hN_l, hL_l, c302⟩ => q_move rfl) ?_
  obtain ⟨ho_1, hM⟩ := hM
  refine HA.val (k := 2) (v := elemPtr 19 vl (i_1).toNat) rfl rfl (by kernel_rfl) (by kernel_rfl) (want_none) rfl (fun _ ⟨hN_l, hL_l, c302⟩ => q_idx ts_71 hL_l rfl rfl ho_1) ?_
  refine HA.val (k := 3) (v := fieldPtr 19 vl (i_1).toNat 0) rfl rfl (by kernel_rfl) (by kernel_rfl) (want_none) rfl (fun _ ⟨hN_l, hL_l, c302⟩ => q_fldElem fa_77_0 hL_l rfl ho_1) ?_
  refine HA.val (k := 4) (v := .agg (e_api_Addr ((gi l i_1).1)).toArray) rfl rfl (by kernel_rfl) (by kernel_rfl) (want_none) rfl (fun _ ⟨hN_l, hL_l, c302⟩ => q_ldFieldAgg (n := 17) (cs := (e_api_Addr ((gi l i_1).1))) ta_28 hL_l rfl ho_1 (by decide) rfl) ?_
  refine HA.val (k := 5) (v := .agg (e_api_Addr g).toArray) rfl rfl (by kernel_rfl) (by kernel_rfl) (want_none) rfl (fun _ ⟨hN_l, hL_l, c302⟩ => q_loadAgg (cs := (e_api_Addr g)) ta_28 rfl rfl (Blk.cells (k := 17) c302 rfl)) ?_
  refine HA.val (k := 6) (v := .bool (decide ((((gi l i_1).1) : T_api_Addr) = g))) rfl rfl (by kernel_rfl) (by kernel_rfl) (want_none) rfl (fun _ ⟨hN_l, hL_l, c302⟩ => q_eqlAgg (a := ((gi l i_1).1)) (b := g) (fun a b w => teq_28 9997 a b w) (by kernel_rfl) rfl rfl rfl rfl) ?_
  refine HA.nil ⟨⟨hN_l.is, hL_l.is, (hS.box 0 rfl)⟩, (Go.Wk.at_nil _ _)⟩ (by kernel_rfl) (thenQ_normal (?_))
  refine HW.cond (decide ((((gi l i_1).1) : T_api_Addr) = g)) rfl (fun c_2 => ?_) (fun c_2 => ?_)
  ·
   replace hM := hM.1 (of_decide_eq_true c_2)
   refine HW.seq ?_
   refine HW.region ?_
   refine oM (.int .i64 i_1) rfl rfl ?_
   refine oA (.int .i64 i_1) rfl rfl ?_
   refine HO.nil (thenQ_normal (?_))
   refine HW.ret (blockQ_ret (thenQ_ret (thenQ_ret (blockQ_ret (thenQ_ret (?_))))))
   refine ⟨.inr rfl, .int .i64 i_1, res1 rfl (rt rfl), ?_⟩
   replace hS : St F_1 (fr) h_2 := hS.perm2 [] 1 rfl rfl
   exact ⟨F_1, i_1, rfl, hK, hS, hN_l, hL_l, hM⟩
  ·
   replace hM := hM.2 (of_decide_eq_false c_2)
   refine HW.skip (blockQ_normal (thenQ_normal (?_)))
   refine HW.region ?_
   refine oM (.int .i64 i_1) rfl rfl ?_
   obtain ⟨ho_2, hM⟩ := hM
   refine oV (.int .i64 (i_1 + 1)) (q_addN _ rfl rfl rfl ho_2.1 ho_2.2) rfl ?_
   refine oA (.int .i64 (i_1 + 1)) rfl rfl ?_
   refine HO.nil (thenQ_normal (?_))
   rw [hKe_1] at hM
   exact ⟨i_1 + 1, ⟨F_1, rfl, rfl, rfl, rfl, hK, hS, hN_l, hL_l, hM.1⟩, hM.2⟩
 ·
  replace hM := hM.2 (of_decide_eq_false c_1)
  refine HW.exit (thenQ_exit (thenQ_exit (blockQ_exit (thenQ_normal (?_)))))
  refine HW.seq ?_
  refine HW.region ?_
  refine oA (.int .i64 (-1)) rfl rfl ?_
  refine HO.nil (thenQ_normal (?_))
  refine HW.ret (?_)
  refine ⟨.inr rfl, .int .i64 (-1), res1 rfl (rt rfl), ?_⟩
  replace hS : St F_1 (fr) h_2 := hS.perm2 [] 1 rfl rfl
  exact ⟨F_1, (-1), rfl, hK, hS, hN_l, hL_l, hM⟩
def ref11_Or_W (a : List T_api_Addr) (b : List T_api_Addr) (Q : (List T_api_Addr) → Prop) : Prop :=
 ((([] : List T_api_Addr).length + a.length) * 17 ≤ 140737488355328) ∧ ((((([] : List T_api_Addr) ++ a).length + b.length) * 17 ≤ 140737488355328) ∧ (ref11_Of_W ((([] : List T_api_Addr) ++ a) ++ b) (fun r_2 => Q r_2)))
theorem ref11_Or_walk {F : Fz} {fr : List Ow} {h0 : Heap} (a : List T_api_Addr) (b : List T_api_Addr) (va : Value) (vb : Value) (hS : St F (fr) h0) (hL_a : SliceF F h0 17 e_api_Addr va a) (hL_b : SliceF F h0 17 e_api_Addr vb b) {Q : (List T_api_Addr) → Prop} (hM : ref11_Or_W a b Q) :
  HC Tryz.prog 133 #[va, vb] h0 fun u h' => ∃ (F' : Fz) (r_1 : List T_api_Addr) (vr_1 : Value), u = vr_1 ∧ Kp F h0 F' h' ∧ St F' (fr) h' ∧ (SliceF F' h' 17 e_api_Addr va a) ∧ (SliceF F' h' 17 e_api_Addr vb b) ∧ (SliceF F' h' 17 e_api_Addr vr_1 r_1) ∧ Q r_1 := by
 unfold ref11_Or_W at hM
 have hK := Kp.refl F h0
 refine HC.of_HW (n := 11) Tryz.func133 rfl rfl (Nat.le_of_ble_eq_true rfl) ?_
 refine HW.seq ?_
 refine HW.region ?_
 refine oA (.slice none 0 0) rfl rfl ?_
 refine HO.nil (thenQ_normal (?_))
 refine HW.seq ?_
 refine HW.region ?_
 refine HO.eff (want_none) rfl (st_litEmpty (α := T_api_Addr) e_api_Addr hS tl_29) ?_
 rintro _ h_1 ⟨b_1, rfl, hS, hk⟩
 replace hK := hK.trans hk
 replace hL_a := hL_a.kp hk
 replace hL_b := hL_b.kp hk
 refine oM (va) rfl rfl ?_
 obtain ⟨ho_1, hM⟩ := hM
 refine HO.eff (want_none) rfl (st_append te_29 hS (i := 0) rfl hL_a.is rfl rfl rfl (by intro a _ u hu; simp [e_api_Addr, encI, encN, encB, encT] at hu; rcases hu with rfl | rfl | rfl | rfl | rfl | rfl | rfl | rfl | rfl | rfl | rfl | rfl | rfl | rfl | rfl | rfl | rfl <;> rfl) ho_1 (by omega)) ?_
 rintro v_1 h_2 ⟨hS, hk⟩
 replace hK := hK.trans hk
 replace hL_a := hL_a.kp hk
 replace hL_b := hL_b.kp hk
 refine oM (vb) rfl rfl ?_
 obtain ⟨ho_2, hM⟩ := hM
 refine HO.eff (want_none) rfl (st_append te_29 hS (i := 0) rfl hL_b.is rfl rfl rfl (by intro a _ u hu; simp [e_api_Addr, encI, encN, encB, encT] at hu; rcases hu with rfl | rfl | rfl | rfl | rfl | rfl | rfl | rfl | rfl | rfl | rfl | rfl | rfl | rfl | rfl | rfl | rfl <;> rfl) ho_2 (by omega)) ?_
 rintro v_2 h_3 ⟨hS, hk⟩
 replace hK := hK.trans hk
 replace hL_a := hL_a.kp hk
 replace hL_b := hL_b.kp hk
 obtain ⟨F_1, hS, hk, hL_2⟩ := hS.freezeOwn
 replace hK := hK.trans hk
 replace hL_a := hL_a.kp hk
 replace hL_b := hL_b.kp hk
 refine HO.call (want_none) rfl (ec en_109 rfl rfl) (ref11_Of_walk (fr := (fr)) ((([] : List T_api_Addr) ++ a) ++ b) v_2 hS hL_2 hM) ?_
 rintro vr_2 h_4 ⟨F_2, r_2, _, rfl, hk, hS, _, hL_3, hM⟩
 replace hK := hK.trans hk
 replace hL_a := hL_a.kp hk
 replace hL_b := hL_b.kp hk
 refine oA (vr_2) rfl rfl ?_
 refine HO.nil (thenQ_normal (?_))
 refine HW.ret (?_)
 refine ⟨.inr rfl, vr_2, res1 rfl (rt rfl), ?_⟩
 exact ⟨F_2, r_2, vr_2, rfl, hK, hS, hL_a, hL_b, hL_3, hM⟩
def ref19_All_j1 (l : List T_api_Filter) (all_1 : List T_api_Addr) (i_1 : Int) (K_1 : Bool → (List T_api_Addr) → Int → Prop) (out_0_2 : Bool) : Prop :=
 ((0 : Int) ≤ i_1 ∧ i_1 < (l.length : Int)) ∧ (ref11_Or_W all_1 (((gi l i_1).2).2) (fun r_1 => (I64 (i_1 + 1)) ∧ (K_1 out_0_2 r_1 (i_1 + 1))))
def ref19_All_l3 (l : List T_api_Filter) (out_0_1 : Bool) (all_1 : List T_api_Addr) (out_1_1 : List T_api_Addr) (i_2 : Int) (K_2 : (List T_api_Addr) → Int → Prop) (K_3 : Bool → Int → Prop) (some_1 : Bool) (k_1 : Int) : Prop :=
 (k_1 < (l.length : Int) → (some_1 = true → (I64 (k_1 + 1)) ∧ (K_3 true (k_1 + 1))) ∧ (some_1 = false → ((0 : Int) ≤ k_1 ∧ k_1 < (l.length : Int)) ∧ (((0 : Int) ≤ i_2 ∧ i_2 < (all_1.length : Int)) ∧ (ref19_Lets_W ((gi l k_1).1) (((gi l k_1).2).2) (gi all_1 i_2) (fun r_2 => (I64 (k_1 + 1)) ∧ (K_3 r_2 (k_1 + 1))))))) ∧ (¬ (k_1 < (l.length : Int)) → ((!(some_1 == out_0_1)) = true → ((0 : Int) ≤ i_2 ∧ i_2 < (all_1.length : Int)) ∧ (((out_1_1.length + ([(gi all_1 i_2)] : List T_api_Addr).length) * 17 ≤ 140737488355328) ∧ ((I64 (i_2 + 1)) ∧ (K_2 (out_1_1 ++ ([(gi all_1 i_2)] : List T_api_Addr)) (i_2 + 1))))) ∧ ((!(some_1 == out_0_1)) = false → (I64 (i_2 + 1)) ∧ (K_2 out_1_1 (i_2 + 1))))
def ref19_All_l2 (l : List T_api_Filter) (Q : Bool → (List T_api_Addr) → Prop) (out_0_1 : Bool) (all_1 : List T_api_Addr) (K_2 : (List T_api_Addr) → Int → Prop) (out_1_1 : List T_api_Addr) (i_2 : Int) : Prop :=
 (i_2 < (all_1.length : Int) → loopW (fun (K_3 : (Bool × Int) → Prop) (s : Bool × Int) => ref19_All_l3 l out_0_1 all_1 out_1_1 i_2 K_2 (fun some_1 k_1 => K_3 (some_1, k_1)) s.1 s.2) (false, 0)) ∧ (¬ (i_2 < (all_1.length : Int)) → Q out_0_1 out_1_1)
def ref19_All_l1 (l : List T_api_Filter) (Q : Bool → (List T_api_Addr) → Prop) (K_1 : Bool → (List T_api_Addr) → Int → Prop) (out_0_1 : Bool) (all_1 : List T_api_Addr) (i_1 : Int) : Prop :=
 (i_1 < (l.length : Int) → (out_0_1 = true → ref19_All_j1 l all_1 i_1 K_1 true) ∧ (out_0_1 = false → ((0 : Int) ≤ i_1 ∧ i_1 < (l.length : Int)) ∧ (ref19_All_j1 l all_1 i_1 K_1 ((gi l i_1).1)))) ∧ (¬ (i_1 < (l.length : Int)) → loopW (fun (K_2 : (List T_api_Addr × Int) → Prop) (s : List T_api_Addr × Int) => ref19_All_l2 l Q out_0_1 all_1 (fun out_1_1 i_2 => K_2 (out_1_1, i_2)) s.1 s.2) ([], 0))
def ref19_All_W (l : List T_api_Filter) (Q : Bool → (List T_api_Addr) → Prop) : Prop :=
 loopW (fun (K_1 : (Bool × List T_api_Addr × Int) → Prop) (s : Bool × List T_api_Addr × Int) => ref19_All_l1 l Q (fun out_0_1 all_1 i_1 => K_1 (out_0_1, all_1, i_1)) s.1 s.2.1 s.2.2) (false, [], 0)
theorem ref19_All_walk {F : Fz} {fr : List Ow} {h0 : Heap} (l : List T_api_Filter) (vl : Value) (hS : St F (fr) h0) (hN_l : NfL nf_api_Filter F h0 l) (hL_l : SliceF F h0 2 e_api_Filter vl l) {Q : Bool → (List T_api_Addr) → Prop} (hM : ref19_All_W l Q) :
  HC Tryz.prog 79 #[vl] h0 fun u h' => ∃ (F' : Fz) (r_0_1 : Bool) (r_1_1 : List T_api_Addr) (vr_1_1 : Value), u = .agg #[.bool r_0_1, vr_1_1] ∧ Kp F h0 F' h' ∧ St F' (Ow.own 28 17 e_api_Addr vr_1_1 r_1_1 :: fr) h' ∧ (NfL nf_api_Filter F' h' l) ∧ (SliceF F' h' 2 e_api_Filter vl l) ∧ Q r_0_1 r_1_1 := by
 unfold ref19_All_W at hM
 have hK := Kp.refl F h0
 refine HC.of_HW (n := 72) Tryz.func79 rfl rfl (Nat.le_of_ble_eq_true rfl) ?_
 refine HW.seq ?_
 refine HW.region ?_
 refine HO.eff (want_none) rfl (st_alloc (c := #[.bool false, .slice none 0 0]) hS tz_50 rfl) ?_
 rintro _ h_1 ⟨b_1, rfl, hS, hk⟩
 replace hK := hK.trans hk
 replace hN_l := hN_l.kp hk
 replace hL_l := hL_l.kp hk
 refine HO.nil (thenQ_normal (?_))
 refine HW.seq ?_
 refine HW.region ?_
 refine oV (.agg #[.bool false, .slice none 0 0]) (q_build tp_50 rfl) rfl ?_
 refine HO.eff (want_none) rfl (st_litEmpty (α := T_api_Addr) e_api_Addr hS tl_29) ?_
 rintro _ h_2 ⟨b_2, rfl, hS, hk⟩
 replace hK := hK.trans hk
 replace hN_l := hN_l.kp hk
 replace hL_l := hL_l.kp hk
 refine HO.eff (want_none) rfl (st_alloc (c := #[.bool false, .slice none 0 0]) hS tz_50 rfl) ?_
 rintro _ h_3 ⟨b_3, rfl, hS, hk⟩
 replace hK := hK.trans hk
 replace hN_l := hN_l.kp hk
 replace hL_l := hL_l.kp hk
 refine HO.sto (want_none) rfl (st_storeAgg (c' := #[.bool false, .slice none 0 0]) hS (i := 0) rfl ta_50 rfl rfl rfl (by simp [Value.oneCell']) (Nat.le_of_ble_eq_true rfl) rfl) ?_
 rintro h_4 ⟨hS, hk⟩
 replace hK := hK.trans hk
 replace hN_l := hN_l.kp hk
 replace hL_l := hL_l.kp hk
 refine oA (.slice (some ⟨b_2, 0, none⟩) 0 0) rfl rfl ?_
 refine HO.nil (thenQ_normal (?_))
 refine HW.seq ?_
 refine HW.seq ?_
 refine HW.region ?_
 refine oA (.int .i64 0) rfl rfl ?_
 refine HO.nil (thenQ_normal (?_))
 refine HW.block ?_
 obtain ⟨I_1, m_1, hI_1, hR_1⟩ := hM
 replace hS : St F (Ow.own 28 17 e_api_Addr (.slice (some ⟨b_2, 0, none⟩) 0 0) ([] : List T_api_Addr) :: Ow.box b_3 50 #[.bool false, .slice none 0 0] :: Ow.box b_1 50 #[.bool false, .slice none 0 0] :: fr) h_4 := hS.perm2 [1, 0, 2] 3 rfl rfl
 obtain ⟨F_1, hS, hk, hL_2⟩ := hS.freezeOwn
 replace hK := hK.trans hk
 replace hN_l := hN_l.kp hk
 replace hL_l := hL_l.kp hk
 replace hS : St F_1 (Ow.box b_1 50 #[.bool false, .slice none 0 0] :: Ow.box b_3 50 #[.bool false, .slice none 0 0] :: fr) h_4 := hS.perm2 [1, 0] 2 rfl rfl
 refine HW.loop (S := Bool × List T_api_Addr × Int) (fun s f h => match s with | (out_0_1, all_1, i_1) => ∃ (F' : Fz) (vall_1 : Value), f 0 = vl ∧ f 2 = .pointer (some ⟨b_1, 0, none⟩) ∧ f 3 = .pointer (some ⟨b_3, 0, none⟩) ∧ f 4 = vall_1 ∧ f 5 = .int .i64 i_1 ∧ Kp F h0 F' h ∧ St F' (Ow.box b_1 50 #[.bool false, .slice none 0 0] :: Ow.box b_3 50 #[.bool out_0_1, .slice none 0 0] :: fr) h ∧ (NfL nf_api_Filter F' h l) ∧ (SliceF F' h 2 e_api_Filter vl l) ∧ (SliceF F' h 17 e_api_Addr vall_1 all_1) ∧ I_1 (out_0_1, all_1, i_1)) m_1 (false, [], 0) ⟨F_1, .slice (some ⟨b_2, 0, none⟩) 0 0, rfl, rfl, rfl, rfl, rfl, hK, hS, hN_l, hL_l, hL_2, hI_1⟩ ?_
 rintro ⟨out_0_1, all_1, i_1⟩ f_1 h_5 ⟨F_2, vall_1, e0, e2, e3, e4, e5, hK, hS, hN_l, hL_l, hL_1, hI0⟩
 obtain ⟨K_1, hKe_1⟩ : ∃ K : Bool → (List T_api_Addr) → Int → Prop, K = fun out_0_1' all_1' i_1' => I_1 (out_0_1', all_1', i_1') ∧ m_1 (out_0_1', all_1', i_1') < m_1 (out_0_1, all_1, i_1) := ⟨_, rfl⟩
 have hM : ref19_All_l1 l Q K_1 out_0_1 all_1 i_1 := by rw [hKe_1]; exact hR_1 (out_0_1, all_1, i_1) hI0
 unfold ref19_All_l1 at hM
 refine HW.fr [(0, vl), (2, .pointer (some ⟨b_1, 0, none⟩)), (3, .pointer (some ⟨b_3, 0, none⟩)), (4, vall_1), (5, .int .i64 i_1)] ⟨e0, e2, e3, e4, e5, trivial⟩ ?_
 refine HW.seq ?_
 refine HW.seq ?_
 refine HW.region ?_
 refine oM (.int .i64 i_1) rfl rfl ?_
 refine oM (vl) rfl rfl ?_
 refine oV (.int .i64 (l.length : Int)) (q_len ts_133 (shp hL_l.is) rfl rfl) rfl ?_
 refine oV (.bool (decide (i_1 < (l.length : Int)))) (q_lss rfl rfl) rfl ?_
 refine HO.nil (thenQ_normal (?_))
 refine HW.cond (decide (i_1 < (l.length : Int))) rfl (fun c_1 => ?_) (fun c_1 => ?_)
 ·
  replace hM := hM.1 (of_decide_eq_true c_1)
  refine HW.skip (thenQ_normal (?_))
  refine HW.seq ?_
  refine HW.block ?_
  refine HW.seq_mid (fun f h => ∃ (F' : Fz) (out_0_2 : Bool), f 0 = vl ∧ f 2 = .pointer (some ⟨b_1, 0, none⟩) ∧ f 3 = .pointer (some ⟨b_3, 0, none⟩) ∧ f 4 = vall_1 ∧ f 5 = .int .i64 i_1 ∧ Kp F h0 F' h ∧ St F' (Ow.box b_1 50 #[.bool false, .slice none 0 0] :: Ow.box b_3 50 #[.bool out_0_2, .slice none 0 0] :: fr) h ∧ (NfL nf_api_Filter F' h l) ∧ (SliceF F' h 2 e_api_Filter vl l) ∧ (SliceF F' h 17 e_api_Addr vall_1 all_1) ∧ ref19_All_j1 l all_1 i_1 K_1 out_0_2) ?_ ?_
  ·
   refine HW.region ?_
   refine oV (.pointer (some ⟨b_3, 0, none⟩)) (q_fieldAddr fa_50_0 rfl rfl) rfl ?_
   refine oV (.bool out_0_1) (q_load to_4 rfl (Blk.cell (hS.box 1 rfl) rfl)) rfl ?_
   refine oM (.bool out_0_1) rfl rfl ?_
   rcases Bool.eq_false_or_eq_true out_0_1 with c_2 | c_2
   ·
    replace hM := hM.1 c_2
    refine HO.past (past_by rfl rfl c_2) rfl ?_
    refine HO.past (past_by rfl rfl c_2) rfl ?_
    refine HO.past (past_by rfl rfl c_2) rfl ?_
    refine HO.past (past_by rfl rfl c_2) rfl ?_
    refine HO.past (past_by rfl rfl c_2) rfl ?_
    refine oV (.bool true) (q_pickK true rfl c_2 rfl) rfl ?_
    refine oV (.pointer (some ⟨b_3, 0, none⟩)) (q_fieldAddr fa_50_0 rfl rfl) rfl ?_
    refine HO.sto (want_none) rfl (st_store (c' := #[.bool true, .slice none 0 0]) hS (i := 1) rfl to_4 rfl rfl rfl rfl (Nat.le_of_ble_eq_true rfl) rfl) ?_
    rintro h_6 ⟨hS, hk⟩
    replace hK := hK.trans hk
    replace hN_l := hN_l.kp hk
    replace hL_l := hL_l.kp hk
    replace hL_1 := hL_1.kp hk
    refine HO.nil (thenQ_normal (?_))
    exact ⟨F_2, true, rfl, rfl, rfl, rfl, rfl, hK, hS, hN_l, hL_l, hL_1, hM⟩
   ·
    replace hM := hM.2 c_2
    refine HO.val (v := vl) (want_by rfl rfl c_2) rfl (q_move rfl) ?_
    refine HO.val (v := .int .i64 i_1) (want_by rfl rfl c_2) rfl (q_move rfl) ?_
    obtain ⟨ho_1, hM⟩ := hM
    refine HO.val (v := elemPtr 2 vl (i_1).toNat) (want_by rfl rfl c_2) rfl (q_idx ts_133 hL_l.is rfl rfl ho_1) ?_
    refine HO.val (v := fieldPtr 2 vl (i_1).toNat 0) (want_by rfl rfl c_2) rfl (q_fldElem fa_50_0 hL_l.is rfl ho_1) ?_
    refine HO.val (v := .bool ((gi l i_1).1)) (want_by rfl rfl c_2) rfl (q_ldField to_4 hL_l.is rfl ho_1 (by decide) rfl) ?_
    refine oV (.bool ((gi l i_1).1)) (q_pickK false rfl c_2 rfl) rfl ?_
    refine oV (.pointer (some ⟨b_3, 0, none⟩)) (q_fieldAddr fa_50_0 rfl rfl) rfl ?_
    refine HO.sto (want_none) rfl (st_store (c' := #[.bool ((gi l i_1).1), .slice none 0 0]) hS (i := 1) rfl to_4 rfl rfl rfl rfl (Nat.le_of_ble_eq_true rfl) rfl) ?_
    rintro h_7 ⟨hS, hk⟩
    replace hK := hK.trans hk
    replace hN_l := hN_l.kp hk
    replace hL_l := hL_l.kp hk
    replace hL_1 := hL_1.kp hk
    refine HO.nil (thenQ_normal (?_))
    exact ⟨F_2, (gi l i_1).1, rfl, rfl, rfl, rfl, rfl, hK, hS, hN_l, hL_l, hL_1, hM⟩
  ·
   rintro f_2 h_8 ⟨F_3, out_0_2, e0, e2, e3, e4, e5, hK, hS, hN_l, hL_l, hL_1, hM⟩
   unfold ref19_All_j1 at hM
   refine HW.fr [(0, vl), (2, .pointer (some ⟨b_1, 0, none⟩)), (3, .pointer (some ⟨b_3, 0, none⟩)), (4, vall_1), (5, .int .i64 i_1)] ⟨e0, e2, e3, e4, e5, trivial⟩ ?_
   refine HW.region ?_
   refine oM (vall_1) rfl rfl ?_
   refine oM (vl) rfl rfl ?_
   refine oM (.int .i64 i_1) rfl rfl ?_
   obtain ⟨ho_2, hM⟩ := hM
   refine oV (elemPtr 2 vl (i_1).toNat) (q_idx ts_133 hL_l.is rfl rfl ho_2) rfl ?_
   refine oV (fieldPtr 2 vl (i_1).toNat 1) (q_fldElem fa_50_1 hL_l.is rfl ho_2) rfl ?_
   refine oV (((gi l i_1).2).1) (q_ldField to_29 hL_l.is rfl ho_2 (by decide) rfl) rfl ?_
   refine HO.call (want_none) rfl (ec en_133 rfl rfl) (ref11_Or_walk (fr := (Ow.box b_1 50 #[.bool false, .slice none 0 0] :: Ow.box b_3 50 #[.bool out_0_2, .slice none 0 0] :: fr)) all_1 (((gi l i_1).2).2) vall_1 (((gi l i_1).2).1) hS hL_1 (nff_api_Filter_1 (NfL.at hN_l ho_2)) hM) ?_
   rintro vr_1 h_9 ⟨F_4, r_1, _, rfl, hk, hS, _, _, hL_3, hM⟩
   replace hK := hK.trans hk
   replace hN_l := hN_l.kp hk
   replace hL_l := hL_l.kp hk
   refine oA (vr_1) rfl rfl ?_
   refine HO.nil (blockQ_normal (thenQ_normal (?_)))
   refine HW.region ?_
   refine oM (.int .i64 i_1) rfl rfl ?_
   obtain ⟨ho_3, hM⟩ := hM
   refine oV (.int .i64 (i_1 + 1)) (q_addN _ rfl rfl rfl ho_3.1 ho_3.2) rfl ?_
   refine oA (.int .i64 (i_1 + 1)) rfl rfl ?_
   refine HO.nil (thenQ_normal (?_))
   rw [hKe_1] at hM
   exact ⟨(out_0_2, r_1, i_1 + 1), ⟨F_4, vr_1, rfl, rfl, rfl, rfl, rfl, hK, hS, hN_l, hL_l, hL_3, hM.1⟩, hM.2⟩
 ·
  replace hM := hM.2 (of_decide_eq_false c_1)
  refine HW.exit (thenQ_exit (thenQ_exit (blockQ_exit (thenQ_normal (?_)))))
  refine HW.seq ?_
  refine HW.seq ?_
  refine HW.region ?_
  refine oA (.int .i64 0) rfl rfl ?_
  refine HO.nil (thenQ_normal (?_))
  refine HW.block ?_
  obtain ⟨I_2, m_2, hI_2, hR_2⟩ := hM
  replace hS := hS.nilOwn 28 17 e_api_Addr
  replace hS : St F_2 (Ow.box b_1 50 #[.bool false, .slice none 0 0] :: Ow.box b_3 50 #[.bool out_0_1, .slice none 0 0] :: Ow.own 28 17 e_api_Addr (.slice none 0 0) ([] : List T_api_Addr) :: fr) h_5 := hS.perm2 [1, 2, 0] 3 rfl rfl
  refine HW.loop (S := List T_api_Addr × Int) (fun s f h => match s with | (out_1_1, i_2) => ∃ (F' : Fz) (vout_1_1 : Value), f 0 = vl ∧ f 2 = .pointer (some ⟨b_1, 0, none⟩) ∧ f 3 = .pointer (some ⟨b_3, 0, none⟩) ∧ f 4 = vall_1 ∧ f 6 = .int .i64 i_2 ∧ Kp F h0 F' h ∧ St F' (Ow.box b_1 50 #[.bool false, .slice none 0 0] :: Ow.box b_3 50 #[.bool out_0_1, vout_1_1] :: Ow.own 28 17 e_api_Addr vout_1_1 out_1_1 :: fr) h ∧ (NfL nf_api_Filter F' h l) ∧ (SliceF F' h 2 e_api_Filter vl l) ∧ (SliceF F' h 17 e_api_Addr vall_1 all_1) ∧ I_2 (out_1_1, i_2)) m_2 ([], 0) ⟨F_2, .slice none 0 0, rfl, rfl, rfl, rfl, rfl, hK, hS, hN_l, hL_l, hL_1, hI_2⟩ ?_
  rintro ⟨out_1_1, i_2⟩ f_3 h_10 ⟨F_5, vout_1_1, e0, e2, e3, e4, e6, hK, hS, hN_l, hL_l, hL_1, hI0⟩
  obtain ⟨K_2, hKe_2⟩ : ∃ K : (List T_api_Addr) → Int → Prop, K = fun out_1_1' i_2' => I_2 (out_1_1', i_2') ∧ m_2 (out_1_1', i_2') < m_2 (out_1_1, i_2) := ⟨_, rfl⟩
  have hM : ref19_All_l2 l Q out_0_1 all_1 K_2 out_1_1 i_2 := by rw [hKe_2]; exact hR_2 (out_1_1, i_2) hI0
  unfold ref19_All_l2 at hM
  refine HW.fr [(0, vl), (2, .pointer (some ⟨b_1, 0, none⟩)), (3, .pointer (some ⟨b_3, 0, none⟩)), (4, vall_1), (6, .int .i64 i_2)] ⟨e0, e2, e3, e4, e6, trivial⟩ ?_
  refine HW.seq ?_
  refine HW.seq ?_
  refine HW.region ?_
  refine oM (.int .i64 i_2) rfl rfl ?_
  refine oM (vall_1) rfl rfl ?_
  refine oV (.int .i64 (all_1.length : Int)) (q_len ts_29 (shp hL_1.is) rfl rfl) rfl ?_
  refine oV (.bool (decide (i_2 < (all_1.length : Int)))) (q_lss rfl rfl) rfl ?_
  refine HO.nil (thenQ_normal (?_))
  refine HW.cond (decide (i_2 < (all_1.length : Int))) rfl (fun c_3 => ?_) (fun c_3 => ?_)
  ·
   replace hM := hM.1 (of_decide_eq_true c_3)
   refine HW.skip (thenQ_normal (?_))
   refine HW.seq ?_
   refine HW.block ?_
   refine HW.seq ?_
   refine HW.region ?_
   refine oA (.bool false) rfl rfl ?_
   refine HO.nil (thenQ_normal (?_))
   refine HW.seq ?_
   refine HW.seq ?_
   refine HW.region ?_
   refine oA (.int .i64 0) rfl rfl ?_
   refine HO.nil (thenQ_normal (?_))
   refine HW.block ?_
   obtain ⟨I_3, m_3, hI_3, hR_3⟩ := hM
   refine HW.loop (S := Bool × Int) (fun s f h => match s with | (some_1, k_1) => ∃ (F' : Fz), f 0 = vl ∧ f 2 = .pointer (some ⟨b_1, 0, none⟩) ∧ f 3 = .pointer (some ⟨b_3, 0, none⟩) ∧ f 4 = vall_1 ∧ f 6 = .int .i64 i_2 ∧ f 7 = .bool some_1 ∧ f 8 = .int .i64 k_1 ∧ Kp F h0 F' h ∧ St F' (Ow.box b_1 50 #[.bool false, .slice none 0 0] :: Ow.box b_3 50 #[.bool out_0_1, vout_1_1] :: Ow.own 28 17 e_api_Addr vout_1_1 out_1_1 :: fr) h ∧ (NfL nf_api_Filter F' h l) ∧ (SliceF F' h 2 e_api_Filter vl l) ∧ (SliceF F' h 17 e_api_Addr vall_1 all_1) ∧ I_3 (some_1, k_1)) m_3 (false, 0) ⟨F_5, rfl, rfl, rfl, rfl, rfl, rfl, rfl, hK, hS, hN_l, hL_l, hL_1, hI_3⟩ ?_
   rintro ⟨some_1, k_1⟩ f_4 h_11 ⟨F_6, e0, e2, e3, e4, e6, e7, e8, hK, hS, hN_l, hL_l, hL_1, hI0⟩
   obtain ⟨K_3, hKe_3⟩ : ∃ K : Bool → Int → Prop, K = fun some_1' k_1' => I_3 (some_1', k_1') ∧ m_3 (some_1', k_1') < m_3 (some_1, k_1) := ⟨_, rfl⟩
   have hM : ref19_All_l3 l out_0_1 all_1 out_1_1 i_2 K_2 K_3 some_1 k_1 := by rw [hKe_3]; exact hR_3 (some_1, k_1) hI0
   unfold ref19_All_l3 at hM
   refine HW.fr [(0, vl), (2, .pointer (some ⟨b_1, 0, none⟩)), (3, .pointer (some ⟨b_3, 0, none⟩)), (4, vall_1), (6, .int .i64 i_2), (7, .bool some_1), (8, .int .i64 k_1)] ⟨e0, e2, e3, e4, e6, e7, e8, trivial⟩ ?_
   refine HW.seq ?_
   refine HW.seq ?_
   refine HW.region ?_
   refine oM (.int .i64 k_1) rfl rfl ?_
   refine oM (vl) rfl rfl ?_
   refine oV (.int .i64 (l.length : Int)) (q_len ts_133 (shp hL_l.is) rfl rfl) rfl ?_
   refine oV (.bool (decide (k_1 < (l.length : Int)))) (q_lss rfl rfl) rfl ?_
   refine HO.nil (thenQ_normal (?_))
   refine HW.cond (decide (k_1 < (l.length : Int))) rfl (fun c_4 => ?_) (fun c_4 => ?_)
   ·
    replace hM := hM.1 (of_decide_eq_true c_4)
    refine HW.skip (thenQ_normal (?_))
    refine HW.seq ?_
    refine HW.block ?_
    refine HW.regionA 13 mixed (fun h => (SliceIs h 2 e_api_Filter vl l) ∧ (SliceIs h 17 e_api_Addr vall_1 all_1)) [] (by kernel_rfl) ?_
    refine HA.val (k := 0) (v := .bool some_1) rfl rfl (by kernel_rfl) (by kernel_rfl) (want_none) rfl (fun _ ⟨hL_l, hL_1⟩ => q_move rfl) ?_
    refine HA.val (k := 1) (v := .bool some_1) rfl rfl (by kernel_rfl) (by kernel_rfl) (want_none) rfl (fun _ ⟨hL_l, hL_1⟩ => q_move rfl) ?_
    rcases Bool.eq_false_or_eq_true some_1 with c_5 | c_5
    ·
     replace hM := hM.1 c_5
     refine HA.past (k := 2) rfl rfl (by kernel_rfl) (by kernel_rfl) (past_by rfl rfl c_5) rfl ?_
     refine HA.past (k := 3) rfl rfl (by kernel_rfl) (by kernel_rfl) (past_by rfl rfl c_5) rfl ?_
     refine HA.past (k := 4) rfl rfl (by kernel_rfl) (by kernel_rfl) (past_by rfl rfl c_5) rfl ?_
     refine HA.past (k := 5) rfl rfl (by kernel_rfl) (by kernel_rfl) (past_by rfl rfl c_5) rfl ?_
     refine HA.past (k := 6) rfl rfl (by kernel_rfl) (by kernel_rfl) (past_by rfl rfl c_5) rfl ?_
     refine HA.past (k := 7) rfl rfl (by kernel_rfl) (by kernel_rfl) (past_by rfl rfl c_5) rfl ?_
     refine HA.past (k := 8) rfl rfl (by kernel_rfl) (by kernel_rfl) (past_by rfl rfl c_5) rfl ?_
     refine HA.past (k := 9) rfl rfl (by kernel_rfl) (by kernel_rfl) (past_by rfl rfl c_5) rfl ?_
     refine HA.one (k := 10) ⟨⟨hL_l.is, hL_1.is⟩, (Go.Wk.at_nil _ _)⟩ (by kernel_rfl) ?_
     refine HS.past rfl (past_by rfl rfl c_5) rfl ?_
     refine HA.val (k := 11) (v := .bool true) rfl rfl (by kernel_rfl) (by kernel_rfl) (want_none) rfl (fun _ ⟨hL_l, hL_1⟩ => q_pickK true rfl c_5 rfl) ?_
     refine HA.val (k := 12) (v := .bool true) rfl rfl (by kernel_rfl) (by kernel_rfl) (want_none) rfl (fun _ ⟨hL_l, hL_1⟩ => q_assign rfl) ?_
     refine HA.nil ⟨⟨hL_l.is, hL_1.is⟩, (Go.Wk.at_nil _ _)⟩ (by kernel_rfl) (blockQ_normal (thenQ_normal (?_)))
     refine HW.region ?_
     refine oM (.int .i64 k_1) rfl rfl ?_
     obtain ⟨ho_4, hM⟩ := hM
     refine oV (.int .i64 (k_1 + 1)) (q_addN _ rfl rfl rfl ho_4.1 ho_4.2) rfl ?_
     refine oA (.int .i64 (k_1 + 1)) rfl rfl ?_
     refine HO.nil (thenQ_normal (?_))
     rw [hKe_3] at hM
     exact ⟨(true, k_1 + 1), ⟨F_6, rfl, rfl, rfl, rfl, rfl, rfl, rfl, hK, hS, hN_l, hL_l, hL_1, hM.1⟩, hM.2⟩
    ·
     replace hM := hM.2 c_5
     refine HA.val (k := 2) (v := vl) rfl rfl (by kernel_rfl) (by kernel_rfl) (want_by rfl rfl c_5) rfl (fun _ ⟨hL_l, hL_1⟩ => q_move rfl) ?_
     refine HA.val (k := 3) (v := .int .i64 k_1) rfl rfl (by kernel_rfl) (by kernel_rfl) (want_by rfl rfl c_5) rfl (fun _ ⟨hL_l, hL_1⟩ => q_move rfl) ?_
     obtain ⟨ho_5, hM⟩ := hM
     refine HA.val (k := 4) (v := elemPtr 2 vl (k_1).toNat) rfl rfl (by kernel_rfl) (by kernel_rfl) (want_by rfl rfl c_5) rfl (fun _ ⟨hL_l, hL_1⟩ => q_idx ts_133 hL_l rfl rfl ho_5) ?_
     refine HA.val (k := 5) (v := .agg #[.bool ((gi l k_1).1), ((gi l k_1).2).1]) rfl rfl (by kernel_rfl) (by kernel_rfl) (want_by rfl rfl c_5) rfl (fun _ ⟨hL_l, hL_1⟩ => q_ldElemAgg (cs := [.bool ((gi l k_1).1), ((gi l k_1).2).1]) ta_50 hL_l rfl ho_5 rfl) ?_
     refine HA.val (k := 6) (v := vall_1) rfl rfl (by kernel_rfl) (by kernel_rfl) (want_by rfl rfl c_5) rfl (fun _ ⟨hL_l, hL_1⟩ => q_move rfl) ?_
     refine HA.val (k := 7) (v := .int .i64 i_2) rfl rfl (by kernel_rfl) (by kernel_rfl) (want_by rfl rfl c_5) rfl (fun _ ⟨hL_l, hL_1⟩ => q_move rfl) ?_
     obtain ⟨ho_6, hM⟩ := hM
     refine HA.val (k := 8) (v := elemPtr 17 vall_1 (i_2).toNat) rfl rfl (by kernel_rfl) (by kernel_rfl) (want_by rfl rfl c_5) rfl (fun _ ⟨hL_l, hL_1⟩ => q_idx ts_29 hL_1 rfl rfl ho_6) ?_
     refine HA.val (k := 9) (v := .agg (e_api_Addr (gi all_1 i_2)).toArray) rfl rfl (by kernel_rfl) (by kernel_rfl) (want_by rfl rfl c_5) rfl (fun _ ⟨hL_l, hL_1⟩ => q_ldElemAgg (cs := (e_api_Addr (gi all_1 i_2))) ta_28 hL_1 rfl ho_6 rfl) ?_
     refine HA.one (k := 10) ⟨⟨hL_l.is, hL_1.is⟩, (Go.Wk.at_nil _ _)⟩ (by kernel_rfl) ?_
     refine HS.call rfl (want_by rfl rfl c_5) rfl (ec en_24 rfl rfl) (ref19_Lets_walk (fr := (Ow.box b_1 50 #[.bool false, .slice none 0 0] :: Ow.box b_3 50 #[.bool out_0_1, vout_1_1] :: Ow.own 28 17 e_api_Addr vout_1_1 out_1_1 :: fr)) ((gi l k_1).1) (((gi l k_1).2).2) (gi all_1 i_2) (((gi l k_1).2).1) hS (nff_api_Filter_1 (NfL.at hN_l ho_5)) hM) ?_
     rintro _ h_12 ⟨F_7, r_2, rfl, hk, hS, _, hM⟩
     replace hK := hK.trans hk
     replace hN_l := hN_l.kp hk
     replace hL_l := hL_l.kp hk
     replace hL_1 := hL_1.kp hk
     refine HA.val (k := 11) (v := .bool r_2) rfl rfl (by kernel_rfl) (by kernel_rfl) (want_none) rfl (fun _ ⟨hL_l, hL_1⟩ => q_pickK false rfl c_5 rfl) ?_
     refine HA.val (k := 12) (v := .bool r_2) rfl rfl (by kernel_rfl) (by kernel_rfl) (want_none) rfl (fun _ ⟨hL_l, hL_1⟩ => q_assign rfl) ?_
     refine HA.nil ⟨⟨hL_l.is, hL_1.is⟩, (Go.Wk.at_nil _ _)⟩ (by kernel_rfl) (blockQ_normal (thenQ_normal (?_)))
     refine HW.region ?_
     refine oM (.int .i64 k_1) rfl rfl ?_
     obtain ⟨ho_7, hM⟩ := hM
     refine oV (.int .i64 (k_1 + 1)) (q_addN _ rfl rfl rfl ho_7.1 ho_7.2) rfl ?_
     refine oA (.int .i64 (k_1 + 1)) rfl rfl ?_
     refine HO.nil (thenQ_normal (?_))
     rw [hKe_3] at hM
     exact ⟨(r_2, k_1 + 1), ⟨F_7, rfl, rfl, rfl, rfl, rfl, rfl, rfl, hK, hS, hN_l, hL_l, hL_1, hM.1⟩, hM.2⟩
   ·
    replace hM := hM.2 (of_decide_eq_false c_4)
    refine HW.exit (thenQ_exit (thenQ_exit (blockQ_exit (thenQ_normal (?_)))))
    refine HW.seq ?_
    refine HW.region ?_
    refine oM (.bool some_1) rfl rfl ?_
    refine oV (.pointer (some ⟨b_3, 0, none⟩)) (q_fieldAddr fa_50_0 rfl rfl) rfl ?_
    refine oV (.bool out_0_1) (q_load to_4 rfl (Blk.cell (hS.box 1 rfl) rfl)) rfl ?_
    refine oV (.bool (!(some_1 == out_0_1))) (q_neqB Tryz.underlying4 rfl rfl) rfl ?_
    refine HO.nil (thenQ_normal (?_))
    refine HW.cond (!(some_1 == out_0_1)) rfl (fun c_6 => ?_) (fun c_6 => ?_)
    ·
     replace hM := hM.1 c_6
     refine HW.regionA 10 mixed (fun h => (SliceIs h 17 e_api_Addr vall_1 all_1)) [(9, fun h => (Blk h b_3 (.cells #[.bool out_0_1, vout_1_1] 50 (0, 0))))] (by kernel_rfl) ?_
     refine HA.val (k := 0) (v := .pointer (some ⟨b_3, 1, none⟩)) rfl rfl (by kernel_rfl) (by kernel_rfl) (want_none) rfl (fun _ hL_1 => q_fieldAddr fa_50_1 rfl rfl) ?_
     refine Go.Wk.HA.valN (k := 1) (v := vout_1_1) 0 9 (fun h => (Blk h b_3 (.cells #[.bool out_0_1, vout_1_1] 50 (0, 0)))) rfl rfl (by kernel_rfl) (by kernel_rfl) (want_none) rfl rfl (by kernel_rfl) (fun _ hL_1 c612 => q_load to_29 rfl (Blk.cell c612 rfl)) ?_
     refine HA.val (k := 2) (v := vall_1) rfl rfl (by kernel_rfl) (by kernel_rfl) (want_none) rfl (fun _ hL_1 => q_move rfl) ?_
     refine HA.val (k := 3) (v := .int .i64 i_2) rfl rfl (by kernel_rfl) (by kernel_rfl) (want_none) rfl (fun _ hL_1 => q_move rfl) ?_
     obtain ⟨ho_8, hM⟩ := hM
     refine HA.val (k := 4) (v := elemPtr 17 vall_1 (i_2).toNat) rfl rfl (by kernel_rfl) (by kernel_rfl) (want_none) rfl (fun _ hL_1 => q_idx ts_29 hL_1 rfl rfl ho_8) ?_
     refine HA.val (k := 5) (v := .agg (e_api_Addr (gi all_1 i_2)).toArray) rfl rfl (by kernel_rfl) (by kernel_rfl) (want_none) rfl (fun _ hL_1 => q_ldElemAgg (cs := (e_api_Addr (gi all_1 i_2))) ta_28 hL_1 rfl ho_8 rfl) ?_
     refine HA.one (k := 6) ⟨hL_1.is, (at_now (hS.box 1 rfl) (Go.Wk.at_nil _ _))⟩ (by kernel_rfl) ?_
     refine HS.eff rfl (want_none) rfl (st_lit (enc := e_api_Addr) (cells := #[.bool ((gi all_1 i_2).1), .int .u8 (b8 ((gi all_1 i_2).2) 0), .int .u8 (b8 ((gi all_1 i_2).2) 1), .int .u8 (b8 ((gi all_1 i_2).2) 2), .int .u8 (b8 ((gi all_1 i_2).2) 3), .int .u8 (b8 ((gi all_1 i_2).2) 4), .int .u8 (b8 ((gi all_1 i_2).2) 5), .int .u8 (b8 ((gi all_1 i_2).2) 6), .int .u8 (b8 ((gi all_1 i_2).2) 7), .int .u8 (b8 ((gi all_1 i_2).2) 8), .int .u8 (b8 ((gi all_1 i_2).2) 9), .int .u8 (b8 ((gi all_1 i_2).2) 10), .int .u8 (b8 ((gi all_1 i_2).2) 11), .int .u8 (b8 ((gi all_1 i_2).2) 12), .int .u8 (b8 ((gi all_1 i_2).2) 13), .int .u8 (b8 ((gi all_1 i_2).2) 14), .int .u8 (b8 ((gi all_1 i_2).2) 15)]) #[.bool false, .int .u8 0, .int .u8 0, .int .u8 0, .int .u8 0, .int .u8 0, .int .u8 0, .int .u8 0, .int .u8 0, .int .u8 0, .int .u8 0, .int .u8 0, .int .u8 0, .int .u8 0, .int .u8 0, .int .u8 0, .int .u8 0] ([(gi all_1 i_2)] : List T_api_Addr) hS tl_29 (by decide) (by decide) (by kernel_rfl) (by kernel_rfl) rfl (by intro x hx; rfl) rfl) ?_
     rintro _ h_13 ⟨b_4, rfl, hS, hk⟩
     replace hK := hK.trans hk
     replace hN_l := hN_l.kp hk
     replace hL_l := hL_l.kp hk
     replace hL_1 := hL_1.kp hk
     refine HA.one (k := 7) ⟨hL_1.is, (at_now (hS.box 2 rfl) (Go.Wk.at_nil _ _))⟩ (by kernel_rfl) ?_
     obtain ⟨ho_9, hM⟩ := hM
     refine HS.eff rfl (want_none) rfl (st_append te_29 hS (i := 3) rfl (hS.own 0 rfl).slice rfl rfl rfl (by intro a _ u hu; simp [e_api_Addr, encI, encN, encB, encT] at hu; rcases hu with rfl | rfl | rfl | rfl | rfl | rfl | rfl | rfl | rfl | rfl | rfl | rfl | rfl | rfl | rfl | rfl | rfl <;> rfl) ho_9 (by omega)) ?_
     rintro v_1 h_14 ⟨hS, hk⟩
     replace hK := hK.trans hk
     replace hN_l := hN_l.kp hk
     replace hL_l := hL_l.kp hk
     replace hL_1 := hL_1.kp hk
     refine HA.val (k := 8) (v := .pointer (some ⟨b_3, 1, none⟩)) rfl rfl (by kernel_rfl) (by kernel_rfl) (want_none) rfl (fun _ hL_1 => q_fieldAddr fa_50_1 rfl rfl) ?_
     refine HA.one (k := 9) ⟨hL_1.is, (at_now (hS.box 2 rfl) (Go.Wk.at_nil _ _))⟩ (by kernel_rfl) ?_
     refine HS.sto rfl (want_none) rfl (st_store (c' := #[.bool out_0_1, v_1]) hS (i := 2) rfl to_29 rfl rfl (shp (hS.own 3 rfl).slice).cells (shp (hS.own 3 rfl).slice).one (Nat.le_of_ble_eq_true rfl) rfl) ?_
     rintro h_15 ⟨hS, hk⟩
     replace hK := hK.trans hk
     replace hN_l := hN_l.kp hk
     replace hL_l := hL_l.kp hk
     replace hL_1 := hL_1.kp hk
     refine HA.nil ⟨hL_1.is, (at_done (by kernel_rfl) (Go.Wk.at_nil _ _))⟩ (by kernel_rfl) (blockQ_normal (thenQ_normal (?_)))
     refine HW.region ?_
     refine oM (.int .i64 i_2) rfl rfl ?_
     obtain ⟨ho_10, hM⟩ := hM
     refine oV (.int .i64 (i_2 + 1)) (q_addN _ rfl rfl rfl ho_10.1 ho_10.2) rfl ?_
     refine oA (.int .i64 (i_2 + 1)) rfl rfl ?_
     refine HO.nil (thenQ_normal (?_))
     replace hS : St F_6 (Ow.box b_1 50 #[.bool false, .slice none 0 0] :: Ow.box b_3 50 #[.bool out_0_1, v_1] :: Ow.own 28 17 e_api_Addr v_1 (out_1_1 ++ ([(gi all_1 i_2)] : List T_api_Addr)) :: fr) h_15 := hS.perm2 [1, 2, 3] 4 rfl rfl
     rw [hKe_2] at hM
     exact ⟨(out_1_1 ++ ([(gi all_1 i_2)] : List T_api_Addr), i_2 + 1), ⟨F_6, v_1, rfl, rfl, rfl, rfl, rfl, hK, hS, hN_l, hL_l, hL_1, hM.1⟩, hM.2⟩
    ·
     replace hM := hM.2 c_6
     refine HW.skip (blockQ_normal (thenQ_normal (?_)))
     refine HW.region ?_
     refine oM (.int .i64 i_2) rfl rfl ?_
     obtain ⟨ho_11, hM⟩ := hM
     refine oV (.int .i64 (i_2 + 1)) (q_addN _ rfl rfl rfl ho_11.1 ho_11.2) rfl ?_
     refine oA (.int .i64 (i_2 + 1)) rfl rfl ?_
     refine HO.nil (thenQ_normal (?_))
     rw [hKe_2] at hM
     exact ⟨(out_1_1, i_2 + 1), ⟨F_6, vout_1_1, rfl, rfl, rfl, rfl, rfl, hK, hS, hN_l, hL_l, hL_1, hM.1⟩, hM.2⟩
  ·
   replace hM := hM.2 (of_decide_eq_false c_3)
   refine HW.exit (thenQ_exit (thenQ_exit (blockQ_exit (thenQ_normal (?_)))))
   refine HW.seq ?_
   refine HW.region ?_
   refine oV (.agg #[.bool out_0_1, vout_1_1]) (q_loadAgg (cs := [.bool out_0_1, vout_1_1]) ta_50 rfl rfl (Blk.cells (k := 2) (hS.box 1 rfl) rfl)) rfl ?_
   refine HO.sto (want_none) rfl (st_storeAgg (c' := #[.bool out_0_1, vout_1_1]) hS (i := 0) rfl ta_50 rfl rfl rfl (List.forall_mem_cons.2 ⟨rfl, (List.forall_mem_cons.2 ⟨(shp (hS.own 2 rfl).slice).one, (fun _ h => by cases h)⟩)⟩) (Nat.le_of_ble_eq_true rfl) rfl) ?_
   rintro h_16 ⟨hS, hk⟩
   replace hK := hK.trans hk
   replace hN_l := hN_l.kp hk
   replace hL_l := hL_l.kp hk
   refine HO.nil (thenQ_normal (?_))
   refine HW.ret (?_)
   refine ⟨.inr rfl, .agg #[.bool out_0_1, vout_1_1], res1 rfl (rca (cs := [.bool out_0_1, vout_1_1]) ta_50 rfl rfl (Blk.cells (k := 2) (hS.box 0 rfl) rfl)), ?_⟩
   replace hS : St F_5 (Ow.own 28 17 e_api_Addr vout_1_1 out_1_1 :: fr) h_16 := hS.perm2 [2] 3 rfl rfl
   exact ⟨F_5, out_0_1, out_1_1, vout_1_1, rfl, hK, hS, hN_l, hL_l, hM⟩
def ref19_None_W (f_Exclude : Bool) (f_Sources : List T_api_Addr) (Q : Bool → Prop) : Prop :=
 ((!f_Exclude) = true → Q (decide ((f_Sources.length : Int) = 0))) ∧ ((!f_Exclude) = false → Q false)
theorem ref19_None_walk {F : Fz} {fr : List Ow} {h0 : Heap} (f_Exclude : Bool) (f_Sources : List T_api_Addr) (vf_Sources : Value) (hS : St F (fr) h0) (hL_f_Sources : SliceF F h0 17 e_api_Addr vf_Sources f_Sources) {Q : Bool → Prop} (hM : ref19_None_W f_Exclude f_Sources Q) :
  HC Tryz.prog 81 #[.agg #[.bool f_Exclude, vf_Sources]] h0 fun u h' => ∃ (F' : Fz) (r_1 : Bool), u = .bool r_1 ∧ Kp F h0 F' h' ∧ St F' (fr) h' ∧ (SliceF F' h' 17 e_api_Addr vf_Sources f_Sources) ∧ Q r_1 := by
 unfold ref19_None_W at hM
 have hK := Kp.refl F h0
 refine HC.of_HW (n := 12) Tryz.func81 rfl rfl (Nat.le_of_ble_eq_true rfl) ?_
 refine HW.seq ?_
 refine HW.region ?_
 refine HO.eff (want_none) rfl (st_box (c := #[.bool f_Exclude, vf_Sources]) (k' := 2) hS rfl rfl) ?_
 rintro _ h_1 ⟨b_1, rfl, hS, hk⟩
 replace hK := hK.trans hk
 replace hL_f_Sources := hL_f_Sources.kp hk
 refine oA (.bool false) rfl rfl ?_
 refine HO.nil (thenQ_normal (?_))
 refine HW.seq ?_
 refine HW.region ?_
 refine oV (.pointer (some ⟨b_1, 0, none⟩)) (q_fieldAddr fa_50_0 rfl rfl) rfl ?_
 refine oV (.bool f_Exclude) (q_load to_4 rfl (Blk.cell (hS.box 0 rfl) rfl)) rfl ?_
 refine oV (.bool (!f_Exclude)) (q_not rfl) rfl ?_
 refine oM (.bool (!f_Exclude)) rfl rfl ?_
 rcases Bool.eq_false_or_eq_true (!f_Exclude) with c_1 | c_1
 ·
  replace hM := hM.1 c_1
  refine HO.val (v := .pointer (some ⟨b_1, 1, none⟩)) (want_by rfl rfl c_1) rfl (q_fieldAddr fa_50_1 rfl rfl) ?_
  refine HO.val (v := vf_Sources) (want_by rfl rfl c_1) rfl (q_load to_29 rfl (Blk.cell (hS.box 0 rfl) rfl)) ?_
  refine HO.val (v := .int .i64 (f_Sources.length : Int)) (want_by rfl rfl c_1) rfl (q_len ts_29 (shp hL_f_Sources.is) rfl rfl) ?_
  refine HO.val (v := .bool (decide ((f_Sources.length : Int) = 0))) (want_by rfl rfl c_1) rfl (q_eql rfl rfl) ?_
  refine oV (.bool (decide ((f_Sources.length : Int) = 0))) (q_pickK true rfl c_1 rfl) rfl ?_
  refine oA (.bool (decide ((f_Sources.length : Int) = 0))) rfl rfl ?_
  refine HO.nil (thenQ_normal (?_))
  refine HW.ret (?_)
  refine ⟨.inr rfl, .bool (decide ((f_Sources.length : Int) = 0)), res1 rfl (rt rfl), ?_⟩
  replace hS : St F (fr) h_1 := hS.perm2 [] 1 rfl rfl
  exact ⟨F, decide ((f_Sources.length : Int) = 0), rfl, hK, hS, hL_f_Sources, hM⟩
 ·
  replace hM := hM.2 c_1
  refine HO.past (past_by rfl rfl c_1) rfl ?_
  refine HO.past (past_by rfl rfl c_1) rfl ?_
  refine HO.past (past_by rfl rfl c_1) rfl ?_
  refine HO.past (past_by rfl rfl c_1) rfl ?_
  refine oV (.bool false) (q_pickK false rfl c_1 rfl) rfl ?_
  refine oA (.bool false) rfl rfl ?_
  refine HO.nil (thenQ_normal (?_))
  refine HW.ret (?_)
  refine ⟨.inr rfl, .bool false, res1 rfl (rt rfl), ?_⟩
  replace hS : St F (fr) h_1 := hS.perm2 [] 1 rfl rfl
  exact ⟨F, false, rfl, hK, hS, hL_f_Sources, hM⟩
end Go.Wk
