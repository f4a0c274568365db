/- Walks of Host and Proxy. -/
import Derived.Test.YtmbkoonblmfdpaaHosW2
set_option linter.unusedSimpArgs false
set_option linter.unusedVariables false
set_option linter.unusedSectionVars false
set_option maxHeartbeats 40000000
set_option maxRecDepth 100000
namespace Go.Wk
open Go.HL
open Go.Proofs hiding encI
variable [DM]
def host_Host_Hear_j5 (a0_0_2 : Bool) (a0_1_2 : Int) (a0_2_2 : List (T_api_Addr × T_api_Filter)) (a0_3_3 : Int) (a0_4_3 : Int) (out_1 : List T_api_Talk) (records_1 : List T_api_Record) (n_1 : Int) (K_1 : Bool → Int → (List (T_api_Addr × T_api_Filter)) → Int → Int → (List T_api_Talk) → (List T_api_Record) → Int → Prop) (r_0_1 : Int) (r_1_1 : Bool) (r_2_1 : Ba 16) (r_18_1 : List T_api_Addr) (ok_1 : Bool) : Prop :=
 (ok_1 = true → ∀ vr_18_1 : Value, (((records_1.length + ([(r_0_1, (r_1_1, r_2_1), (vr_18_1, r_18_1))] : List T_api_Record).length) * 56 ≤ 140737488355328) ∧ ((I64 (n_1 + 1)) ∧ (K_1 a0_0_2 a0_1_2 a0_2_2 a0_3_3 a0_4_3 out_1 (records_1 ++ ([(r_0_1, (r_1_1, r_2_1), (vr_18_1, r_18_1))] : List T_api_Record)) (n_1 + 1))))) ∧ (ok_1 = false → (I64 (n_1 + 1)) ∧ (K_1 a0_0_2 a0_1_2 a0_2_2 a0_3_3 a0_4_3 out_1 records_1 (n_1 + 1)))
def host_Host_Hear_j4 (q_V6 : Bool) (q_Version : Int) (q_Kind : Int) (q_Resp : Int) (q_Group : T_api_Addr) (q_Quiet : Bool) (q_Robust : Int) (q_Every : Int) (q_Sources : List T_api_Addr) (q_Records : List T_api_Record) (r_5 : List T_api_Addr) (a0_0_2 : Bool) (a0_1_2 : Int) (a0_2_2 : List (T_api_Addr × T_api_Filter)) (a0_3_3 : Int) (a0_4_3 : Int) (out_1 : List T_api_Talk) (records_1 : List T_api_Record) (n_1 : Int) (K_1 : Bool → Int → (List (T_api_Addr × T_api_Filter)) → Int → Int → (List T_api_Talk) → (List T_api_Record) → Int → Prop) (b_6 : Bool) : Prop :=
 (b_6 = true → (I64 (n_1 + 1)) ∧ (K_1 a0_0_2 a0_1_2 a0_2_2 a0_3_3 a0_4_3 out_1 records_1 (n_1 + 1))) ∧ (b_6 = false → host_Host_mode_W a0_0_2 a0_1_2 a0_2_2 a0_3_3 a0_4_3 (fun r_7 => compat_Last_W a0_0_2 (fun r_8 => (r_7 < r_8 → host_Host_older_W a0_0_2 a0_1_2 a0_2_2 a0_3_3 a0_4_3 (gi r_5 n_1) 2 (fun r_9 a0_v6_3 a0_now_3 a0m_3 a0_one_3 a0_two_3 => ((out_1.length + r_9.length) * 120 ≤ 140737488355328) ∧ ((I64 (n_1 + 1)) ∧ (K_1 a0_v6_3 a0_now_3 a0m_3 a0_one_3 a0_two_3 (out_1 ++ r_9) records_1 (n_1 + 1))))) ∧ (¬ (r_7 < r_8) → host_answer_W (gi r_5 n_1) ((mgetD z_api_Filter a0_2_2 (gi r_5 n_1)).1) (((mgetD z_api_Filter a0_2_2 (gi r_5 n_1)).2).2) q_V6 q_Version q_Kind q_Resp q_Group q_Quiet q_Robust q_Every q_Sources q_Records (fun r0_0_1 r0_1_1 r0_2_1 r0_18_1 r1_1 => host_Host_Hear_j5 a0_0_2 a0_1_2 a0_2_2 a0_3_3 a0_4_3 out_1 records_1 n_1 K_1 r0_0_1 r0_1_1 r0_2_1 r0_18_1 r1_1)))))
def host_Host_Hear_l1 (q_V6 : Bool) (q_Version : Int) (q_Kind : Int) (q_Resp : Int) (q_Group : T_api_Addr) (q_Quiet : Bool) (q_Robust : Int) (q_Every : Int) (q_Sources : List T_api_Addr) (q_Records : List T_api_Record) (Q : (List T_api_Talk) → Bool → Int → (List (T_api_Addr × T_api_Filter)) → Int → Int → Prop) (r_5 : List T_api_Addr) (K_1 : Bool → Int → (List (T_api_Addr × T_api_Filter)) → Int → Int → (List T_api_Talk) → (List T_api_Record) → Int → Prop) (a0_0_2 : Bool) (a0_1_2 : Int) (a0_2_2 : List (T_api_Addr × T_api_Filter)) (a0_3_3 : Int) (a0_4_3 : Int) (out_1 : List T_api_Talk) (records_1 : List T_api_Record) (n_1 : Int) : Prop :=
 (n_1 < (r_5.length : Int) → ((0 : Int) ≤ n_1 ∧ n_1 < (r_5.length : Int)) ∧ (addr_Zero_W q_Group (fun r_6 => ((!r_6) = true → host_Host_Hear_j4 q_V6 q_Version q_Kind q_Resp q_Group q_Quiet q_Robust q_Every q_Sources q_Records r_5 a0_0_2 a0_1_2 a0_2_2 a0_3_3 a0_4_3 out_1 records_1 n_1 K_1 (!decide ((q_Group : T_api_Addr) = (gi r_5 n_1)))) ∧ ((!r_6) = false → host_Host_Hear_j4 q_V6 q_Version q_Kind q_Resp q_Group q_Quiet q_Robust q_Every q_Sources q_Records r_5 a0_0_2 a0_1_2 a0_2_2 a0_3_3 a0_4_3 out_1 records_1 n_1 K_1 false)))) ∧ (¬ (n_1 < (r_5.length : Int)) → host_pack_W a0_0_2 records_1 (fun r_10 => ((out_1.length + r_10.length) * 120 ≤ 140737488355328) ∧ (Q (out_1 ++ r_10) a0_0_2 a0_1_2 a0_2_2 a0_3_3 a0_4_3)))
def host_Host_Hear_j2 (q_V6 : Bool) (q_Version : Int) (q_Kind : Int) (q_Resp : Int) (q_Group : T_api_Addr) (q_Quiet : Bool) (q_Robust : Int) (q_Every : Int) (q_Sources : List T_api_Addr) (q_Records : List T_api_Record) (Q : (List T_api_Talk) → Bool → Int → (List (T_api_Addr × T_api_Filter)) → Int → Int → Prop) (a0_v6_2 : Bool) (a0_now_2 : Int) (a0m_2 : List (T_api_Addr × T_api_Filter)) (a0_3_2 : Int) (a0_4_2 : Int) : Prop :=
 host_Host_groups_W a0_v6_2 a0_now_2 a0m_2 a0_3_2 a0_4_2 (fun r_5 => loopW (fun (K_1 : (Bool × Int × (List (T_api_Addr × T_api_Filter)) × Int × Int × List T_api_Talk × List T_api_Record × Int) → Prop) (s : Bool × Int × (List (T_api_Addr × T_api_Filter)) × Int × Int × List T_api_Talk × List T_api_Record × Int) => host_Host_Hear_l1 q_V6 q_Version q_Kind q_Resp q_Group q_Quiet q_Robust q_Every q_Sources q_Records Q r_5 (fun a0_0_2 a0_1_2 a0_2_2 a0_3_3 a0_4_3 out_1 records_1 n_1 => K_1 (a0_0_2, a0_1_2, a0_2_2, a0_3_3, a0_4_3, out_1, records_1, n_1)) s.1 s.2.1 s.2.2.1 s.2.2.2.1 s.2.2.2.2.1 s.2.2.2.2.2.1 s.2.2.2.2.2.2.1 s.2.2.2.2.2.2.2) (a0_v6_2, a0_now_2, a0m_2, a0_3_2, a0_4_2, [], [], 0))
def host_Host_Hear_j3 (t : T_api_Tune) (q_V6 : Bool) (q_Version : Int) (q_Kind : Int) (q_Resp : Int) (q_Group : T_api_Addr) (q_Quiet : Bool) (q_Robust : Int) (q_Every : Int) (q_Sources : List T_api_Addr) (q_Records : List T_api_Record) (Q : (List T_api_Talk) → Bool → Int → (List (T_api_Addr × T_api_Filter)) → Int → Int → Prop) (a0_v6_2 : Bool) (a0_now_2 : Int) (a0m_2 : List (T_api_Addr × T_api_Filter)) (a0_one_2 : Int) (a0_two_2 : Int) (b_4 : Bool) : Prop :=
 (b_4 = true → tune_Older_W t (fun r_4 => (I64 (a0_now_2 + r_4)) ∧ (host_Host_Hear_j2 q_V6 q_Version q_Kind q_Resp q_Group q_Quiet q_Robust q_Every q_Sources q_Records Q a0_v6_2 a0_now_2 a0m_2 a0_one_2 (a0_now_2 + r_4)))) ∧ (b_4 = false → host_Host_Hear_j2 q_V6 q_Version q_Kind q_Resp q_Group q_Quiet q_Robust q_Every q_Sources q_Records Q a0_v6_2 a0_now_2 a0m_2 a0_one_2 a0_two_2)
def host_Host_Hear_j1 (t : T_api_Tune) (q_V6 : Bool) (q_Version : Int) (q_Kind : Int) (q_Resp : Int) (q_Group : T_api_Addr) (q_Quiet : Bool) (q_Robust : Int) (q_Every : Int) (q_Sources : List T_api_Addr) (q_Records : List T_api_Record) (Q : (List T_api_Talk) → Bool → Int → (List (T_api_Addr × T_api_Filter)) → Int → Int → Prop) (a0_v6_2 : Bool) (a0_now_2 : Int) (a0m_2 : List (T_api_Addr × T_api_Filter)) (a0_one_2 : Int) (a0_two_2 : Int) (b_3 : Bool) : Prop :=
 (b_3 = true → Q [] a0_v6_2 a0_now_2 a0m_2 a0_one_2 a0_two_2) ∧ (b_3 = false → (q_Version = 1 → tune_Older_W t (fun r_3 => (I64 (a0_now_2 + r_3)) ∧ (host_Host_Hear_j2 q_V6 q_Version q_Kind q_Resp q_Group q_Quiet q_Robust q_Every q_Sources q_Records Q a0_v6_2 a0_now_2 a0m_2 (a0_now_2 + r_3) a0_two_2))) ∧ (¬ (q_Version = 1) → (q_Version = 2 → host_Host_Hear_j3 t q_V6 q_Version q_Kind q_Resp q_Group q_Quiet q_Robust q_Every q_Sources q_Records Q a0_v6_2 a0_now_2 a0m_2 a0_one_2 a0_two_2 (!a0_v6_2)) ∧ (¬ (q_Version = 2) → host_Host_Hear_j3 t q_V6 q_Version q_Kind q_Resp q_Group q_Quiet q_Robust q_Every q_Sources q_Records Q a0_v6_2 a0_now_2 a0m_2 a0_one_2 a0_two_2 false)))
def host_Host_Hear_W (h_v6 : Bool) (h_now : Int) (h_want : List (T_api_Addr × T_api_Filter)) (h_one : Int) (h_two : Int) (now : Int) (t : T_api_Tune) (q_V6 : Bool) (q_Version : Int) (q_Kind : Int) (q_Resp : Int) (q_Group : T_api_Addr) (q_Quiet : Bool) (q_Robust : Int) (q_Every : Int) (q_Sources : List T_api_Addr) (q_Records : List T_api_Record) (Q : (List T_api_Talk) → Bool → Int → (List (T_api_Addr × T_api_Filter)) → Int → Int → Prop) : Prop :=
 host_Host_settle_W h_v6 h_now h_want h_one h_two now (fun r_2 a0_v6_2 a0_now_2 a0m_2 a0_one_2 a0_two_2 => (¬ (q_Kind = 1) → host_Host_Hear_j1 t q_V6 q_Version q_Kind q_Resp q_Group q_Quiet q_Robust q_Every q_Sources q_Records Q a0_v6_2 a0_now_2 a0m_2 a0_one_2 a0_two_2 true) ∧ (q_Kind = 1 → host_Host_Hear_j1 t q_V6 q_Version q_Kind q_Resp q_Group q_Quiet q_Robust q_Every q_Sources q_Records Q a0_v6_2 a0_now_2 a0m_2 a0_one_2 a0_two_2 (!(q_V6 == a0_v6_2))))
theorem host_Host_Hear_walk {F : Fz} {fr : List Ow} {h0 : Heap} (h_v6 : Bool) (h_now : Int) (h_want : List (T_api_Addr × T_api_Filter)) (h_one : Int) (h_two : Int) (now : Int) (t : T_api_Tune) (q_V6 : Bool) (q_Version : Int) (q_Kind : Int) (q_Resp : Int) (q_Group : T_api_Addr) (q_Quiet : Bool) (q_Robust : Int) (q_Every : Int) (q_Sources : List T_api_Addr) (q_Records : List T_api_Record) (bh : Nat) (rh_want : Nat) (vq_Sources : Value) (vq_Records : Value) (hS : St F (Ow.box bh 52 #[.bool h_v6, .int .i64 h_now, .map (some rh_want), .int .i64 h_one, .int .i64 h_two] :: Ow.map rh_want (fun (x : T_api_Addr) => .agg (e_api_Addr x).toArray) (fun (x : T_api_Filter) => .agg #[.bool x.1, x.2.1]) h_want :: fr) h0) (hN_h_want : NfL nf_api_Filter F h0 (h_want.map (·.2))) (hL_q_Sources : SliceF F h0 17 e_api_Addr vq_Sources q_Sources) (hN_q_Records : NfL nf_api_Record F h0 q_Records) (hL_q_Records : SliceF F h0 19 e_api_Record vq_Records q_Records) {Q : (List T_api_Talk) → Bool → Int → (List (T_api_Addr × T_api_Filter)) → Int → Int → Prop} (hM : host_Host_Hear_W h_v6 h_now h_want h_one h_two now t q_V6 q_Version q_Kind q_Resp q_Group q_Quiet q_Robust q_Every q_Sources q_Records Q) :
  HC Try.prog 9 #[.pointer (some ⟨bh, 0, none⟩), .int .i64 now, .agg (e_api_Tune t).toArray, .agg (c_api_Talk (.bool q_V6) (.int .i64 q_Version) (.int .i64 q_Kind) (.int .i64 q_Resp) q_Group (.bool q_Quiet) (.int .i64 q_Robust) (.int .i64 q_Every) vq_Sources vq_Records).toArray] h0 fun u h' => ∃ (F' : Fz) (r_1 : List T_api_Talk) (a0_v6_1 : Bool) (a0_now_1 : Int) (a0m_1 : List (T_api_Addr × T_api_Filter)) (a0_one_1 : Int) (a0_two_1 : Int) (vr_1 : Value), u = vr_1 ∧ Kp F h0 F' h' ∧ St F' (Ow.own 39 26 e_api_Talk vr_1 r_1 :: Ow.box bh 52 #[.bool a0_v6_1, .int .i64 a0_now_1, .map (some rh_want), .int .i64 a0_one_1, .int .i64 a0_two_1] :: Ow.map rh_want (fun (x : T_api_Addr) => .agg (e_api_Addr x).toArray) (fun (x : T_api_Filter) => .agg #[.bool x.1, x.2.1]) a0m_1 :: fr) h' ∧ (NfL nf_api_Filter F' h' (h_want.map (·.2))) ∧ (SliceF F' h' 17 e_api_Addr vq_Sources q_Sources) ∧ (NfL nf_api_Record F' h' q_Records) ∧ (SliceF F' h' 19 e_api_Record vq_Records q_Records) ∧ (NfL nf_api_Talk F' h' r_1) ∧ (NfL nf_api_Filter F' h' (a0m_1.map (·.2))) ∧ Q r_1 a0_v6_1 a0_now_1 a0m_1 a0_one_1 a0_two_1 := by
 unfold host_Host_Hear_W at hM
 have hK := Kp.refl F h0
 refine HC.of_HW (n := 125) Try.func9 rfl rfl (Nat.le_of_ble_eq_true rfl) ?_
 refine HW.seq ?_
 refine HW.region ?_
 refine HO.eff (want_none) rfl (st_box (c := (e_api_Tune t).toArray) (k' := 5) hS rfl rfl) ?_
 rintro _ h_1 ⟨b_1, rfl, hS, hk⟩
 replace hK := hK.trans hk
 replace hN_h_want := hN_h_want.kp hk
 replace hL_q_Sources := hL_q_Sources.kp hk
 replace hN_q_Records := hN_q_Records.kp hk
 replace hL_q_Records := hL_q_Records.kp hk
 refine HO.eff (want_none) rfl (st_box (c := (c_api_Talk (.bool q_V6) (.int .i64 q_Version) (.int .i64 q_Kind) (.int .i64 q_Resp) q_Group (.bool q_Quiet) (.int .i64 q_Robust) (.int .i64 q_Every) vq_Sources vq_Records).toArray) (k' := 26) hS rfl rfl) ?_
 rintro _ h_2 ⟨b_2, rfl, hS, hk⟩
 replace hK := hK.trans hk
 replace hN_h_want := hN_h_want.kp hk
 replace hL_q_Sources := hL_q_Sources.kp hk
 replace hN_q_Records := hN_q_Records.kp hk
 replace hL_q_Records := hL_q_Records.kp hk
 refine oA (.slice none 0 0) rfl rfl ?_
 refine HO.nil (thenQ_normal (?_))
 refine HW.seq ?_
 refine HW.seq ?_
 refine HW.region ?_
 refine oM (.pointer (some ⟨bh, 0, none⟩)) rfl rfl ?_
 refine oV (.bool false) (q_eqlPnil Try.underlying22 rfl rfl rfl) rfl ?_
 refine HO.nil (thenQ_normal (?_))
 refine HW.condF rfl ?_
 refine HW.skip (thenQ_normal (?_))
 refine HW.seq ?_
 refine HW.region ?_
 refine oM (.pointer (some ⟨bh, 0, none⟩)) rfl rfl ?_
 refine oM (.int .i64 now) rfl rfl ?_
 replace hS : St F (Ow.box bh 52 #[.bool h_v6, .int .i64 h_now, .map (some rh_want), .int .i64 h_one, .int .i64 h_two] :: Ow.map rh_want (fun (x : T_api_Addr) => .agg (e_api_Addr x).toArray) (fun (x : T_api_Filter) => .agg #[.bool x.1, x.2.1]) h_want :: Ow.box b_2 39 (c_api_Talk (.bool q_V6) (.int .i64 q_Version) (.int .i64 q_Kind) (.int .i64 q_Resp) q_Group (.bool q_Quiet) (.int .i64 q_Robust) (.int .i64 q_Every) vq_Sources vq_Records).toArray :: Ow.box b_1 42 (e_api_Tune t).toArray :: fr) h_2 := hS.perm2 [2, 3, 0, 1] 4 rfl rfl
 refine HO.call (want_none) rfl (ec en_16 rfl rfl) (host_Host_settle_walk (fr := (Ow.box b_2 39 (c_api_Talk (.bool q_V6) (.int .i64 q_Version) (.int .i64 q_Kind) (.int .i64 q_Resp) q_Group (.bool q_Quiet) (.int .i64 q_Robust) (.int .i64 q_Every) vq_Sources vq_Records).toArray :: Ow.box b_1 42 (e_api_Tune t).toArray :: fr)) h_v6 h_now h_want h_one h_two now bh rh_want hS hN_h_want hM) ?_
 rintro _ h_3 ⟨F_1, r_2, a0_v6_2, a0_now_2, a0m_2, a0_one_2, a0_two_2, rfl, hk, hS, _, hL_1, hM⟩
 replace hK := hK.trans hk
 replace hN_h_want := hN_h_want.kp hk
 replace hL_q_Sources := hL_q_Sources.kp hk
 replace hN_q_Records := hN_q_Records.kp hk
 replace hL_q_Records := hL_q_Records.kp hk
 refine HO.nil (thenQ_normal (?_))
 refine HW.seq ?_
 refine HW.seq_mid (fun f h => ∃ (F' : Fz) (b_3 : Bool), f 0 = .pointer (some ⟨bh, 0, none⟩) ∧ f 6 = .pointer (some ⟨b_1, 0, none⟩) ∧ f 7 = .pointer (some ⟨b_2, 0, none⟩) ∧ f 8 = .slice none 0 0 ∧ f 31 = .bool b_3 ∧ Kp F h0 F' h ∧ St F' (Ow.box bh 52 #[.bool a0_v6_2, .int .i64 a0_now_2, .map (some rh_want), .int .i64 a0_one_2, .int .i64 a0_two_2] :: Ow.map rh_want (fun (x : T_api_Addr) => .agg (e_api_Addr x).toArray) (fun (x : T_api_Filter) => .agg #[.bool x.1, x.2.1]) a0m_2 :: Ow.box b_1 42 (e_api_Tune t).toArray :: Ow.box b_2 39 (c_api_Talk (.bool q_V6) (.int .i64 q_Version) (.int .i64 q_Kind) (.int .i64 q_Resp) q_Group (.bool q_Quiet) (.int .i64 q_Robust) (.int .i64 q_Every) vq_Sources vq_Records).toArray :: fr) h ∧ (NfL nf_api_Filter F' h (h_want.map (·.2))) ∧ (SliceF F' h 17 e_api_Addr vq_Sources q_Sources) ∧ (NfL nf_api_Record F' h q_Records) ∧ (SliceF F' h 19 e_api_Record vq_Records q_Records) ∧ (NfL nf_api_Filter F' h (a0m_2.map (·.2))) ∧ host_Host_Hear_j1 t q_V6 q_Version q_Kind q_Resp q_Group q_Quiet q_Robust q_Every q_Sources q_Records Q a0_v6_2 a0_now_2 a0m_2 a0_one_2 a0_two_2 b_3) ?_ ?_
 ·
  refine HW.regionA 12 mixed (fun h => (NfI nf_api_Filter h (h_want.map (·.2))) ∧ (SliceIs h 17 e_api_Addr vq_Sources q_Sources) ∧ (NfI nf_api_Record h q_Records) ∧ (SliceIs h 19 e_api_Record vq_Records q_Records) ∧ (NfI nf_api_Filter h (a0m_2.map (·.2))) ∧ (Blk h bh (.cells #[.bool a0_v6_2, .int .i64 a0_now_2, .map (some rh_want), .int .i64 a0_one_2, .int .i64 a0_two_2] 52 (0, 0))) ∧ (MapIs h rh_want (fun (x : T_api_Addr) => .agg (e_api_Addr x).toArray) (fun (x : T_api_Filter) => .agg #[.bool x.1, x.2.1]) a0m_2) ∧ (Blk h b_2 (.cells (c_api_Talk (.bool q_V6) (.int .i64 q_Version) (.int .i64 q_Kind) (.int .i64 q_Resp) q_Group (.bool q_Quiet) (.int .i64 q_Robust) (.int .i64 q_Every) vq_Sources vq_Records).toArray 39 (0, 0))) ∧ (Blk h b_1 (.cells (e_api_Tune t).toArray 42 (0, 0)))) [] (by kernel_rfl) ?_
  refine HA.val (k := 0) (v := .pointer (some ⟨b_2, 2, none⟩)) rfl rfl (by kernel_rfl) (by kernel_rfl) (want_none) rfl (fun _ ⟨hN_h_want, hL_q_Sources, hN_q_Records, hL_q_Records, hL_1, c1, c2, c209, c208⟩ => q_fieldAddr fa_39_2 rfl rfl) ?_
  refine HA.val (k := 1) (v := .int .i64 q_Kind) rfl rfl (by kernel_rfl) (by kernel_rfl) (want_none) rfl (fun _ ⟨hN_h_want, hL_q_Sources, hN_q_Records, hL_q_Records, hL_1, c1, c2, c209, c208⟩ => q_load to_3 rfl (Blk.cell c209 rfl)) ?_
  refine HA.val (k := 2) (v := .bool (!decide (q_Kind = 1))) rfl rfl (by kernel_rfl) (by kernel_rfl) (want_none) rfl (fun _ ⟨hN_h_want, hL_q_Sources, hN_q_Records, hL_q_Records, hL_1, c1, c2, c209, c208⟩ => q_neq rfl rfl) ?_
  refine HA.val (k := 3) (v := .bool (!decide (q_Kind = 1))) rfl rfl (by kernel_rfl) (by kernel_rfl) (want_none) rfl (fun _ ⟨hN_h_want, hL_q_Sources, hN_q_Records, hL_q_Records, hL_1, c1, c2, c209, c208⟩ => q_move rfl) ?_
  rcases Bool.eq_false_or_eq_true (!decide (q_Kind = 1)) with c_1 | c_1
  ·
   replace hM := hM.1 (nd_true c_1)
   refine HA.past (k := 4) rfl rfl (by kernel_rfl) (by kernel_rfl) (past_by rfl rfl c_1) rfl ?_
   refine HA.past (k := 5) rfl rfl (by kernel_rfl) (by kernel_rfl) (past_by rfl rfl c_1) rfl ?_
   refine HA.past (k := 6) rfl rfl (by kernel_rfl) (by kernel_rfl) (past_by rfl rfl c_1) rfl ?_
   refine HA.past (k := 7) rfl rfl (by kernel_rfl) (by kernel_rfl) (past_by rfl rfl c_1) rfl ?_
   refine HA.past (k := 8) rfl rfl (by kernel_rfl) (by kernel_rfl) (past_by rfl rfl c_1) rfl ?_
   refine HA.past (k := 9) rfl rfl (by kernel_rfl) (by kernel_rfl) (past_by rfl rfl c_1) rfl ?_
   refine HA.past (k := 10) rfl rfl (by kernel_rfl) (by kernel_rfl) (past_by rfl rfl c_1) rfl ?_
   refine HA.val (k := 11) (v := .bool true) rfl rfl (by kernel_rfl) (by kernel_rfl) (want_none) rfl (fun _ ⟨hN_h_want, hL_q_Sources, hN_q_Records, hL_q_Records, hL_1, c1, c2, c209, c208⟩ => q_pickK true rfl c_1 rfl) ?_
   refine HA.nil ⟨⟨hN_h_want.is, hL_q_Sources.is, hN_q_Records.is, hL_q_Records.is, hL_1.is, (hS.box 0 rfl), (hS.mp 1 rfl), (hS.box 2 rfl), (hS.box 3 rfl)⟩, (Go.Wk.at_nil _ _)⟩ (by kernel_rfl) (thenQ_normal (?_))
   replace hS : St F_1 (Ow.box bh 52 #[.bool a0_v6_2, .int .i64 a0_now_2, .map (some rh_want), .int .i64 a0_one_2, .int .i64 a0_two_2] :: Ow.map rh_want (fun (x : T_api_Addr) => .agg (e_api_Addr x).toArray) (fun (x : T_api_Filter) => .agg #[.bool x.1, x.2.1]) a0m_2 :: Ow.box b_1 42 (e_api_Tune t).toArray :: Ow.box b_2 39 (c_api_Talk (.bool q_V6) (.int .i64 q_Version) (.int .i64 q_Kind) (.int .i64 q_Resp) q_Group (.bool q_Quiet) (.int .i64 q_Robust) (.int .i64 q_Every) vq_Sources vq_Records).toArray :: fr) h_3 := hS.perm2 [0, 1, 3, 2] 4 rfl rfl
   exact ⟨F_1, true, rfl, rfl, rfl, rfl, rfl, hK, hS, hN_h_want, hL_q_Sources, hN_q_Records, hL_q_Records, hL_1, hM⟩
  ·
   replace hM := hM.2 (nd_false c_1)
   refine HA.val (k := 4) (v := .pointer (some ⟨b_2, 0, none⟩)) rfl rfl (by kernel_rfl) (by kernel_rfl) (want_by rfl rfl c_1) rfl (fun _ ⟨hN_h_want, hL_q_Sources, hN_q_Records, hL_q_Records, hL_1, c1, c2, c209, c208⟩ => q_fieldAddr fa_39_0 rfl rfl) ?_
   refine HA.val (k := 5) (v := .bool q_V6) rfl rfl (by kernel_rfl) (by kernel_rfl) (want_by rfl rfl c_1) rfl (fun _ ⟨hN_h_want, hL_q_Sources, hN_q_Records, hL_q_Records, hL_1, c1, c2, c209, c208⟩ => q_load to_4 rfl (Blk.cell c209 rfl)) ?_
   refine HA.val (k := 6) (v := .pointer (some ⟨bh, 0, none⟩)) rfl rfl (by kernel_rfl) (by kernel_rfl) (want_by rfl rfl c_1) rfl (fun _ ⟨hN_h_want, hL_q_Sources, hN_q_Records, hL_q_Records, hL_1, c1, c2, c209, c208⟩ => q_move rfl) ?_
   refine HA.val (k := 7) (v := .pointer (some ⟨bh, 0, none⟩)) rfl rfl (by kernel_rfl) (by kernel_rfl) (want_by rfl rfl c_1) rfl (fun _ ⟨hN_h_want, hL_q_Sources, hN_q_Records, hL_q_Records, hL_1, c1, c2, c209, c208⟩ => q_nilCheck rfl) ?_
   refine HA.val (k := 8) (v := .pointer (some ⟨bh, 0, none⟩)) rfl rfl (by kernel_rfl) (by kernel_rfl) (want_by rfl rfl c_1) rfl (fun _ ⟨hN_h_want, hL_q_Sources, hN_q_Records, hL_q_Records, hL_1, c1, c2, c209, c208⟩ => q_fieldAddr fa_52_0 rfl rfl) ?_
   refine HA.val (k := 9) (v := .bool a0_v6_2) rfl rfl (by kernel_rfl) (by kernel_rfl) (want_by rfl rfl c_1) rfl (fun _ ⟨hN_h_want, hL_q_Sources, hN_q_Records, hL_q_Records, hL_1, c1, c2, c209, c208⟩ => q_load to_4 rfl (Blk.cell c1 rfl)) ?_
   refine HA.val (k := 10) (v := .bool (!(q_V6 == a0_v6_2))) rfl rfl (by kernel_rfl) (by kernel_rfl) (want_by rfl rfl c_1) rfl (fun _ ⟨hN_h_want, hL_q_Sources, hN_q_Records, hL_q_Records, hL_1, c1, c2, c209, c208⟩ => q_neqB Try.underlying4 rfl rfl) ?_
   refine HA.val (k := 11) (v := .bool (!(q_V6 == a0_v6_2))) rfl rfl (by kernel_rfl) (by kernel_rfl) (want_none) rfl (fun _ ⟨hN_h_want, hL_q_Sources, hN_q_Records, hL_q_Records, hL_1, c1, c2, c209, c208⟩ => q_pickK false rfl c_1 rfl) ?_
   refine HA.nil ⟨⟨hN_h_want.is, hL_q_Sources.is, hN_q_Records.is, hL_q_Records.is, hL_1.is, (hS.box 0 rfl), (hS.mp 1 rfl), (hS.box 2 rfl), (hS.box 3 rfl)⟩, (Go.Wk.at_nil _ _)⟩ (by kernel_rfl) (thenQ_normal (?_))
   replace hS : St F_1 (Ow.box bh 52 #[.bool a0_v6_2, .int .i64 a0_now_2, .map (some rh_want), .int .i64 a0_one_2, .int .i64 a0_two_2] :: Ow.map rh_want (fun (x : T_api_Addr) => .agg (e_api_Addr x).toArray) (fun (x : T_api_Filter) => .agg #[.bool x.1, x.2.1]) a0m_2 :: Ow.box b_1 42 (e_api_Tune t).toArray :: Ow.box b_2 39 (c_api_Talk (.bool q_V6) (.int .i64 q_Version) (.int .i64 q_Kind) (.int .i64 q_Resp) q_Group (.bool q_Quiet) (.int .i64 q_Robust) (.int .i64 q_Every) vq_Sources vq_Records).toArray :: fr) h_3 := hS.perm2 [0, 1, 3, 2] 4 rfl rfl
   exact ⟨F_1, !(q_V6 == a0_v6_2), rfl, rfl, rfl, rfl, rfl, hK, hS, hN_h_want, hL_q_Sources, hN_q_Records, hL_q_Records, hL_1, hM⟩
 ·
  rintro f_1 h_4 ⟨F_2, b_3, e0, e6, e7, e8, e31, hK, hS, hN_h_want, hL_q_Sources, hN_q_Records, hL_q_Records, hL_1, hM⟩
  unfold host_Host_Hear_j1 at hM
  refine HW.fr [(0, .pointer (some ⟨bh, 0, none⟩)), (6, .pointer (some ⟨b_1, 0, none⟩)), (7, .pointer (some ⟨b_2, 0, none⟩)), (8, .slice none 0 0), (31, .bool b_3)] ⟨e0, e6, e7, e8, e31, trivial⟩ ?_
  refine HW.cond b_3 rfl (fun c_2 => ?_) (fun c_2 => ?_)
  ·
   replace hM := hM.1 c_2
   refine HW.seq ?_
   refine HW.region ?_
   refine oA (.slice none 0 0) rfl rfl ?_
   refine HO.nil (thenQ_normal (?_))
   refine HW.ret (thenQ_ret (?_))
   refine ⟨.inr rfl, .slice none 0 0, res1 rfl (rt rfl), ?_⟩
   replace hS := hS.nilOwn 39 26 e_api_Talk
   have hN_4 : NfL nf_api_Talk F_2 h_4 ([] : List T_api_Talk) := NfL.nil _ _ _
   replace hS : St F_2 (Ow.own 39 26 e_api_Talk (.slice none 0 0) ([] : List T_api_Talk) :: Ow.box bh 52 #[.bool a0_v6_2, .int .i64 a0_now_2, .map (some rh_want), .int .i64 a0_one_2, .int .i64 a0_two_2] :: Ow.map rh_want (fun (x : T_api_Addr) => .agg (e_api_Addr x).toArray) (fun (x : T_api_Filter) => .agg #[.bool x.1, x.2.1]) a0m_2 :: fr) h_4 := hS.perm2 [0, 1, 2] 5 rfl rfl
   exact ⟨F_2, [], a0_v6_2, a0_now_2, a0m_2, a0_one_2, a0_two_2, .slice none 0 0, rfl, hK, hS, hN_h_want, hL_q_Sources, hN_q_Records, hL_q_Records, hN_4, hL_1, hM⟩
  ·
   replace hM := hM.2 c_2
   refine HW.skip (thenQ_normal (?_))
   refine HW.seq_mid (fun f h => ∃ (F' : Fz) (a0_3_2 : Int) (a0_4_2 : Int), f 0 = .pointer (some ⟨bh, 0, none⟩) ∧ f 7 = .pointer (some ⟨b_2, 0, none⟩) ∧ f 8 = .slice none 0 0 ∧ Kp F h0 F' h ∧ St F' (Ow.box bh 52 #[.bool a0_v6_2, .int .i64 a0_now_2, .map (some rh_want), .int .i64 a0_3_2, .int .i64 a0_4_2] :: Ow.map rh_want (fun (x : T_api_Addr) => .agg (e_api_Addr x).toArray) (fun (x : T_api_Filter) => .agg #[.bool x.1, x.2.1]) a0m_2 :: Ow.box b_2 39 (c_api_Talk (.bool q_V6) (.int .i64 q_Version) (.int .i64 q_Kind) (.int .i64 q_Resp) q_Group (.bool q_Quiet) (.int .i64 q_Robust) (.int .i64 q_Every) vq_Sources vq_Records).toArray :: fr) h ∧ (NfL nf_api_Filter F' h (h_want.map (·.2))) ∧ (SliceF F' h 17 e_api_Addr vq_Sources q_Sources) ∧ (NfL nf_api_Record F' h q_Records) ∧ (SliceF F' h 19 e_api_Record vq_Records q_Records) ∧ (NfL nf_api_Filter F' h (a0m_2.map (·.2))) ∧ host_Host_Hear_j2 q_V6 q_Version q_Kind q_Resp q_Group q_Quiet q_Robust q_Every q_Sources q_Records Q a0_v6_2 a0_now_2 a0m_2 a0_3_2 a0_4_2) ?_ ?_
   ·
    refine HW.block ?_
    refine HW.seq ?_
    refine HW.region ?_
    refine oV (.pointer (some ⟨b_2, 1, none⟩)) (q_fieldAddr fa_39_1 rfl rfl) rfl ?_
    refine oV (.int .i64 q_Version) (q_load to_3 rfl (Blk.cell (hS.box 3 rfl) rfl)) rfl ?_
    refine oV (.bool (decide (q_Version = 1))) (q_eql rfl rfl) rfl ?_
    refine oA (.bool (decide (q_Version = 1))) rfl rfl ?_
    refine HO.nil (thenQ_normal (?_))
    refine HW.cond (decide (q_Version = 1)) rfl (fun c_3 => ?_) (fun c_3 => ?_)
    ·
     replace hM := hM.1 (of_decide_eq_true c_3)
     refine HW.regionA 11 mixed (fun h => (Blk h b_1 (.cells (e_api_Tune t).toArray 42 (0, 0)))) [(10, fun h => (Blk h bh (.cells #[.bool a0_v6_2, .int .i64 a0_now_2, .map (some rh_want), .int .i64 a0_one_2, .int .i64 a0_two_2] 52 (0, 0))))] (by kernel_rfl) ?_
     refine HA.val (k := 0) (v := .pointer (some ⟨bh, 0, none⟩)) rfl rfl (by kernel_rfl) (by kernel_rfl) (want_none) rfl (fun _ c212 => q_move rfl) ?_
     refine HA.val (k := 1) (v := .pointer (some ⟨bh, 0, none⟩)) rfl rfl (by kernel_rfl) (by kernel_rfl) (want_none) rfl (fun _ c212 => q_move rfl) ?_
     refine HA.val (k := 2) (v := .pointer (some ⟨bh, 0, none⟩)) rfl rfl (by kernel_rfl) (by kernel_rfl) (want_none) rfl (fun _ c212 => q_nilCheck rfl) ?_
     refine HA.val (k := 3) (v := .pointer (some ⟨bh, 1, none⟩)) rfl rfl (by kernel_rfl) (by kernel_rfl) (want_none) rfl (fun _ c212 => q_fieldAddr fa_52_1 rfl rfl) ?_
     refine Go.Wk.HA.valN (k := 4) (v := .int .i64 a0_now_2) 0 10 (fun h => (Blk h bh (.cells #[.bool a0_v6_2, .int .i64 a0_now_2, .map (some rh_want), .int .i64 a0_one_2, .int .i64 a0_two_2] 52 (0, 0)))) rfl rfl (by kernel_rfl) (by kernel_rfl) (want_none) rfl rfl (by kernel_rfl) (fun _ c212 c210 => q_load to_3 rfl (Blk.cell c210 rfl)) ?_
     refine HA.val (k := 5) (v := .agg (e_api_Tune t).toArray) rfl rfl (by kernel_rfl) (by kernel_rfl) (want_none) rfl (fun _ c212 => q_loadAgg (cs := (e_api_Tune t)) ta_42 rfl rfl (Blk.cells (k := 5) c212 rfl)) ?_
     refine HA.one (k := 6) ⟨(hS.box 2 rfl), (at_now (hS.box 0 rfl) (Go.Wk.at_nil _ _))⟩ (by kernel_rfl) ?_
     refine HS.call rfl (want_none) rfl (ec en_25 rfl rfl) (tune_Older_walk (fr := (Ow.box bh 52 #[.bool a0_v6_2, .int .i64 a0_now_2, .map (some rh_want), .int .i64 a0_one_2, .int .i64 a0_two_2] :: Ow.map rh_want (fun (x : T_api_Addr) => .agg (e_api_Addr x).toArray) (fun (x : T_api_Filter) => .agg #[.bool x.1, x.2.1]) a0m_2 :: Ow.box b_1 42 (e_api_Tune t).toArray :: Ow.box b_2 39 (c_api_Talk (.bool q_V6) (.int .i64 q_Version) (.int .i64 q_Kind) (.int .i64 q_Resp) q_Group (.bool q_Quiet) (.int .i64 q_Robust) (.int .i64 q_Every) vq_Sources vq_Records).toArray :: fr)) t hS hM) ?_
     rintro _ h_5 ⟨F_3, r_3, rfl, hk, hS, hM⟩
     replace hK := hK.trans hk
     replace hN_h_want := hN_h_want.kp hk
     replace hL_q_Sources := hL_q_Sources.kp hk
     replace hN_q_Records := hN_q_Records.kp hk
     replace hL_q_Records := hL_q_Records.kp hk
     replace hL_1 := hL_1.kp hk
     obtain ⟨ho_1, hM⟩ := hM
     refine HA.val (k := 7) (v := .int .i64 (a0_now_2 + r_3)) rfl rfl (by kernel_rfl) (by kernel_rfl) (want_none) rfl (fun _ c212 => q_addN _ rfl rfl rfl ho_1.1 ho_1.2) ?_
     refine HA.val (k := 8) (v := .pointer (some ⟨bh, 0, none⟩)) rfl rfl (by kernel_rfl) (by kernel_rfl) (want_none) rfl (fun _ c212 => q_nilCheck rfl) ?_
     refine HA.val (k := 9) (v := .pointer (some ⟨bh, 3, none⟩)) rfl rfl (by kernel_rfl) (by kernel_rfl) (want_none) rfl (fun _ c212 => q_fieldAddr fa_52_3 rfl rfl) ?_
     refine HA.one (k := 10) ⟨(hS.box 2 rfl), (at_now (hS.box 0 rfl) (Go.Wk.at_nil _ _))⟩ (by kernel_rfl) ?_
     refine HS.sto rfl (want_none) rfl (st_store (c' := #[.bool a0_v6_2, .int .i64 a0_now_2, .map (some rh_want), .int .i64 (a0_now_2 + r_3), .int .i64 a0_two_2]) hS (i := 0) rfl to_3 rfl rfl rfl rfl (Nat.le_of_ble_eq_true rfl) rfl) ?_
     rintro h_6 ⟨hS, hk⟩
     replace hK := hK.trans hk
     replace hN_h_want := hN_h_want.kp hk
     replace hL_q_Sources := hL_q_Sources.kp hk
     replace hN_q_Records := hN_q_Records.kp hk
     replace hL_q_Records := hL_q_Records.kp hk
     replace hL_1 := hL_1.kp hk
     refine HA.nil ⟨(hS.box 2 rfl), (at_done (by kernel_rfl) (Go.Wk.at_nil _ _))⟩ (by kernel_rfl) (blockQ_normal (thenQ_normal (?_)))
     replace hS : St F_3 (Ow.box bh 52 #[.bool a0_v6_2, .int .i64 a0_now_2, .map (some rh_want), .int .i64 (a0_now_2 + r_3), .int .i64 a0_two_2] :: Ow.map rh_want (fun (x : T_api_Addr) => .agg (e_api_Addr x).toArray) (fun (x : T_api_Filter) => .agg #[.bool x.1, x.2.1]) a0m_2 :: Ow.box b_2 39 (c_api_Talk (.bool q_V6) (.int .i64 q_Version) (.int .i64 q_Kind) (.int .i64 q_Resp) q_Group (.bool q_Quiet) (.int .i64 q_Robust) (.int .i64 q_Every) vq_Sources vq_Records).toArray :: fr) h_6 := hS.perm2 [0, 1, 3] 4 rfl rfl
     exact ⟨F_3, a0_now_2 + r_3, a0_two_2, rfl, rfl, rfl, hK, hS, hN_h_want, hL_q_Sources, hN_q_Records, hL_q_Records, hL_1, hM⟩
    ·
     replace hM := hM.2 (of_decide_eq_false c_3)
     refine HW.seq_mid (fun f h => ∃ (F' : Fz) (b_4 : Bool), f 0 = .pointer (some ⟨bh, 0, none⟩) ∧ f 6 = .pointer (some ⟨b_1, 0, none⟩) ∧ f 7 = .pointer (some ⟨b_2, 0, none⟩) ∧ f 8 = .slice none 0 0 ∧ f 46 = .bool b_4 ∧ Kp F h0 F' h ∧ St F' (Ow.box bh 52 #[.bool a0_v6_2, .int .i64 a0_now_2, .map (some rh_want), .int .i64 a0_one_2, .int .i64 a0_two_2] :: Ow.map rh_want (fun (x : T_api_Addr) => .agg (e_api_Addr x).toArray) (fun (x : T_api_Filter) => .agg #[.bool x.1, x.2.1]) a0m_2 :: Ow.box b_1 42 (e_api_Tune t).toArray :: Ow.box b_2 39 (c_api_Talk (.bool q_V6) (.int .i64 q_Version) (.int .i64 q_Kind) (.int .i64 q_Resp) q_Group (.bool q_Quiet) (.int .i64 q_Robust) (.int .i64 q_Every) vq_Sources vq_Records).toArray :: fr) h ∧ (NfL nf_api_Filter F' h (h_want.map (·.2))) ∧ (SliceF F' h 17 e_api_Addr vq_Sources q_Sources) ∧ (NfL nf_api_Record F' h q_Records) ∧ (SliceF F' h 19 e_api_Record vq_Records q_Records) ∧ (NfL nf_api_Filter F' h (a0m_2.map (·.2))) ∧ host_Host_Hear_j3 t q_V6 q_Version q_Kind q_Resp q_Group q_Quiet q_Robust q_Every q_Sources q_Records Q a0_v6_2 a0_now_2 a0m_2 a0_one_2 a0_two_2 b_4) ?_ ?_
     ·
      refine HW.region ?_
      refine oV (.pointer (some ⟨b_2, 1, none⟩)) (q_fieldAddr fa_39_1 rfl rfl) rfl ?_
      refine oV (.int .i64 q_Version) (q_load to_3 rfl (Blk.cell (hS.box 3 rfl) rfl)) rfl ?_
      refine oV (.bool (decide (q_Version = 2))) (q_eql rfl rfl) rfl ?_
      refine oM (.bool (decide (q_Version = 2))) rfl rfl ?_
      rcases Bool.eq_false_or_eq_true (decide (q_Version = 2)) with c_4 | c_4
      ·
       replace hM := hM.1 (of_decide_eq_true c_4)
       refine HO.val (v := .pointer (some ⟨bh, 0, none⟩)) (want_by rfl rfl c_4) rfl (q_move rfl) ?_
       refine HO.val (v := .pointer (some ⟨bh, 0, none⟩)) (want_by rfl rfl c_4) rfl (q_nilCheck rfl) ?_
       refine HO.val (v := .pointer (some ⟨bh, 0, none⟩)) (want_by rfl rfl c_4) rfl (q_fieldAddr fa_52_0 rfl rfl) ?_
       refine HO.val (v := .bool a0_v6_2) (want_by rfl rfl c_4) rfl (q_load to_4 rfl (Blk.cell (hS.box 0 rfl) rfl)) ?_
       refine HO.val (v := .bool (!a0_v6_2)) (want_by rfl rfl c_4) rfl (q_not rfl) ?_
       refine oV (.bool (!a0_v6_2)) (q_pickK true rfl c_4 rfl) rfl ?_
       refine oA (.bool (!a0_v6_2)) rfl rfl ?_
       refine HO.nil (thenQ_normal (?_))
       exact ⟨F_2, !a0_v6_2, rfl, rfl, rfl, rfl, rfl, hK, hS, hN_h_want, hL_q_Sources, hN_q_Records, hL_q_Records, hL_1, hM⟩
      ·
       replace hM := hM.2 (of_decide_eq_false c_4)
       refine HO.past (past_by rfl rfl c_4) rfl ?_
       refine HO.past (past_by rfl rfl c_4) rfl ?_
       refine HO.past (past_by rfl rfl c_4) rfl ?_
       refine HO.past (past_by rfl rfl c_4) rfl ?_
       refine HO.past (past_by rfl rfl c_4) rfl ?_
       refine oV (.bool false) (q_pickK false rfl c_4 rfl) rfl ?_
       refine oA (.bool false) rfl rfl ?_
       refine HO.nil (thenQ_normal (?_))
       exact ⟨F_2, false, rfl, rfl, rfl, rfl, rfl, hK, hS, hN_h_want, hL_q_Sources, hN_q_Records, hL_q_Records, hL_1, hM⟩
     ·
      rintro f_2 h_7 ⟨F_4, b_4, e0, e6, e7, e8, e46, hK, hS, hN_h_want, hL_q_Sources, hN_q_Records, hL_q_Records, hL_1, hM⟩
      unfold host_Host_Hear_j3 at hM
      refine HW.fr [(0, .pointer (some ⟨bh, 0, none⟩)), (6, .pointer (some ⟨b_1, 0, none⟩)), (7, .pointer (some ⟨b_2, 0, none⟩)), (8, .slice none 0 0), (46, .bool b_4)] ⟨e0, e6, e7, e8, e46, trivial⟩ ?_
      refine HW.cond b_4 rfl (fun c_5 => ?_) (fun c_5 => ?_)
      ·
       replace hM := hM.1 c_5
       refine HW.regionA 11 mixed (fun h => (Blk h b_1 (.cells (e_api_Tune t).toArray 42 (0, 0)))) [(10, fun h => (Blk h bh (.cells #[.bool a0_v6_2, .int .i64 a0_now_2, .map (some rh_want), .int .i64 a0_one_2, .int .i64 a0_two_2] 52 (0, 0))))] (by kernel_rfl) ?_
       refine HA.val (k := 0) (v := .pointer (some ⟨bh, 0, none⟩)) rfl rfl (by kernel_rfl) (by kernel_rfl) (want_none) rfl (fun _ c219 => q_move rfl) ?_
       refine HA.val (k := 1) (v := .pointer (some ⟨bh, 0, none⟩)) rfl rfl (by kernel_rfl) (by kernel_rfl) (want_none) rfl (fun _ c219 => q_move rfl) ?_
       refine HA.val (k := 2) (v := .pointer (some ⟨bh, 0, none⟩)) rfl rfl (by kernel_rfl) (by kernel_rfl) (want_none) rfl (fun _ c219 => q_nilCheck rfl) ?_
       refine HA.val (k := 3) (v := .pointer (some ⟨bh, 1, none⟩)) rfl rfl (by kernel_rfl) (by kernel_rfl) (want_none) rfl (fun _ c219 => q_fieldAddr fa_52_1 rfl rfl) ?_
       refine Go.Wk.HA.valN (k := 4) (v := .int .i64 a0_now_2) 0 10 (fun h => (Blk h bh (.cells #[.bool a0_v6_2, .int .i64 a0_now_2, .map (some rh_want), .int .i64 a0_one_2, .int .i64 a0_two_2] 52 (0, 0)))) rfl rfl (by kernel_rfl) (by kernel_rfl) (want_none) rfl rfl (by kernel_rfl) (fun _ c219 c217 => q_load to_3 rfl (Blk.cell c217 rfl)) ?_
       refine HA.val (k := 5) (v := .agg (e_api_Tune t).toArray) rfl rfl (by kernel_rfl) (by kernel_rfl) (want_none) rfl (fun _ c219 => q_loadAgg (cs := (e_api_Tune t)) ta_42 rfl rfl (Blk.cells (k := 5) c219 rfl)) ?_
       refine HA.one (k := 6) ⟨(hS.box 2 rfl), (at_now (hS.box 0 rfl) (Go.Wk.at_nil _ _))⟩ (by kernel_rfl) ?_
       refine HS.call rfl (want_none) rfl (ec en_25 rfl rfl) (tune_Older_walk (fr := (Ow.box bh 52 #[.bool a0_v6_2, .int .i64 a0_now_2, .map (some rh_want), .int .i64 a0_one_2, .int .i64 a0_two_2] :: Ow.map rh_want (fun (x : T_api_Addr) => .agg (e_api_Addr x).toArray) (fun (x : T_api_Filter) => .agg #[.bool x.1, x.2.1]) a0m_2 :: Ow.box b_1 42 (e_api_Tune t).toArray :: Ow.box b_2 39 (c_api_Talk (.bool q_V6) (.int .i64 q_Version) (.int .i64 q_Kind) (.int .i64 q_Resp) q_Group (.bool q_Quiet) (.int .i64 q_Robust) (.int .i64 q_Every) vq_Sources vq_Records).toArray :: fr)) t hS hM) ?_
       rintro _ h_8 ⟨F_5, r_4, rfl, hk, hS, hM⟩
       replace hK := hK.trans hk
       replace hN_h_want := hN_h_want.kp hk
       replace hL_q_Sources := hL_q_Sources.kp hk
       replace hN_q_Records := hN_q_Records.kp hk
       replace hL_q_Records := hL_q_Records.kp hk
       replace hL_1 := hL_1.kp hk
       obtain ⟨ho_2, hM⟩ := hM
       refine HA.val (k := 7) (v := .int .i64 (a0_now_2 + r_4)) rfl rfl (by kernel_rfl) (by kernel_rfl) (want_none) rfl (fun _ c219 => q_addN _ rfl rfl rfl ho_2.1 ho_2.2) ?_
       refine HA.val (k := 8) (v := .pointer (some ⟨bh, 0, none⟩)) rfl rfl (by kernel_rfl) (by kernel_rfl) (want_none) rfl (fun _ c219 => q_nilCheck rfl) ?_
       refine HA.val (k := 9) (v := .pointer (some ⟨bh, 4, none⟩)) rfl rfl (by kernel_rfl) (by kernel_rfl) (want_none) rfl (fun _ c219 => q_fieldAddr fa_52_4 rfl rfl) ?_
       refine HA.one (k := 10) ⟨(hS.box 2 rfl), (at_now (hS.box 0 rfl) (Go.Wk.at_nil _ _))⟩ (by kernel_rfl) ?_
       refine HS.sto rfl (want_none) rfl (st_store (c' := #[.bool a0_v6_2, .int .i64 a0_now_2, .map (some rh_want), .int .i64 a0_one_2, .int .i64 (a0_now_2 + r_4)]) hS (i := 0) rfl to_3 rfl rfl rfl rfl (Nat.le_of_ble_eq_true rfl) rfl) ?_
       rintro h_9 ⟨hS, hk⟩
       replace hK := hK.trans hk
       replace hN_h_want := hN_h_want.kp hk
       replace hL_q_Sources := hL_q_Sources.kp hk
       replace hN_q_Records := hN_q_Records.kp hk
       replace hL_q_Records := hL_q_Records.kp hk
       replace hL_1 := hL_1.kp hk
       refine HA.nil ⟨(hS.box 2 rfl), (at_done (by kernel_rfl) (Go.Wk.at_nil _ _))⟩ (by kernel_rfl) (blockQ_normal (thenQ_normal (?_)))
       replace hS : St F_5 (Ow.box bh 52 #[.bool a0_v6_2, .int .i64 a0_now_2, .map (some rh_want), .int .i64 a0_one_2, .int .i64 (a0_now_2 + r_4)] :: Ow.map rh_want (fun (x : T_api_Addr) => .agg (e_api_Addr x).toArray) (fun (x : T_api_Filter) => .agg #[.bool x.1, x.2.1]) a0m_2 :: Ow.box b_2 39 (c_api_Talk (.bool q_V6) (.int .i64 q_Version) (.int .i64 q_Kind) (.int .i64 q_Resp) q_Group (.bool q_Quiet) (.int .i64 q_Robust) (.int .i64 q_Every) vq_Sources vq_Records).toArray :: fr) h_9 := hS.perm2 [0, 1, 3] 4 rfl rfl
       exact ⟨F_5, a0_one_2, a0_now_2 + r_4, rfl, rfl, rfl, hK, hS, hN_h_want, hL_q_Sources, hN_q_Records, hL_q_Records, hL_1, hM⟩
      ·
       replace hM := hM.2 c_5
       refine HW.skip (blockQ_normal (thenQ_normal (?_)))
       replace hS : St F_4 (Ow.box bh 52 #[.bool a0_v6_2, .int .i64 a0_now_2, .map (some rh_want), .int .i64 a0_one_2, .int .i64 a0_two_2] :: Ow.map rh_want (fun (x : T_api_Addr) => .agg (e_api_Addr x).toArray) (fun (x : T_api_Filter) => .agg #[.bool x.1, x.2.1]) a0m_2 :: Ow.box b_2 39 (c_api_Talk (.bool q_V6) (.int .i64 q_Version) (.int .i64 q_Kind) (.int .i64 q_Resp) q_Group (.bool q_Quiet) (.int .i64 q_Robust) (.int .i64 q_Every) vq_Sources vq_Records).toArray :: fr) h_7 := hS.perm2 [0, 1, 3] 4 rfl rfl
       exact ⟨F_4, a0_one_2, a0_two_2, rfl, rfl, rfl, hK, hS, hN_h_want, hL_q_Sources, hN_q_Records, hL_q_Records, hL_1, hM⟩
   ·
    rintro f_3 h_10 ⟨F_6, a0_3_2, a0_4_2, e0, e7, e8, hK, hS, hN_h_want, hL_q_Sources, hN_q_Records, hL_q_Records, hL_1, hM⟩
    unfold host_Host_Hear_j2 at hM
    refine HW.fr [(0, .pointer (some ⟨bh, 0, none⟩)), (7, .pointer (some ⟨b_2, 0, none⟩)), (8, .slice none 0 0)] ⟨e0, e7, e8, trivial⟩ ?_
    refine HW.seq ?_
    refine HW.region ?_
    refine oA (.slice none 0 0) rfl rfl ?_
    refine HO.nil (thenQ_normal (?_))
    refine HW.seq ?_
    refine HW.region ?_
    refine oA (.slice none 0 0) rfl rfl ?_
    refine HO.nil (thenQ_normal (?_))
    refine HW.seq ?_
    refine HW.seq ?_
    refine HW.region ?_
    refine oM (.pointer (some ⟨bh, 0, none⟩)) rfl rfl ?_
    replace hS : St F_6 (Ow.box bh 52 #[.bool a0_v6_2, .int .i64 a0_now_2, .map (some rh_want), .int .i64 a0_3_2, .int .i64 a0_4_2] :: Ow.map rh_want (fun (x : T_api_Addr) => .agg (e_api_Addr x).toArray) (fun (x : T_api_Filter) => .agg #[.bool x.1, x.2.1]) a0m_2 :: Ow.box b_2 39 (c_api_Talk (.bool q_V6) (.int .i64 q_Version) (.int .i64 q_Kind) (.int .i64 q_Resp) q_Group (.bool q_Quiet) (.int .i64 q_Robust) (.int .i64 q_Every) vq_Sources vq_Records).toArray :: fr) h_10 := hS
    have hZ_1 := hS
    have hkz_1 := (hS.freeze).2
    replace hS := hS.freeze.1
    have hL_2 := hZ_1.lent
    replace hS : St (fun bz_ => F_6 bz_ ∨ (Ow.box bh 52 #[.bool a0_v6_2, .int .i64 a0_now_2, .map (some rh_want), .int .i64 a0_3_2, .int .i64 a0_4_2]).foot bz_) (Ow.map rh_want (fun (x : T_api_Addr) => .agg (e_api_Addr x).toArray) (fun (x : T_api_Filter) => .agg #[.bool x.1, x.2.1]) a0m_2 :: Ow.box b_2 39 (c_api_Talk (.bool q_V6) (.int .i64 q_Version) (.int .i64 q_Kind) (.int .i64 q_Resp) q_Group (.bool q_Quiet) (.int .i64 q_Robust) (.int .i64 q_Every) vq_Sources vq_Records).toArray :: fr) h_10 := hS
    have hZ_2 := hS
    have hkz_2 := (hS.freeze).2
    replace hS := hS.freeze.1
    have hL_3 := hZ_2.lent
    refine HO.call (want_none) rfl (ec en_26 rfl rfl) (host_Host_groups_walk (fr := (Ow.box b_2 39 (c_api_Talk (.bool q_V6) (.int .i64 q_Version) (.int .i64 q_Kind) (.int .i64 q_Resp) q_Group (.bool q_Quiet) (.int .i64 q_Robust) (.int .i64 q_Every) vq_Sources vq_Records).toArray :: fr)) a0_v6_2 a0_now_2 a0m_2 a0_3_2 a0_4_2 bh rh_want hS (NfL.kp (NfL.kp hL_1 hkz_1) hkz_2) hL_3 (hL_2.kp hkz_2) hM) ?_
    rintro vr_2 h_11 ⟨F_7, r_5, _, rfl, hk, hS, _, _, _, hM⟩
    obtain ⟨hS, hk⟩ := hZ_2.back hk hS
    obtain ⟨hS, hk⟩ := hZ_1.back hk hS
    generalize (fun bz_ => (fun bz_ => F_7 bz_ ∧ ¬ (Ow.map rh_want (fun (x : T_api_Addr) => .agg (e_api_Addr x).toArray) (fun (x : T_api_Filter) => .agg #[.bool x.1, x.2.1]) a0m_2).foot bz_) bz_ ∧ ¬ (Ow.box bh 52 #[.bool a0_v6_2, .int .i64 a0_now_2, .map (some rh_want), .int .i64 a0_3_2, .int .i64 a0_4_2]).foot bz_) = F_8 at hS hk
    replace hK := hK.trans hk
    replace hN_h_want := hN_h_want.kp hk
    replace hL_q_Sources := hL_q_Sources.kp hk
    replace hN_q_Records := hN_q_Records.kp hk
    replace hL_q_Records := hL_q_Records.kp hk
    replace hL_1 := hL_1.kp hk
    refine oV (.int .i64 (r_5.length : Int)) (q_len ts_32 (shp (hS.own 2 rfl).slice) rfl rfl) rfl ?_
    refine oM (.int .i64 0) rfl rfl ?_
    refine HO.nil (thenQ_normal (?_))
    refine HW.block ?_
    obtain ⟨I_1, m_1, hI_1, hR_1⟩ := hM
    replace hS := hS.nilOwn 39 26 e_api_Talk
    have hN_8 : NfL nf_api_Talk F_8 h_11 ([] : List T_api_Talk) := NfL.nil _ _ _
    replace hS := hS.nilOwn 60 19 e_api_Record
    have hN_9 : NfL nf_api_Record F_8 h_11 ([] : List T_api_Record) := NfL.nil _ _ _
    replace hS : St F_8 (Ow.box bh 52 #[.bool a0_v6_2, .int .i64 a0_now_2, .map (some rh_want), .int .i64 a0_3_2, .int .i64 a0_4_2] :: Ow.map rh_want (fun (x : T_api_Addr) => .agg (e_api_Addr x).toArray) (fun (x : T_api_Filter) => .agg #[.bool x.1, x.2.1]) a0m_2 :: Ow.box b_2 39 (c_api_Talk (.bool q_V6) (.int .i64 q_Version) (.int .i64 q_Kind) (.int .i64 q_Resp) q_Group (.bool q_Quiet) (.int .i64 q_Robust) (.int .i64 q_Every) vq_Sources vq_Records).toArray :: Ow.own 39 26 e_api_Talk (.slice none 0 0) ([] : List T_api_Talk) :: Ow.own 60 19 e_api_Record (.slice none 0 0) ([] : List T_api_Record) :: Ow.own 30 17 e_api_Addr vr_2 r_5 :: fr) h_11 := hS.perm2 [2, 3, 5, 1, 0, 4] 6 rfl rfl
    refine HW.loop (S := Bool × Int × (List (T_api_Addr × T_api_Filter)) × Int × Int × List T_api_Talk × List T_api_Record × Int) (fun s f h => match s with | (a0_0_2, a0_1_2, a0_2_2, a0_3_3, a0_4_3, out_1, records_1, n_1) => ∃ (F' : Fz) (vout_1 : Value) (vrecords_1 : Value), f 0 = .pointer (some ⟨bh, 0, none⟩) ∧ f 7 = .pointer (some ⟨b_2, 0, none⟩) ∧ f 8 = .slice none 0 0 ∧ f 9 = vout_1 ∧ f 10 = vrecords_1 ∧ f 68 = vr_2 ∧ f 69 = .int .i64 (r_5.length : Int) ∧ f 70 = .int .i64 n_1 ∧ Kp F h0 F' h ∧ St F' (Ow.box bh 52 #[.bool a0_0_2, .int .i64 a0_1_2, .map (some rh_want), .int .i64 a0_3_3, .int .i64 a0_4_3] :: Ow.map rh_want (fun (x : T_api_Addr) => .agg (e_api_Addr x).toArray) (fun (x : T_api_Filter) => .agg #[.bool x.1, x.2.1]) a0_2_2 :: Ow.box b_2 39 (c_api_Talk (.bool q_V6) (.int .i64 q_Version) (.int .i64 q_Kind) (.int .i64 q_Resp) q_Group (.bool q_Quiet) (.int .i64 q_Robust) (.int .i64 q_Every) vq_Sources vq_Records).toArray :: Ow.own 39 26 e_api_Talk vout_1 out_1 :: Ow.own 60 19 e_api_Record vrecords_1 records_1 :: Ow.own 30 17 e_api_Addr vr_2 r_5 :: fr) h ∧ (NfL nf_api_Filter F' h (h_want.map (·.2))) ∧ (SliceF F' h 17 e_api_Addr vq_Sources q_Sources) ∧ (NfL nf_api_Record F' h q_Records) ∧ (SliceF F' h 19 e_api_Record vq_Records q_Records) ∧ (NfL nf_api_Filter F' h (a0m_2.map (·.2))) ∧ (NfL nf_api_Filter F' h (a0_2_2.map (·.2))) ∧ (NfL nf_api_Talk F' h out_1) ∧ (NfL nf_api_Record F' h records_1) ∧ I_1 (a0_0_2, a0_1_2, a0_2_2, a0_3_3, a0_4_3, out_1, records_1, n_1)) m_1 (a0_v6_2, a0_now_2, a0m_2, a0_3_2, a0_4_2, [], [], 0) ⟨F_8, .slice none 0 0, .slice none 0 0, rfl, rfl, rfl, rfl, rfl, rfl, rfl, rfl, hK, hS, hN_h_want, hL_q_Sources, hN_q_Records, hL_q_Records, hL_1, hL_1, hN_8, hN_9, hI_1⟩ ?_
    rintro ⟨a0_0_2, a0_1_2, a0_2_2, a0_3_3, a0_4_3, out_1, records_1, n_1⟩ f_4 h_12 ⟨F_9, vout_1, vrecords_1, e0, e7, e8, e9, e10, e68, e69, e70, hK, hS, hN_h_want, hL_q_Sources, hN_q_Records, hL_q_Records, hL_1, hN_5, hN_6, hN_7, hI0⟩
    obtain ⟨K_1, hKe_1⟩ : ∃ K : Bool → Int → (List (T_api_Addr × T_api_Filter)) → Int → Int → (List T_api_Talk) → (List T_api_Record) → Int → Prop, K = fun a0_0_2' a0_1_2' a0_2_2' a0_3_3' a0_4_3' out_1' records_1' n_1' => I_1 (a0_0_2', a0_1_2', a0_2_2', a0_3_3', a0_4_3', out_1', records_1', n_1') ∧ m_1 (a0_0_2', a0_1_2', a0_2_2', a0_3_3', a0_4_3', out_1', records_1', n_1') < m_1 (a0_0_2, a0_1_2, a0_2_2, a0_3_3, a0_4_3, out_1, records_1, n_1) := ⟨_, rfl⟩
    have hM : host_Host_Hear_l1 q_V6 q_Version q_Kind q_Resp q_Group q_Quiet q_Robust q_Every q_Sources q_Records Q r_5 K_1 a0_0_2 a0_1_2 a0_2_2 a0_3_3 a0_4_3 out_1 records_1 n_1 := by rw [hKe_1]; exact hR_1 (a0_0_2, a0_1_2, a0_2_2, a0_3_3, a0_4_3, out_1, records_1, n_1) hI0
    unfold host_Host_Hear_l1 at hM
    refine HW.fr [(0, .pointer (some ⟨bh, 0, none⟩)), (7, .pointer (some ⟨b_2, 0, none⟩)), (8, .slice none 0 0), (9, vout_1), (10, vrecords_1), (68, vr_2), (69, .int .i64 (r_5.length : Int)), (70, .int .i64 n_1)] ⟨e0, e7, e8, e9, e10, e68, e69, e70, trivial⟩ ?_
    refine HW.seq ?_
    refine HW.region ?_
    refine oV (.bool (decide (n_1 < (r_5.length : Int)))) (q_lss rfl rfl) rfl ?_
    refine HO.nil (thenQ_normal (?_))
    refine HW.seq ?_
    refine HW.cond (decide (n_1 < (r_5.length : Int))) rfl (fun c_6 => ?_) (fun c_6 => ?_)
    ·
     replace hM := hM.1 (of_decide_eq_true c_6)
     refine HW.skip (thenQ_normal (?_))
     refine HW.seq ?_
     refine HW.block ?_
     refine HW.seq ?_
     refine HW.region ?_
     obtain ⟨ho_3, hM⟩ := hM
     refine oV (elemPtr 17 vr_2 (n_1).toNat) (q_idx ts_32 (hS.own 5 rfl).slice rfl rfl ho_3) rfl ?_
     refine oV (.agg (e_api_Addr (gi r_5 n_1)).toArray) (q_ldElemAgg (cs := (e_api_Addr (gi r_5 n_1))) ta_30 (hS.own 5 rfl).slice rfl ho_3 rfl) rfl ?_
     refine HO.eff (want_none) rfl (st_alloc (c := (e_api_Addr (false, (default : Ba 16))).toArray) hS tz_30 rfl) ?_
     rintro _ h_13 ⟨b_5, rfl, hS, hk⟩
     replace hK := hK.trans hk
     replace hN_h_want := hN_h_want.kp hk
     replace hL_q_Sources := hL_q_Sources.kp hk
     replace hN_q_Records := hN_q_Records.kp hk
     replace hL_q_Records := hL_q_Records.kp hk
     replace hL_1 := hL_1.kp hk
     replace hN_5 := hN_5.kp hk
     replace hN_6 := hN_6.kp hk
     replace hN_7 := hN_7.kp hk
     refine HO.sto (want_none) rfl (st_storeAgg (c' := (e_api_Addr (gi r_5 n_1)).toArray) hS (i := 0) rfl ta_30 rfl rfl rfl (one_e_api_Addr _) (Nat.le_of_ble_eq_true rfl) rfl) ?_
     rintro h_14 ⟨hS, hk⟩
     replace hK := hK.trans hk
     replace hN_h_want := hN_h_want.kp hk
     replace hL_q_Sources := hL_q_Sources.kp hk
     replace hN_q_Records := hN_q_Records.kp hk
     replace hL_q_Records := hL_q_Records.kp hk
     replace hL_1 := hL_1.kp hk
     replace hN_5 := hN_5.kp hk
     replace hN_6 := hN_6.kp hk
     replace hN_7 := hN_7.kp hk
     refine HO.nil (thenQ_normal (?_))
     refine HW.block ?_
     refine HW.seq_mid (fun f h => ∃ (F' : Fz) (b_6 : Bool), f 0 = .pointer (some ⟨bh, 0, none⟩) ∧ f 7 = .pointer (some ⟨b_2, 0, none⟩) ∧ f 8 = .slice none 0 0 ∧ f 9 = vout_1 ∧ f 10 = vrecords_1 ∧ f 12 = .pointer (some ⟨b_5, 0, none⟩) ∧ f 68 = vr_2 ∧ f 69 = .int .i64 (r_5.length : Int) ∧ f 70 = .int .i64 n_1 ∧ f 91 = .bool b_6 ∧ Kp F h0 F' h ∧ St F' (Ow.box bh 52 #[.bool a0_0_2, .int .i64 a0_1_2, .map (some rh_want), .int .i64 a0_3_3, .int .i64 a0_4_3] :: Ow.map rh_want (fun (x : T_api_Addr) => .agg (e_api_Addr x).toArray) (fun (x : T_api_Filter) => .agg #[.bool x.1, x.2.1]) a0_2_2 :: Ow.box b_2 39 (c_api_Talk (.bool q_V6) (.int .i64 q_Version) (.int .i64 q_Kind) (.int .i64 q_Resp) q_Group (.bool q_Quiet) (.int .i64 q_Robust) (.int .i64 q_Every) vq_Sources vq_Records).toArray :: Ow.own 39 26 e_api_Talk vout_1 out_1 :: Ow.own 60 19 e_api_Record vrecords_1 records_1 :: Ow.box b_5 30 (e_api_Addr (gi r_5 n_1)).toArray :: Ow.own 30 17 e_api_Addr vr_2 r_5 :: fr) h ∧ (NfL nf_api_Filter F' h (h_want.map (·.2))) ∧ (SliceF F' h 17 e_api_Addr vq_Sources q_Sources) ∧ (NfL nf_api_Record F' h q_Records) ∧ (SliceF F' h 19 e_api_Record vq_Records q_Records) ∧ (NfL nf_api_Filter F' h (a0m_2.map (·.2))) ∧ (NfL nf_api_Filter F' h (a0_2_2.map (·.2))) ∧ (NfL nf_api_Talk F' h out_1) ∧ (NfL nf_api_Record F' h records_1) ∧ host_Host_Hear_j4 q_V6 q_Version q_Kind q_Resp q_Group q_Quiet q_Robust q_Every q_Sources q_Records r_5 a0_0_2 a0_1_2 a0_2_2 a0_3_3 a0_4_3 out_1 records_1 n_1 K_1 b_6) ?_ ?_
     ·
      refine HW.region ?_
      refine oV (.pointer (some ⟨b_2, 4, none⟩)) (q_fieldAddr fa_39_4 rfl rfl) rfl ?_
      refine oV (.agg (e_api_Addr q_Group).toArray) (q_loadAgg (cs := (e_api_Addr q_Group)) ta_30 rfl rfl (Blk.cells (k := 17) (hS.box 3 rfl) rfl)) rfl ?_
      refine HO.call (want_none) rfl (ec en_27 rfl rfl) (addr_Zero_walk (fr := (Ow.box b_5 30 (e_api_Addr (gi r_5 n_1)).toArray :: Ow.box bh 52 #[.bool a0_0_2, .int .i64 a0_1_2, .map (some rh_want), .int .i64 a0_3_3, .int .i64 a0_4_3] :: Ow.map rh_want (fun (x : T_api_Addr) => .agg (e_api_Addr x).toArray) (fun (x : T_api_Filter) => .agg #[.bool x.1, x.2.1]) a0_2_2 :: Ow.box b_2 39 (c_api_Talk (.bool q_V6) (.int .i64 q_Version) (.int .i64 q_Kind) (.int .i64 q_Resp) q_Group (.bool q_Quiet) (.int .i64 q_Robust) (.int .i64 q_Every) vq_Sources vq_Records).toArray :: Ow.own 39 26 e_api_Talk vout_1 out_1 :: Ow.own 60 19 e_api_Record vrecords_1 records_1 :: Ow.own 30 17 e_api_Addr vr_2 r_5 :: fr)) q_Group hS hM) ?_
      rintro _ h_15 ⟨F_10, r_6, rfl, hk, hS, hM⟩
      replace hK := hK.trans hk
      replace hN_h_want := hN_h_want.kp hk
      replace hL_q_Sources := hL_q_Sources.kp hk
      replace hN_q_Records := hN_q_Records.kp hk
      replace hL_q_Records := hL_q_Records.kp hk
      replace hL_1 := hL_1.kp hk
      replace hN_5 := hN_5.kp hk
      replace hN_6 := hN_6.kp hk
      replace hN_7 := hN_7.kp hk
      refine oV (.bool (!r_6)) (q_not rfl) rfl ?_
      refine oM (.bool (!r_6)) rfl rfl ?_
      rcases Bool.eq_false_or_eq_true (!r_6) with c_7 | c_7
      ·
       replace hM := hM.1 c_7
       refine HO.val (v := .pointer (some ⟨b_2, 4, none⟩)) (want_by rfl rfl c_7) rfl (q_fieldAddr fa_39_4 rfl rfl) ?_
       refine HO.val (v := .agg (e_api_Addr q_Group).toArray) (want_by rfl rfl c_7) rfl (q_loadAgg (cs := (e_api_Addr q_Group)) ta_30 rfl rfl (Blk.cells (k := 17) (hS.box 3 rfl) rfl)) ?_
       refine HO.val (v := .agg (e_api_Addr (gi r_5 n_1)).toArray) (want_by rfl rfl c_7) rfl (q_loadAgg (cs := (e_api_Addr (gi r_5 n_1))) ta_30 rfl rfl (Blk.cells (k := 17) (hS.box 0 rfl) rfl)) ?_
       refine HO.val (v := .bool (!decide ((q_Group : T_api_Addr) = (gi r_5 n_1)))) (want_by rfl rfl c_7) rfl (q_neqAgg (a := q_Group) (b := (gi r_5 n_1)) (fun a b w => teq_30 9997 a b w) (by kernel_rfl) rfl rfl rfl rfl) ?_
       refine oV (.bool (!decide ((q_Group : T_api_Addr) = (gi r_5 n_1)))) (q_pickK true rfl c_7 rfl) rfl ?_
       refine oA (.bool (!decide ((q_Group : T_api_Addr) = (gi r_5 n_1)))) rfl rfl ?_
       refine HO.nil (thenQ_normal (?_))
       replace hS : St F_10 (Ow.box bh 52 #[.bool a0_0_2, .int .i64 a0_1_2, .map (some rh_want), .int .i64 a0_3_3, .int .i64 a0_4_3] :: Ow.map rh_want (fun (x : T_api_Addr) => .agg (e_api_Addr x).toArray) (fun (x : T_api_Filter) => .agg #[.bool x.1, x.2.1]) a0_2_2 :: Ow.box b_2 39 (c_api_Talk (.bool q_V6) (.int .i64 q_Version) (.int .i64 q_Kind) (.int .i64 q_Resp) q_Group (.bool q_Quiet) (.int .i64 q_Robust) (.int .i64 q_Every) vq_Sources vq_Records).toArray :: Ow.own 39 26 e_api_Talk vout_1 out_1 :: Ow.own 60 19 e_api_Record vrecords_1 records_1 :: Ow.box b_5 30 (e_api_Addr (gi r_5 n_1)).toArray :: Ow.own 30 17 e_api_Addr vr_2 r_5 :: fr) h_15 := hS.perm2 [1, 2, 3, 4, 5, 0, 6] 7 rfl rfl
       exact ⟨F_10, !decide ((q_Group : T_api_Addr) = (gi r_5 n_1)), rfl, rfl, rfl, rfl, rfl, rfl, rfl, rfl, rfl, rfl, hK, hS, hN_h_want, hL_q_Sources, hN_q_Records, hL_q_Records, hL_1, hN_5, hN_6, hN_7, hM⟩
      ·
       replace hM := hM.2 c_7
       refine HO.past (past_by rfl rfl c_7) rfl ?_
       refine HO.past (past_by rfl rfl c_7) rfl ?_
       refine HO.past (past_by rfl rfl c_7) rfl ?_
       refine HO.past (past_by rfl rfl c_7) rfl ?_
       refine oV (.bool false) (q_pickK false rfl c_7 rfl) rfl ?_
       refine oA (.bool false) rfl rfl ?_
       refine HO.nil (thenQ_normal (?_))
       replace hS : St F_10 (Ow.box bh 52 #[.bool a0_0_2, .int .i64 a0_1_2, .map (some rh_want), .int .i64 a0_3_3, .int .i64 a0_4_3] :: Ow.map rh_want (fun (x : T_api_Addr) => .agg (e_api_Addr x).toArray) (fun (x : T_api_Filter) => .agg #[.bool x.1, x.2.1]) a0_2_2 :: Ow.box b_2 39 (c_api_Talk (.bool q_V6) (.int .i64 q_Version) (.int .i64 q_Kind) (.int .i64 q_Resp) q_Group (.bool q_Quiet) (.int .i64 q_Robust) (.int .i64 q_Every) vq_Sources vq_Records).toArray :: Ow.own 39 26 e_api_Talk vout_1 out_1 :: Ow.own 60 19 e_api_Record vrecords_1 records_1 :: Ow.box b_5 30 (e_api_Addr (gi r_5 n_1)).toArray :: Ow.own 30 17 e_api_Addr vr_2 r_5 :: fr) h_15 := hS.perm2 [1, 2, 3, 4, 5, 0, 6] 7 rfl rfl
       exact ⟨F_10, false, rfl, rfl, rfl, rfl, rfl, rfl, rfl, rfl, rfl, rfl, hK, hS, hN_h_want, hL_q_Sources, hN_q_Records, hL_q_Records, hL_1, hN_5, hN_6, hN_7, hM⟩
     ·
      rintro f_5 h_16 ⟨F_11, b_6, e0, e7, e8, e9, e10, e12, e68, e69, e70, e91, hK, hS, hN_h_want, hL_q_Sources, hN_q_Records, hL_q_Records, hL_1, hN_5, hN_6, hN_7, hM⟩
      unfold host_Host_Hear_j4 at hM
      refine HW.fr [(0, .pointer (some ⟨bh, 0, none⟩)), (7, .pointer (some ⟨b_2, 0, none⟩)), (8, .slice none 0 0), (9, vout_1), (10, vrecords_1), (12, .pointer (some ⟨b_5, 0, none⟩)), (68, vr_2), (69, .int .i64 (r_5.length : Int)), (70, .int .i64 n_1), (91, .bool b_6)] ⟨e0, e7, e8, e9, e10, e12, e68, e69, e70, e91, trivial⟩ ?_
      refine HW.cond b_6 rfl (fun c_8 => ?_) (fun c_8 => ?_)
      ·
       replace hM := hM.1 c_8
       refine HW.skip (blockQ_normal (blockQ_normal (thenQ_normal (?_))))
       refine HW.region ?_
       obtain ⟨ho_4, hM⟩ := hM
       refine oV (.int .i64 (n_1 + 1)) (q_addN _ rfl rfl rfl ho_4.1 ho_4.2) rfl ?_
       refine oM (.int .i64 (n_1 + 1)) rfl rfl ?_
       refine HO.nil (thenQ_normal (?_))
       replace hS : St F_11 (Ow.box bh 52 #[.bool a0_0_2, .int .i64 a0_1_2, .map (some rh_want), .int .i64 a0_3_3, .int .i64 a0_4_3] :: Ow.map rh_want (fun (x : T_api_Addr) => .agg (e_api_Addr x).toArray) (fun (x : T_api_Filter) => .agg #[.bool x.1, x.2.1]) a0_2_2 :: Ow.box b_2 39 (c_api_Talk (.bool q_V6) (.int .i64 q_Version) (.int .i64 q_Kind) (.int .i64 q_Resp) q_Group (.bool q_Quiet) (.int .i64 q_Robust) (.int .i64 q_Every) vq_Sources vq_Records).toArray :: Ow.own 39 26 e_api_Talk vout_1 out_1 :: Ow.own 60 19 e_api_Record vrecords_1 records_1 :: Ow.own 30 17 e_api_Addr vr_2 r_5 :: fr) h_16 := hS.perm2 [0, 1, 2, 3, 4, 6] 7 rfl rfl
       rw [hKe_1] at hM
       exact ⟨(a0_0_2, a0_1_2, a0_2_2, a0_3_3, a0_4_3, out_1, records_1, n_1 + 1), ⟨F_11, vout_1, vrecords_1, rfl, rfl, rfl, rfl, rfl, rfl, rfl, rfl, hK, hS, hN_h_want, hL_q_Sources, hN_q_Records, hL_q_Records, hL_1, hN_5, hN_6, hN_7, hM.1⟩, hM.2⟩
      ·
       replace hM := hM.2 c_8
       refine HW.seq ?_
       refine HW.regionA 9 mixed (fun h => (Blk h bh (.cells #[.bool a0_0_2, .int .i64 a0_1_2, .map (some rh_want), .int .i64 a0_3_3, .int .i64 a0_4_3] 52 (0, 0)))) [] (by kernel_rfl) ?_
       refine HA.val (k := 0) (v := .pointer (some ⟨bh, 0, none⟩)) rfl rfl (by kernel_rfl) (by kernel_rfl) (want_none) rfl (fun _ c377 => q_move rfl) ?_
       refine HA.val (k := 2) (v := .pointer (some ⟨bh, 0, none⟩)) rfl rfl (by kernel_rfl) (by kernel_rfl) (want_none) rfl (fun _ c377 => q_move rfl) ?_
       refine HA.val (k := 3) (v := .pointer (some ⟨bh, 0, none⟩)) rfl rfl (by kernel_rfl) (by kernel_rfl) (want_none) rfl (fun _ c377 => q_nilCheck rfl) ?_
       refine HA.val (k := 4) (v := .pointer (some ⟨bh, 0, none⟩)) rfl rfl (by kernel_rfl) (by kernel_rfl) (want_none) rfl (fun _ c377 => q_fieldAddr fa_52_0 rfl rfl) ?_
       refine HA.val (k := 5) (v := .bool a0_0_2) rfl rfl (by kernel_rfl) (by kernel_rfl) (want_none) rfl (fun _ c377 => q_load to_4 rfl (Blk.cell c377 rfl)) ?_
       refine HA.one (k := 1) ⟨(hS.box 0 rfl), (Go.Wk.at_nil _ _)⟩ (by kernel_rfl) ?_
       replace hS : St F_11 (Ow.box bh 52 #[.bool a0_0_2, .int .i64 a0_1_2, .map (some rh_want), .int .i64 a0_3_3, .int .i64 a0_4_3] :: Ow.map rh_want (fun (x : T_api_Addr) => .agg (e_api_Addr x).toArray) (fun (x : T_api_Filter) => .agg #[.bool x.1, x.2.1]) a0_2_2 :: Ow.box b_2 39 (c_api_Talk (.bool q_V6) (.int .i64 q_Version) (.int .i64 q_Kind) (.int .i64 q_Resp) q_Group (.bool q_Quiet) (.int .i64 q_Robust) (.int .i64 q_Every) vq_Sources vq_Records).toArray :: Ow.own 39 26 e_api_Talk vout_1 out_1 :: Ow.own 60 19 e_api_Record vrecords_1 records_1 :: Ow.box b_5 30 (e_api_Addr (gi r_5 n_1)).toArray :: Ow.own 30 17 e_api_Addr vr_2 r_5 :: fr) h_16 := hS
       have hZ_3 := hS
       have hkz_3 := (hS.freeze).2
       replace hS := hS.freeze.1
       have hL_4 := hZ_3.lent
       replace hS : St (fun bz_ => F_11 bz_ ∨ (Ow.box bh 52 #[.bool a0_0_2, .int .i64 a0_1_2, .map (some rh_want), .int .i64 a0_3_3, .int .i64 a0_4_3]).foot bz_) (Ow.map rh_want (fun (x : T_api_Addr) => .agg (e_api_Addr x).toArray) (fun (x : T_api_Filter) => .agg #[.bool x.1, x.2.1]) a0_2_2 :: Ow.box b_2 39 (c_api_Talk (.bool q_V6) (.int .i64 q_Version) (.int .i64 q_Kind) (.int .i64 q_Resp) q_Group (.bool q_Quiet) (.int .i64 q_Robust) (.int .i64 q_Every) vq_Sources vq_Records).toArray :: Ow.own 39 26 e_api_Talk vout_1 out_1 :: Ow.own 60 19 e_api_Record vrecords_1 records_1 :: Ow.box b_5 30 (e_api_Addr (gi r_5 n_1)).toArray :: Ow.own 30 17 e_api_Addr vr_2 r_5 :: fr) h_16 := hS
       have hZ_4 := hS
       have hkz_4 := (hS.freeze).2
       replace hS := hS.freeze.1
       have hL_5 := hZ_4.lent
       refine HS.call rfl (want_none) rfl (ec en_28 rfl rfl) (host_Host_mode_walk (fr := (Ow.box b_2 39 (c_api_Talk (.bool q_V6) (.int .i64 q_Version) (.int .i64 q_Kind) (.int .i64 q_Resp) q_Group (.bool q_Quiet) (.int .i64 q_Robust) (.int .i64 q_Every) vq_Sources vq_Records).toArray :: Ow.own 39 26 e_api_Talk vout_1 out_1 :: Ow.own 60 19 e_api_Record vrecords_1 records_1 :: Ow.box b_5 30 (e_api_Addr (gi r_5 n_1)).toArray :: Ow.own 30 17 e_api_Addr vr_2 r_5 :: fr)) a0_0_2 a0_1_2 a0_2_2 a0_3_3 a0_4_3 bh rh_want hS (NfL.kp (NfL.kp hN_5 hkz_3) hkz_4) hL_5 (hL_4.kp hkz_4) hM) ?_
       rintro _ h_17 ⟨F_12, r_7, rfl, hk, hS, _, _, _, hM⟩
       obtain ⟨hS, hk⟩ := hZ_4.back hk hS
       obtain ⟨hS, hk⟩ := hZ_3.back hk hS
       generalize (fun bz_ => (fun bz_ => F_12 bz_ ∧ ¬ (Ow.map rh_want (fun (x : T_api_Addr) => .agg (e_api_Addr x).toArray) (fun (x : T_api_Filter) => .agg #[.bool x.1, x.2.1]) a0_2_2).foot bz_) bz_ ∧ ¬ (Ow.box bh 52 #[.bool a0_0_2, .int .i64 a0_1_2, .map (some rh_want), .int .i64 a0_3_3, .int .i64 a0_4_3]).foot bz_) = F_13 at hS hk
       replace hK := hK.trans hk
       replace hN_h_want := hN_h_want.kp hk
       replace hL_q_Sources := hL_q_Sources.kp hk
       replace hN_q_Records := hN_q_Records.kp hk
       replace hL_q_Records := hL_q_Records.kp hk
       replace hL_1 := hL_1.kp hk
       replace hN_5 := hN_5.kp hk
       replace hN_6 := hN_6.kp hk
       replace hN_7 := hN_7.kp hk
       refine HA.one (k := 6) ⟨(hS.box 0 rfl), (Go.Wk.at_nil _ _)⟩ (by kernel_rfl) ?_
       refine HS.call rfl (want_none) rfl (ec en_29 rfl rfl) (compat_Last_walk (fr := (Ow.box bh 52 #[.bool a0_0_2, .int .i64 a0_1_2, .map (some rh_want), .int .i64 a0_3_3, .int .i64 a0_4_3] :: Ow.map rh_want (fun (x : T_api_Addr) => .agg (e_api_Addr x).toArray) (fun (x : T_api_Filter) => .agg #[.bool x.1, x.2.1]) a0_2_2 :: Ow.box b_2 39 (c_api_Talk (.bool q_V6) (.int .i64 q_Version) (.int .i64 q_Kind) (.int .i64 q_Resp) q_Group (.bool q_Quiet) (.int .i64 q_Robust) (.int .i64 q_Every) vq_Sources vq_Records).toArray :: Ow.own 39 26 e_api_Talk vout_1 out_1 :: Ow.own 60 19 e_api_Record vrecords_1 records_1 :: Ow.box b_5 30 (e_api_Addr (gi r_5 n_1)).toArray :: Ow.own 30 17 e_api_Addr vr_2 r_5 :: fr)) a0_0_2 hS hM) ?_
       rintro _ h_18 ⟨F_14, r_8, rfl, hk, hS, hM⟩
       replace hK := hK.trans hk
       replace hN_h_want := hN_h_want.kp hk
       replace hL_q_Sources := hL_q_Sources.kp hk
       replace hN_q_Records := hN_q_Records.kp hk
       replace hL_q_Records := hL_q_Records.kp hk
       replace hL_1 := hL_1.kp hk
       replace hN_5 := hN_5.kp hk
       replace hN_6 := hN_6.kp hk
       replace hN_7 := hN_7.kp hk
       refine HA.val (k := 7) (v := .bool (decide (r_7 < r_8))) rfl rfl (by kernel_rfl) (by kernel_rfl) (want_none) rfl (fun _ c377 => q_lss rfl rfl) ?_
       refine HA.val (k := 8) (v := .bool (decide (r_7 < r_8))) rfl rfl (by kernel_rfl) (by kernel_rfl) (want_none) rfl (fun _ c377 => q_assign rfl) ?_
       refine HA.nil ⟨(hS.box 0 rfl), (Go.Wk.at_nil _ _)⟩ (by kernel_rfl) (thenQ_normal (?_))
       refine HW.cond (decide (r_7 < r_8)) rfl (fun c_9 => ?_) (fun c_9 => ?_)
       ·
        replace hM := hM.1 (of_decide_eq_true c_9)
        refine HW.region ?_
        refine oM (vout_1) rfl rfl ?_
        refine oM (.pointer (some ⟨bh, 0, none⟩)) rfl rfl ?_
        refine oV (.agg (e_api_Addr (gi r_5 n_1)).toArray) (q_loadAgg (cs := (e_api_Addr (gi r_5 n_1))) ta_30 rfl rfl (Blk.cells (k := 17) (hS.box 5 rfl) rfl)) rfl ?_
        refine HO.call (want_none) rfl (ec en_30 rfl rfl) (host_Host_older_walk (fr := (Ow.box b_2 39 (c_api_Talk (.bool q_V6) (.int .i64 q_Version) (.int .i64 q_Kind) (.int .i64 q_Resp) q_Group (.bool q_Quiet) (.int .i64 q_Robust) (.int .i64 q_Every) vq_Sources vq_Records).toArray :: Ow.own 39 26 e_api_Talk vout_1 out_1 :: Ow.own 60 19 e_api_Record vrecords_1 records_1 :: Ow.box b_5 30 (e_api_Addr (gi r_5 n_1)).toArray :: Ow.own 30 17 e_api_Addr vr_2 r_5 :: fr)) a0_0_2 a0_1_2 a0_2_2 a0_3_3 a0_4_3 (gi r_5 n_1) 2 bh rh_want hS hN_5 hM) ?_
        rintro vr_3 h_19 ⟨F_15, r_9, a0_v6_3, a0_now_3, a0m_3, a0_one_3, a0_two_3, _, rfl, hk, hS, _, hL_6, hL_7, hM⟩
        replace hK := hK.trans hk
        replace hN_h_want := hN_h_want.kp hk
        replace hL_q_Sources := hL_q_Sources.kp hk
        replace hN_q_Records := hN_q_Records.kp hk
        replace hL_q_Records := hL_q_Records.kp hk
        replace hL_1 := hL_1.kp hk
        replace hN_6 := hN_6.kp hk
        replace hN_7 := hN_7.kp hk
        obtain ⟨ho_5, hM⟩ := hM
        refine HO.eff (want_none) rfl (st_append te_24 hS (i := 4) rfl (hS.own 0 rfl).slice rfl rfl rfl (fun a_ ha_ => nfo_api_Talk (hL_6.is.all a_ ha_)) ho_5 (by omega)) ?_
        rintro v_1 h_20 ⟨hS, hk⟩
        replace hK := hK.trans hk
        replace hN_h_want := hN_h_want.kp hk
        replace hL_q_Sources := hL_q_Sources.kp hk
        replace hN_q_Records := hN_q_Records.kp hk
        replace hL_q_Records := hL_q_Records.kp hk
        replace hL_1 := hL_1.kp hk
        replace hN_6 := hN_6.kp hk
        replace hN_7 := hN_7.kp hk
        replace hL_6 := hL_6.kp hk
        replace hL_7 := hL_7.kp hk
        have hN_10 : NfL nf_api_Talk F_15 h_20 (out_1 ++ r_9) := NfL.app hN_6 hL_6
        refine oA (v_1) rfl rfl ?_
        refine HO.nil (blockQ_normal (blockQ_normal (thenQ_normal (?_))))
        refine HW.region ?_
        obtain ⟨ho_6, hM⟩ := hM
        refine oV (.int .i64 (n_1 + 1)) (q_addN _ rfl rfl rfl ho_6.1 ho_6.2) rfl ?_
        refine oM (.int .i64 (n_1 + 1)) rfl rfl ?_
        refine HO.nil (thenQ_normal (?_))
        replace hS : St F_15 (Ow.box bh 52 #[.bool a0_v6_3, .int .i64 a0_now_3, .map (some rh_want), .int .i64 a0_one_3, .int .i64 a0_two_3] :: Ow.map rh_want (fun (x : T_api_Addr) => .agg (e_api_Addr x).toArray) (fun (x : T_api_Filter) => .agg #[.bool x.1, x.2.1]) a0m_3 :: Ow.box b_2 39 (c_api_Talk (.bool q_V6) (.int .i64 q_Version) (.int .i64 q_Kind) (.int .i64 q_Resp) q_Group (.bool q_Quiet) (.int .i64 q_Robust) (.int .i64 q_Every) vq_Sources vq_Records).toArray :: Ow.own 39 26 e_api_Talk v_1 (out_1 ++ r_9) :: Ow.own 60 19 e_api_Record vrecords_1 records_1 :: Ow.own 30 17 e_api_Addr vr_2 r_5 :: fr) h_20 := hS.perm2 [1, 2, 3, 4, 5, 7] 8 rfl rfl
        rw [hKe_1] at hM
        exact ⟨(a0_v6_3, a0_now_3, a0m_3, a0_one_3, a0_two_3, out_1 ++ r_9, records_1, n_1 + 1), ⟨F_15, v_1, vrecords_1, rfl, rfl, rfl, rfl, rfl, rfl, rfl, rfl, hK, hS, hN_h_want, hL_q_Sources, hN_q_Records, hL_q_Records, hL_1, hL_7, hN_10, hN_7, hM.1⟩, hM.2⟩
       ·
        replace hM := hM.2 (of_decide_eq_false c_9)
        refine HW.seq_mid (fun f h => ∃ (F' : Fz) (r_0_1 : Int) (r_1_1 : Bool) (r_2_1 : Ba 16) (r_18_1 : List T_api_Addr) (ok_1 : Bool) (b_7 : Nat) (vr_18_1 : Value), f 0 = .pointer (some ⟨bh, 0, none⟩) ∧ f 7 = .pointer (some ⟨b_2, 0, none⟩) ∧ f 8 = .slice none 0 0 ∧ f 9 = vout_1 ∧ f 10 = vrecords_1 ∧ f 13 = .pointer (some ⟨b_7, 0, none⟩) ∧ f 14 = .bool ok_1 ∧ f 68 = vr_2 ∧ f 69 = .int .i64 (r_5.length : Int) ∧ f 70 = .int .i64 n_1 ∧ Kp F h0 F' h ∧ St F' (Ow.box bh 52 #[.bool a0_0_2, .int .i64 a0_1_2, .map (some rh_want), .int .i64 a0_3_3, .int .i64 a0_4_3] :: Ow.map rh_want (fun (x : T_api_Addr) => .agg (e_api_Addr x).toArray) (fun (x : T_api_Filter) => .agg #[.bool x.1, x.2.1]) a0_2_2 :: Ow.box b_2 39 (c_api_Talk (.bool q_V6) (.int .i64 q_Version) (.int .i64 q_Kind) (.int .i64 q_Resp) q_Group (.bool q_Quiet) (.int .i64 q_Robust) (.int .i64 q_Every) vq_Sources vq_Records).toArray :: Ow.own 39 26 e_api_Talk vout_1 out_1 :: Ow.own 60 19 e_api_Record vrecords_1 records_1 :: Ow.box b_7 60 (c_api_Record (.int .i64 r_0_1) (r_1_1, r_2_1) vr_18_1).toArray :: Ow.own 30 17 e_api_Addr vr_18_1 r_18_1 :: Ow.own 30 17 e_api_Addr vr_2 r_5 :: fr) h ∧ (NfL nf_api_Filter F' h (h_want.map (·.2))) ∧ (SliceF F' h 17 e_api_Addr vq_Sources q_Sources) ∧ (NfL nf_api_Record F' h q_Records) ∧ (SliceF F' h 19 e_api_Record vq_Records q_Records) ∧ (NfL nf_api_Filter F' h (a0m_2.map (·.2))) ∧ (NfL nf_api_Filter F' h (a0_2_2.map (·.2))) ∧ (NfL nf_api_Talk F' h out_1) ∧ (NfL nf_api_Record F' h records_1) ∧ host_Host_Hear_j5 a0_0_2 a0_1_2 a0_2_2 a0_3_3 a0_4_3 out_1 records_1 n_1 K_1 r_0_1 r_1_1 r_2_1 r_18_1 ok_1) ?_ ?_
        ·
         refine HW.regionA 15 mixed (fun h => (Blk h bh (.cells #[.bool a0_0_2, .int .i64 a0_1_2, .map (some rh_want), .int .i64 a0_3_3, .int .i64 a0_4_3] 52 (0, 0))) ∧ (MapIs h rh_want (fun (x : T_api_Addr) => .agg (e_api_Addr x).toArray) (fun (x : T_api_Filter) => .agg #[.bool x.1, x.2.1]) a0_2_2) ∧ (Blk h b_2 (.cells (c_api_Talk (.bool q_V6) (.int .i64 q_Version) (.int .i64 q_Kind) (.int .i64 q_Resp) q_Group (.bool q_Quiet) (.int .i64 q_Robust) (.int .i64 q_Every) vq_Sources vq_Records).toArray 39 (0, 0))) ∧ (Blk h b_5 (.cells (e_api_Addr (gi r_5 n_1)).toArray 30 (0, 0)))) [] (by kernel_rfl) ?_
         refine HA.val (k := 0) (v := .agg (e_api_Addr (gi r_5 n_1)).toArray) rfl rfl (by kernel_rfl) (by kernel_rfl) (want_none) rfl (fun _ ⟨c377, c378, c379, c382⟩ => q_loadAgg (cs := (e_api_Addr (gi r_5 n_1))) ta_30 rfl rfl (Blk.cells (k := 17) c382 rfl)) ?_
         refine HA.val (k := 1) (v := .pointer (some ⟨bh, 0, none⟩)) rfl rfl (by kernel_rfl) (by kernel_rfl) (want_none) rfl (fun _ ⟨c377, c378, c379, c382⟩ => q_move rfl) ?_
         refine HA.val (k := 2) (v := .pointer (some ⟨bh, 0, none⟩)) rfl rfl (by kernel_rfl) (by kernel_rfl) (want_none) rfl (fun _ ⟨c377, c378, c379, c382⟩ => q_nilCheck rfl) ?_
         refine HA.val (k := 3) (v := .pointer (some ⟨bh, 2, none⟩)) rfl rfl (by kernel_rfl) (by kernel_rfl) (want_none) rfl (fun _ ⟨c377, c378, c379, c382⟩ => q_fieldAddr fa_52_2 rfl rfl) ?_
         refine HA.val (k := 4) (v := .map (some rh_want)) rfl rfl (by kernel_rfl) (by kernel_rfl) (want_none) rfl (fun _ ⟨c377, c378, c379, c382⟩ => q_load to_50 rfl (Blk.cell c377 rfl)) ?_
         refine HA.val (k := 5) (v := .agg (e_api_Addr (gi r_5 n_1)).toArray) rfl rfl (by kernel_rfl) (by kernel_rfl) (want_none) rfl (fun _ ⟨c377, c378, c379, c382⟩ => q_loadAgg (cs := (e_api_Addr (gi r_5 n_1))) ta_30 rfl rfl (Blk.cells (k := 17) c382 rfl)) ?_
         have hL_8 : SliceF F_14 h_18 17 e_api_Addr (((mgetD z_api_Filter a0_2_2 (gi r_5 n_1)).2).1) (((mgetD z_api_Filter a0_2_2 (gi r_5 n_1)).2).2) := nff_api_Filter_1 (NfL.mgetD hN_5 (gi r_5 n_1) (nfm_api_Filter z_api_Filter (SliceF.nil _ _ _ _)))
         refine HA.val (k := 6) (v := .agg #[.bool ((mgetD z_api_Filter a0_2_2 (gi r_5 n_1)).1), ((mgetD z_api_Filter a0_2_2 (gi r_5 n_1)).2).1]) rfl rfl (by kernel_rfl) (by kernel_rfl) (want_none) rfl (fun _ ⟨c377, c378, c379, c382⟩ => (q_lookup (k := (gi r_5 n_1)) ka_30 tmk_50 c378 rfl rfl).of_eq (mvalD (z := z_api_Filter) rfl _ _)) ?_
         refine HA.val (k := 7) (v := .agg (c_api_Talk (.bool q_V6) (.int .i64 q_Version) (.int .i64 q_Kind) (.int .i64 q_Resp) q_Group (.bool q_Quiet) (.int .i64 q_Robust) (.int .i64 q_Every) vq_Sources vq_Records).toArray) rfl rfl (by kernel_rfl) (by kernel_rfl) (want_none) rfl (fun _ ⟨c377, c378, c379, c382⟩ => q_loadAgg (cs := (c_api_Talk (.bool q_V6) (.int .i64 q_Version) (.int .i64 q_Kind) (.int .i64 q_Resp) q_Group (.bool q_Quiet) (.int .i64 q_Robust) (.int .i64 q_Every) vq_Sources vq_Records)) ta_39 rfl rfl (Blk.cells (k := 26) c379 rfl)) ?_
         refine HA.two (k := 8) (k' := 12) ⟨⟨(hS.box 0 rfl), (hS.mp 1 rfl), (hS.box 2 rfl), (hS.box 5 rfl)⟩, (Go.Wk.at_nil _ _)⟩ (by kernel_rfl) ?_ ?_
         ·
          refine HS.call rfl (want_none) rfl (ec en_31 rfl rfl) (host_answer_walk (fr := (Ow.box bh 52 #[.bool a0_0_2, .int .i64 a0_1_2, .map (some rh_want), .int .i64 a0_3_3, .int .i64 a0_4_3] :: Ow.map rh_want (fun (x : T_api_Addr) => .agg (e_api_Addr x).toArray) (fun (x : T_api_Filter) => .agg #[.bool x.1, x.2.1]) a0_2_2 :: Ow.box b_2 39 (c_api_Talk (.bool q_V6) (.int .i64 q_Version) (.int .i64 q_Kind) (.int .i64 q_Resp) q_Group (.bool q_Quiet) (.int .i64 q_Robust) (.int .i64 q_Every) vq_Sources vq_Records).toArray :: Ow.own 39 26 e_api_Talk vout_1 out_1 :: Ow.own 60 19 e_api_Record vrecords_1 records_1 :: Ow.box b_5 30 (e_api_Addr (gi r_5 n_1)).toArray :: Ow.own 30 17 e_api_Addr vr_2 r_5 :: fr)) (gi r_5 n_1) ((mgetD z_api_Filter a0_2_2 (gi r_5 n_1)).1) (((mgetD z_api_Filter a0_2_2 (gi r_5 n_1)).2).2) q_V6 q_Version q_Kind q_Resp q_Group q_Quiet q_Robust q_Every q_Sources q_Records (((mgetD z_api_Filter a0_2_2 (gi r_5 n_1)).2).1) vq_Sources vq_Records hS hL_8 hL_q_Sources hN_q_Records hL_q_Records hM) ?_
          rintro _ h_21 ⟨F_16, r0_0_1, r0_1_1, r0_2_1, r0_18_1, r1_1, vr0_18_1, rfl, hk, hS, _, _, _, _, hM⟩
          replace hK := hK.trans hk
          replace hN_h_want := hN_h_want.kp hk
          replace hL_q_Sources := hL_q_Sources.kp hk
          replace hN_q_Records := hN_q_Records.kp hk
          replace hL_q_Records := hL_q_Records.kp hk
          replace hL_1 := hL_1.kp hk
          replace hN_5 := hN_5.kp hk
          replace hN_6 := hN_6.kp hk
          replace hN_7 := hN_7.kp hk
          refine HA.val (k := 9) (v := .tuple #[.agg (c_api_Record (.int .i64 r0_0_1) (r0_1_1, r0_2_1) vr0_18_1).toArray, .bool r1_1]) rfl rfl (by kernel_rfl) (by kernel_rfl) (want_none) rfl (fun _ ⟨c377, c378, c379, c382⟩ => q_move rfl) ?_
          refine HA.val (k := 10) (v := .agg (c_api_Record (.int .i64 r0_0_1) (r0_1_1, r0_2_1) vr0_18_1).toArray) rfl rfl (by kernel_rfl) (by kernel_rfl) (want_none) rfl (fun _ ⟨c377, c378, c379, c382⟩ => q_extract rfl rfl) ?_
          refine HA.val (k := 11) (v := .bool r1_1) rfl rfl (by kernel_rfl) (by kernel_rfl) (want_none) rfl (fun _ ⟨c377, c378, c379, c382⟩ => q_extract rfl rfl) ?_
          refine HA.one (k := 12) ⟨⟨(hS.box 1 rfl), (hS.mp 2 rfl), (hS.box 3 rfl), (hS.box 6 rfl)⟩, (Go.Wk.at_nil _ _)⟩ (by kernel_rfl) ?_
          refine HS.eff rfl (want_none) rfl (st_alloc (c := (c_api_Record (.int .i64 0) (false, (default : Ba 16)) (.slice none 0 0)).toArray) hS tz_60 rfl) ?_
          rintro _ h_22 ⟨b_8, rfl, hS, hk⟩
          replace hK := hK.trans hk
          replace hN_h_want := hN_h_want.kp hk
          replace hL_q_Sources := hL_q_Sources.kp hk
          replace hN_q_Records := hN_q_Records.kp hk
          replace hL_q_Records := hL_q_Records.kp hk
          replace hL_1 := hL_1.kp hk
          replace hN_5 := hN_5.kp hk
          replace hN_6 := hN_6.kp hk
          replace hN_7 := hN_7.kp hk
          refine HA.one (k := 13) ⟨⟨(hS.box 2 rfl), (hS.mp 3 rfl), (hS.box 4 rfl), (hS.box 7 rfl)⟩, (Go.Wk.at_nil _ _)⟩ (by kernel_rfl) ?_
          refine HS.sto rfl (want_none) rfl (st_storeAgg (c' := (c_api_Record (.int .i64 r0_0_1) (r0_1_1, r0_2_1) vr0_18_1).toArray) hS (i := 0) rfl ta_60 rfl rfl rfl (List.forall_mem_cons.2 ⟨rfl, (List.forall_mem_cons.2 ⟨rfl, (List.forall_mem_cons.2 ⟨rfl, (List.forall_mem_cons.2 ⟨rfl, (List.forall_mem_cons.2 ⟨rfl, (List.forall_mem_cons.2 ⟨rfl, (List.forall_mem_cons.2 ⟨rfl, (List.forall_mem_cons.2 ⟨rfl, (List.forall_mem_cons.2 ⟨rfl, (List.forall_mem_cons.2 ⟨rfl, (List.forall_mem_cons.2 ⟨rfl, (List.forall_mem_cons.2 ⟨rfl, (List.forall_mem_cons.2 ⟨rfl, (List.forall_mem_cons.2 ⟨rfl, (List.forall_mem_cons.2 ⟨rfl, (List.forall_mem_cons.2 ⟨rfl, (List.forall_mem_cons.2 ⟨rfl, (List.forall_mem_cons.2 ⟨rfl, (List.forall_mem_cons.2 ⟨(shp (hS.own 1 rfl).slice).one, (fun _ h => by cases h)⟩)⟩)⟩)⟩)⟩)⟩)⟩)⟩)⟩)⟩)⟩)⟩)⟩)⟩)⟩)⟩)⟩)⟩)⟩) (Nat.le_of_ble_eq_true rfl) rfl) ?_
          rintro h_23 ⟨hS, hk⟩
          replace hK := hK.trans hk
          replace hN_h_want := hN_h_want.kp hk
          replace hL_q_Sources := hL_q_Sources.kp hk
          replace hN_q_Records := hN_q_Records.kp hk
          replace hL_q_Records := hL_q_Records.kp hk
          replace hL_1 := hL_1.kp hk
          replace hN_5 := hN_5.kp hk
          replace hN_6 := hN_6.kp hk
          replace hN_7 := hN_7.kp hk
          refine HA.val (k := 14) (v := .bool r1_1) rfl rfl (by kernel_rfl) (by kernel_rfl) (want_none) rfl (fun _ ⟨c377, c378, c379, c382⟩ => q_assign rfl) ?_
          refine HA.nil ⟨⟨(hS.box 2 rfl), (hS.mp 3 rfl), (hS.box 4 rfl), (hS.box 7 rfl)⟩, (Go.Wk.at_nil _ _)⟩ (by kernel_rfl) (thenQ_normal (?_))
          replace hS : St F_16 (Ow.box bh 52 #[.bool a0_0_2, .int .i64 a0_1_2, .map (some rh_want), .int .i64 a0_3_3, .int .i64 a0_4_3] :: Ow.map rh_want (fun (x : T_api_Addr) => .agg (e_api_Addr x).toArray) (fun (x : T_api_Filter) => .agg #[.bool x.1, x.2.1]) a0_2_2 :: Ow.box b_2 39 (c_api_Talk (.bool q_V6) (.int .i64 q_Version) (.int .i64 q_Kind) (.int .i64 q_Resp) q_Group (.bool q_Quiet) (.int .i64 q_Robust) (.int .i64 q_Every) vq_Sources vq_Records).toArray :: Ow.own 39 26 e_api_Talk vout_1 out_1 :: Ow.own 60 19 e_api_Record vrecords_1 records_1 :: Ow.box b_8 60 (c_api_Record (.int .i64 r0_0_1) (r0_1_1, r0_2_1) vr0_18_1).toArray :: Ow.own 30 17 e_api_Addr vr0_18_1 r0_18_1 :: Ow.own 30 17 e_api_Addr vr_2 r_5 :: fr) h_23 := hS.perm2 [2, 3, 4, 5, 6, 0, 1, 8] 9 rfl rfl
          exact ⟨F_16, r0_0_1, r0_1_1, r0_2_1, r0_18_1, r1_1, b_8, vr0_18_1, rfl, rfl, rfl, rfl, rfl, rfl, rfl, rfl, rfl, rfl, hK, hS, hN_h_want, hL_q_Sources, hN_q_Records, hL_q_Records, hL_1, hN_5, hN_6, hN_7, hM⟩
         ·
          refine HS.eff rfl (want_none) rfl (st_alloc (c := (c_api_Record (.int .i64 0) (false, (default : Ba 16)) (.slice none 0 0)).toArray) hS tz_60 rfl) ?_
          rintro _ h_21 ⟨b_8, rfl, hS, hk⟩
          replace hK := hK.trans hk
          replace hN_h_want := hN_h_want.kp hk
          replace hL_q_Sources := hL_q_Sources.kp hk
          replace hN_q_Records := hN_q_Records.kp hk
          replace hL_q_Records := hL_q_Records.kp hk
          replace hL_1 := hL_1.kp hk
          replace hN_5 := hN_5.kp hk
          replace hN_6 := hN_6.kp hk
          replace hN_7 := hN_7.kp hk
          replace hL_8 := hL_8.kp hk
          refine HA.one (k := 8) ⟨⟨(hS.box 1 rfl), (hS.mp 2 rfl), (hS.box 3 rfl), (hS.box 6 rfl)⟩, (Go.Wk.at_nil _ _)⟩ (by kernel_rfl) ?_
          refine HS.call rfl (want_none) rfl (ec en_31 rfl rfl) (host_answer_walk (fr := (Ow.box b_8 60 (c_api_Record (.int .i64 0) (false, (default : Ba 16)) (.slice none 0 0)).toArray :: Ow.box bh 52 #[.bool a0_0_2, .int .i64 a0_1_2, .map (some rh_want), .int .i64 a0_3_3, .int .i64 a0_4_3] :: Ow.map rh_want (fun (x : T_api_Addr) => .agg (e_api_Addr x).toArray) (fun (x : T_api_Filter) => .agg #[.bool x.1, x.2.1]) a0_2_2 :: Ow.box b_2 39 (c_api_Talk (.bool q_V6) (.int .i64 q_Version) (.int .i64 q_Kind) (.int .i64 q_Resp) q_Group (.bool q_Quiet) (.int .i64 q_Robust) (.int .i64 q_Every) vq_Sources vq_Records).toArray :: Ow.own 39 26 e_api_Talk vout_1 out_1 :: Ow.own 60 19 e_api_Record vrecords_1 records_1 :: Ow.box b_5 30 (e_api_Addr (gi r_5 n_1)).toArray :: Ow.own 30 17 e_api_Addr vr_2 r_5 :: fr)) (gi r_5 n_1) ((mgetD z_api_Filter a0_2_2 (gi r_5 n_1)).1) (((mgetD z_api_Filter a0_2_2 (gi r_5 n_1)).2).2) q_V6 q_Version q_Kind q_Resp q_Group q_Quiet q_Robust q_Every q_Sources q_Records (((mgetD z_api_Filter a0_2_2 (gi r_5 n_1)).2).1) vq_Sources vq_Records hS hL_8 hL_q_Sources hN_q_Records hL_q_Records hM) ?_
          rintro _ h_22 ⟨F_16, r0_0_1, r0_1_1, r0_2_1, r0_18_1, r1_1, vr0_18_1, rfl, hk, hS, _, _, _, _, hM⟩
          replace hK := hK.trans hk
          replace hN_h_want := hN_h_want.kp hk
          replace hL_q_Sources := hL_q_Sources.kp hk
          replace hN_q_Records := hN_q_Records.kp hk
          replace hL_q_Records := hL_q_Records.kp hk
          replace hL_1 := hL_1.kp hk
          replace hN_5 := hN_5.kp hk
          replace hN_6 := hN_6.kp hk
          replace hN_7 := hN_7.kp hk
          refine HA.val (k := 9) (v := .tuple #[.agg (c_api_Record (.int .i64 r0_0_1) (r0_1_1, r0_2_1) vr0_18_1).toArray, .bool r1_1]) rfl rfl (by kernel_rfl) (by kernel_rfl) (want_none) rfl (fun _ ⟨c377, c378, c379, c382⟩ => q_move rfl) ?_
          refine HA.val (k := 10) (v := .agg (c_api_Record (.int .i64 r0_0_1) (r0_1_1, r0_2_1) vr0_18_1).toArray) rfl rfl (by kernel_rfl) (by kernel_rfl) (want_none) rfl (fun _ ⟨c377, c378, c379, c382⟩ => q_extract rfl rfl) ?_
          refine HA.val (k := 11) (v := .bool r1_1) rfl rfl (by kernel_rfl) (by kernel_rfl) (want_none) rfl (fun _ ⟨c377, c378, c379, c382⟩ => q_extract rfl rfl) ?_
          refine HA.one (k := 13) ⟨⟨(hS.box 2 rfl), (hS.mp 3 rfl), (hS.box 4 rfl), (hS.box 7 rfl)⟩, (Go.Wk.at_nil _ _)⟩ (by kernel_rfl) ?_
          refine HS.sto rfl (want_none) rfl (st_storeAgg (c' := (c_api_Record (.int .i64 r0_0_1) (r0_1_1, r0_2_1) vr0_18_1).toArray) hS (i := 1) rfl ta_60 rfl rfl rfl (List.forall_mem_cons.2 ⟨rfl, (List.forall_mem_cons.2 ⟨rfl, (List.forall_mem_cons.2 ⟨rfl, (List.forall_mem_cons.2 ⟨rfl, (List.forall_mem_cons.2 ⟨rfl, (List.forall_mem_cons.2 ⟨rfl, (List.forall_mem_cons.2 ⟨rfl, (List.forall_mem_cons.2 ⟨rfl, (List.forall_mem_cons.2 ⟨rfl, (List.forall_mem_cons.2 ⟨rfl, (List.forall_mem_cons.2 ⟨rfl, (List.forall_mem_cons.2 ⟨rfl, (List.forall_mem_cons.2 ⟨rfl, (List.forall_mem_cons.2 ⟨rfl, (List.forall_mem_cons.2 ⟨rfl, (List.forall_mem_cons.2 ⟨rfl, (List.forall_mem_cons.2 ⟨rfl, (List.forall_mem_cons.2 ⟨rfl, (List.forall_mem_cons.2 ⟨(shp (hS.own 0 rfl).slice).one, (fun _ h => by cases h)⟩)⟩)⟩)⟩)⟩)⟩)⟩)⟩)⟩)⟩)⟩)⟩)⟩)⟩)⟩)⟩)⟩)⟩)⟩) (Nat.le_of_ble_eq_true rfl) rfl) ?_
          rintro h_23 ⟨hS, hk⟩
          replace hK := hK.trans hk
          replace hN_h_want := hN_h_want.kp hk
          replace hL_q_Sources := hL_q_Sources.kp hk
          replace hN_q_Records := hN_q_Records.kp hk
          replace hL_q_Records := hL_q_Records.kp hk
          replace hL_1 := hL_1.kp hk
          replace hN_5 := hN_5.kp hk
          replace hN_6 := hN_6.kp hk
          replace hN_7 := hN_7.kp hk
          refine HA.val (k := 14) (v := .bool r1_1) rfl rfl (by kernel_rfl) (by kernel_rfl) (want_none) rfl (fun _ ⟨c377, c378, c379, c382⟩ => q_assign rfl) ?_
          refine HA.nil ⟨⟨(hS.box 2 rfl), (hS.mp 3 rfl), (hS.box 4 rfl), (hS.box 7 rfl)⟩, (Go.Wk.at_nil _ _)⟩ (by kernel_rfl) (thenQ_normal (?_))
          replace hS : St F_16 (Ow.box bh 52 #[.bool a0_0_2, .int .i64 a0_1_2, .map (some rh_want), .int .i64 a0_3_3, .int .i64 a0_4_3] :: Ow.map rh_want (fun (x : T_api_Addr) => .agg (e_api_Addr x).toArray) (fun (x : T_api_Filter) => .agg #[.bool x.1, x.2.1]) a0_2_2 :: Ow.box b_2 39 (c_api_Talk (.bool q_V6) (.int .i64 q_Version) (.int .i64 q_Kind) (.int .i64 q_Resp) q_Group (.bool q_Quiet) (.int .i64 q_Robust) (.int .i64 q_Every) vq_Sources vq_Records).toArray :: Ow.own 39 26 e_api_Talk vout_1 out_1 :: Ow.own 60 19 e_api_Record vrecords_1 records_1 :: Ow.box b_8 60 (c_api_Record (.int .i64 r0_0_1) (r0_1_1, r0_2_1) vr0_18_1).toArray :: Ow.own 30 17 e_api_Addr vr0_18_1 r0_18_1 :: Ow.own 30 17 e_api_Addr vr_2 r_5 :: fr) h_23 := hS.perm2 [2, 3, 4, 5, 6, 1, 0, 8] 9 rfl rfl
          exact ⟨F_16, r0_0_1, r0_1_1, r0_2_1, r0_18_1, r1_1, b_8, vr0_18_1, rfl, rfl, rfl, rfl, rfl, rfl, rfl, rfl, rfl, rfl, hK, hS, hN_h_want, hL_q_Sources, hN_q_Records, hL_q_Records, hL_1, hN_5, hN_6, hN_7, hM⟩
        ·
         rintro f_6 h_24 ⟨F_17, r_0_1, r_1_1, r_2_1, r_18_1, ok_1, b_7, vr_18_1, e0, e7, e8, e9, e10, e13, e14, e68, e69, e70, hK, hS, hN_h_want, hL_q_Sources, hN_q_Records, hL_q_Records, hL_1, hN_5, hN_6, hN_7, hM⟩
         unfold host_Host_Hear_j5 at hM
         refine HW.fr [(0, .pointer (some ⟨bh, 0, none⟩)), (7, .pointer (some ⟨b_2, 0, none⟩)), (8, .slice none 0 0), (9, vout_1), (10, vrecords_1), (13, .pointer (some ⟨b_7, 0, none⟩)), (14, .bool ok_1), (68, vr_2), (69, .int .i64 (r_5.length : Int)), (70, .int .i64 n_1)] ⟨e0, e7, e8, e9, e10, e13, e14, e68, e69, e70, trivial⟩ ?_
         refine HW.seq ?_
         refine HW.region ?_
         refine oM (.bool ok_1) rfl rfl ?_
         refine HO.nil (thenQ_normal (?_))
         refine HW.cond ok_1 rfl (fun c_10 => ?_) (fun c_10 => ?_)
         ·
          replace hM := hM.1 c_10
          refine HW.region ?_
          refine oM (vrecords_1) rfl rfl ?_
          refine oV (.agg (c_api_Record (.int .i64 r_0_1) (r_1_1, r_2_1) vr_18_1).toArray) (q_loadAgg (cs := (c_api_Record (.int .i64 r_0_1) (r_1_1, r_2_1) vr_18_1)) ta_60 rfl rfl (Blk.cells (k := 19) (hS.box 5 rfl) rfl)) rfl ?_
          replace hS : St F_17 (Ow.own 30 17 e_api_Addr vr_18_1 r_18_1 :: Ow.box bh 52 #[.bool a0_0_2, .int .i64 a0_1_2, .map (some rh_want), .int .i64 a0_3_3, .int .i64 a0_4_3] :: Ow.map rh_want (fun (x : T_api_Addr) => .agg (e_api_Addr x).toArray) (fun (x : T_api_Filter) => .agg #[.bool x.1, x.2.1]) a0_2_2 :: Ow.box b_2 39 (c_api_Talk (.bool q_V6) (.int .i64 q_Version) (.int .i64 q_Kind) (.int .i64 q_Resp) q_Group (.bool q_Quiet) (.int .i64 q_Robust) (.int .i64 q_Every) vq_Sources vq_Records).toArray :: Ow.own 39 26 e_api_Talk vout_1 out_1 :: Ow.own 60 19 e_api_Record vrecords_1 records_1 :: Ow.box b_7 60 (c_api_Record (.int .i64 r_0_1) (r_1_1, r_2_1) vr_18_1).toArray :: Ow.own 30 17 e_api_Addr vr_2 r_5 :: fr) h_24 := hS.perm2 [6, 0, 1, 2, 3, 4, 5, 7] 8 rfl rfl
          obtain ⟨F_18, hS, hk, hL_9⟩ := hS.freezeOwn
          replace hK := hK.trans hk
          replace hN_h_want := hN_h_want.kp hk
          replace hL_q_Sources := hL_q_Sources.kp hk
          replace hN_q_Records := hN_q_Records.kp hk
          replace hL_q_Records := hL_q_Records.kp hk
          replace hL_1 := hL_1.kp hk
          replace hN_5 := hN_5.kp hk
          replace hN_6 := hN_6.kp hk
          replace hN_7 := hN_7.kp hk
          replace hM := hM vr_18_1
          refine HO.eff (want_none) rfl (st_lit (enc := e_api_Record) (cells := #[.int .i64 r_0_1, .bool r_1_1, .int .u8 (b8 r_2_1 0), .int .u8 (b8 r_2_1 1), .int .u8 (b8 r_2_1 2), .int .u8 (b8 r_2_1 3), .int .u8 (b8 r_2_1 4), .int .u8 (b8 r_2_1 5), .int .u8 (b8 r_2_1 6), .int .u8 (b8 r_2_1 7), .int .u8 (b8 r_2_1 8), .int .u8 (b8 r_2_1 9), .int .u8 (b8 r_2_1 10), .int .u8 (b8 r_2_1 11), .int .u8 (b8 r_2_1 12), .int .u8 (b8 r_2_1 13), .int .u8 (b8 r_2_1 14), .int .u8 (b8 r_2_1 15), vr_18_1]) #[.int .i64 0, .bool false, .int .u8 0, .int .u8 0, .int .u8 0, .int .u8 0, .int .u8 0, .int .u8 0, .int .u8 0, .int .u8 0, .int .u8 0, .int .u8 0, .int .u8 0, .int .u8 0, .int .u8 0, .int .u8 0, .int .u8 0, .int .u8 0, .slice none 0 0] ([(r_0_1, (r_1_1, r_2_1), (vr_18_1, r_18_1))] : List T_api_Record) hS tl_37 (by decide) (by decide) (by kernel_rfl) (by kernel_rfl) rfl (by intro x hx; rfl) rfl) ?_
          rintro _ h_25 ⟨b_9, rfl, hS, hk⟩
          replace hK := hK.trans hk
          replace hN_h_want := hN_h_want.kp hk
          replace hL_q_Sources := hL_q_Sources.kp hk
          replace hN_q_Records := hN_q_Records.kp hk
          replace hL_q_Records := hL_q_Records.kp hk
          replace hL_1 := hL_1.kp hk
          replace hN_5 := hN_5.kp hk
          replace hN_6 := hN_6.kp hk
          replace hN_7 := hN_7.kp hk
          replace hL_9 := hL_9.kp hk
          have hN_11 : NfL nf_api_Record F_18 h_25 ([(r_0_1, (r_1_1, r_2_1), (vr_18_1, r_18_1))] : List T_api_Record) := (NfL.cons (nfm_api_Record (r_0_1, (r_1_1, r_2_1), (vr_18_1, r_18_1)) hL_9) (NfL.nil _ _ _))
          obtain ⟨ho_7, hM⟩ := hM
          refine HO.eff (want_none) rfl (st_append te_37 hS (i := 5) rfl (hS.own 0 rfl).slice rfl rfl rfl (fun a_ ha_ => nfo_api_Record (hN_11.is.all a_ ha_)) ho_7 (by omega)) ?_
          rintro v_2 h_26 ⟨hS, hk⟩
          replace hK := hK.trans hk
          replace hN_h_want := hN_h_want.kp hk
          replace hL_q_Sources := hL_q_Sources.kp hk
          replace hN_q_Records := hN_q_Records.kp hk
          replace hL_q_Records := hL_q_Records.kp hk
          replace hL_1 := hL_1.kp hk
          replace hN_5 := hN_5.kp hk
          replace hN_6 := hN_6.kp hk
          replace hN_7 := hN_7.kp hk
          replace hN_11 := hN_11.kp hk
          have hN_12 : NfL nf_api_Record F_18 h_26 (records_1 ++ ([(r_0_1, (r_1_1, r_2_1), (vr_18_1, r_18_1))] : List T_api_Record)) := NfL.app hN_7 hN_11
          refine oA (v_2) rfl rfl ?_
          refine HO.nil (blockQ_normal (blockQ_normal (thenQ_normal (?_))))
          refine HW.region ?_
          obtain ⟨ho_8, hM⟩ := hM
          refine oV (.int .i64 (n_1 + 1)) (q_addN _ rfl rfl rfl ho_8.1 ho_8.2) rfl ?_
          refine oM (.int .i64 (n_1 + 1)) rfl rfl ?_
          refine HO.nil (thenQ_normal (?_))
          replace hS : St F_18 (Ow.box bh 52 #[.bool a0_0_2, .int .i64 a0_1_2, .map (some rh_want), .int .i64 a0_3_3, .int .i64 a0_4_3] :: Ow.map rh_want (fun (x : T_api_Addr) => .agg (e_api_Addr x).toArray) (fun (x : T_api_Filter) => .agg #[.bool x.1, x.2.1]) a0_2_2 :: Ow.box b_2 39 (c_api_Talk (.bool q_V6) (.int .i64 q_Version) (.int .i64 q_Kind) (.int .i64 q_Resp) q_Group (.bool q_Quiet) (.int .i64 q_Robust) (.int .i64 q_Every) vq_Sources vq_Records).toArray :: Ow.own 39 26 e_api_Talk vout_1 out_1 :: Ow.own 60 19 e_api_Record v_2 (records_1 ++ ([(r_0_1, (r_1_1, r_2_1), (vr_18_1, r_18_1))] : List T_api_Record)) :: Ow.own 30 17 e_api_Addr vr_2 r_5 :: fr) h_26 := hS.perm2 [1, 2, 3, 4, 5, 7] 8 rfl rfl
          rw [hKe_1] at hM
          exact ⟨(a0_0_2, a0_1_2, a0_2_2, a0_3_3, a0_4_3, out_1, records_1 ++ ([(r_0_1, (r_1_1, r_2_1), (vr_18_1, r_18_1))] : List T_api_Record), n_1 + 1), ⟨F_18, vout_1, v_2, rfl, rfl, rfl, rfl, rfl, rfl, rfl, rfl, hK, hS, hN_h_want, hL_q_Sources, hN_q_Records, hL_q_Records, hL_1, hN_5, hN_6, hN_12, hM.1⟩, hM.2⟩
         ·
          replace hM := hM.2 c_10
          refine HW.skip (blockQ_normal (blockQ_normal (thenQ_normal (?_))))
          refine HW.region ?_
          obtain ⟨ho_9, hM⟩ := hM
          refine oV (.int .i64 (n_1 + 1)) (q_addN _ rfl rfl rfl ho_9.1 ho_9.2) rfl ?_
          refine oM (.int .i64 (n_1 + 1)) rfl rfl ?_
          refine HO.nil (thenQ_normal (?_))
          replace hS : St F_17 (Ow.box bh 52 #[.bool a0_0_2, .int .i64 a0_1_2, .map (some rh_want), .int .i64 a0_3_3, .int .i64 a0_4_3] :: Ow.map rh_want (fun (x : T_api_Addr) => .agg (e_api_Addr x).toArray) (fun (x : T_api_Filter) => .agg #[.bool x.1, x.2.1]) a0_2_2 :: Ow.box b_2 39 (c_api_Talk (.bool q_V6) (.int .i64 q_Version) (.int .i64 q_Kind) (.int .i64 q_Resp) q_Group (.bool q_Quiet) (.int .i64 q_Robust) (.int .i64 q_Every) vq_Sources vq_Records).toArray :: Ow.own 39 26 e_api_Talk vout_1 out_1 :: Ow.own 60 19 e_api_Record vrecords_1 records_1 :: Ow.own 30 17 e_api_Addr vr_2 r_5 :: fr) h_24 := hS.perm2 [0, 1, 2, 3, 4, 7] 8 rfl rfl
          rw [hKe_1] at hM
          exact ⟨(a0_0_2, a0_1_2, a0_2_2, a0_3_3, a0_4_3, out_1, records_1, n_1 + 1), ⟨F_17, vout_1, vrecords_1, rfl, rfl, rfl, rfl, rfl, rfl, rfl, rfl, hK, hS, hN_h_want, hL_q_Sources, hN_q_Records, hL_q_Records, hL_1, hN_5, hN_6, hN_7, hM.1⟩, hM.2⟩
    ·
     replace hM := hM.2 (of_decide_eq_false c_6)
     refine HW.exit (thenQ_exit (thenQ_exit (blockQ_exit (thenQ_normal (?_)))))
     refine HW.seq ?_
     refine HW.region ?_
     refine oM (vout_1) rfl rfl ?_
     refine oM (.pointer (some ⟨bh, 0, none⟩)) rfl rfl ?_
     refine oV (.pointer (some ⟨bh, 0, none⟩)) (q_nilCheck rfl) rfl ?_
     refine oV (.pointer (some ⟨bh, 0, none⟩)) (q_fieldAddr fa_52_0 rfl rfl) rfl ?_
     refine oV (.bool a0_0_2) (q_load to_4 rfl (Blk.cell (hS.box 0 rfl) rfl)) rfl ?_
     refine oM (vrecords_1) rfl rfl ?_
     replace hS : St F_9 (Ow.own 60 19 e_api_Record vrecords_1 records_1 :: Ow.box bh 52 #[.bool a0_0_2, .int .i64 a0_1_2, .map (some rh_want), .int .i64 a0_3_3, .int .i64 a0_4_3] :: Ow.map rh_want (fun (x : T_api_Addr) => .agg (e_api_Addr x).toArray) (fun (x : T_api_Filter) => .agg #[.bool x.1, x.2.1]) a0_2_2 :: Ow.box b_2 39 (c_api_Talk (.bool q_V6) (.int .i64 q_Version) (.int .i64 q_Kind) (.int .i64 q_Resp) q_Group (.bool q_Quiet) (.int .i64 q_Robust) (.int .i64 q_Every) vq_Sources vq_Records).toArray :: Ow.own 39 26 e_api_Talk vout_1 out_1 :: Ow.own 30 17 e_api_Addr vr_2 r_5 :: fr) h_12 := hS.perm2 [4, 0, 1, 2, 3, 5] 6 rfl rfl
     obtain ⟨F_19, hS, hk, hL_10⟩ := hS.freezeOwn
     replace hK := hK.trans hk
     replace hN_h_want := hN_h_want.kp hk
     replace hL_q_Sources := hL_q_Sources.kp hk
     replace hN_q_Records := hN_q_Records.kp hk
     replace hL_q_Records := hL_q_Records.kp hk
     replace hN_5 := hN_5.kp hk
     replace hN_6 := hN_6.kp hk
     replace hN_7 := hN_7.kp hk
     refine HO.call (want_none) rfl (ec en_32 rfl rfl) (host_pack_walk (fr := (Ow.box bh 52 #[.bool a0_0_2, .int .i64 a0_1_2, .map (some rh_want), .int .i64 a0_3_3, .int .i64 a0_4_3] :: Ow.map rh_want (fun (x : T_api_Addr) => .agg (e_api_Addr x).toArray) (fun (x : T_api_Filter) => .agg #[.bool x.1, x.2.1]) a0_2_2 :: Ow.box b_2 39 (c_api_Talk (.bool q_V6) (.int .i64 q_Version) (.int .i64 q_Kind) (.int .i64 q_Resp) q_Group (.bool q_Quiet) (.int .i64 q_Robust) (.int .i64 q_Every) vq_Sources vq_Records).toArray :: Ow.own 39 26 e_api_Talk vout_1 out_1 :: Ow.own 30 17 e_api_Addr vr_2 r_5 :: fr)) a0_0_2 records_1 vrecords_1 hS hN_7 hL_10 hM) ?_
     rintro vr_4 h_27 ⟨F_20, r_10, _, rfl, hk, hS, _, _, hL_11, hM⟩
     replace hK := hK.trans hk
     replace hN_h_want := hN_h_want.kp hk
     replace hL_q_Sources := hL_q_Sources.kp hk
     replace hN_q_Records := hN_q_Records.kp hk
     replace hL_q_Records := hL_q_Records.kp hk
     replace hN_5 := hN_5.kp hk
     replace hN_6 := hN_6.kp hk
     obtain ⟨ho_10, hM⟩ := hM
     refine HO.eff (want_none) rfl (st_append te_24 hS (i := 4) rfl (hS.own 0 rfl).slice rfl rfl rfl (fun a_ ha_ => nfo_api_Talk (hL_11.is.all a_ ha_)) ho_10 (by omega)) ?_
     rintro v_3 h_28 ⟨hS, hk⟩
     replace hK := hK.trans hk
     replace hN_h_want := hN_h_want.kp hk
     replace hL_q_Sources := hL_q_Sources.kp hk
     replace hN_q_Records := hN_q_Records.kp hk
     replace hL_q_Records := hL_q_Records.kp hk
     replace hN_5 := hN_5.kp hk
     replace hN_6 := hN_6.kp hk
     replace hL_11 := hL_11.kp hk
     have hN_13 : NfL nf_api_Talk F_20 h_28 (out_1 ++ r_10) := NfL.app hN_6 hL_11
     refine oA (v_3) rfl rfl ?_
     refine HO.nil (thenQ_normal (?_))
     refine HW.ret (?_)
     refine ⟨.inr rfl, v_3, res1 rfl (rt rfl), ?_⟩
     replace hS : St F_20 (Ow.own 39 26 e_api_Talk v_3 (out_1 ++ r_10) :: Ow.box bh 52 #[.bool a0_0_2, .int .i64 a0_1_2, .map (some rh_want), .int .i64 a0_3_3, .int .i64 a0_4_3] :: Ow.map rh_want (fun (x : T_api_Addr) => .agg (e_api_Addr x).toArray) (fun (x : T_api_Filter) => .agg #[.bool x.1, x.2.1]) a0_2_2 :: fr) h_28 := hS.perm2 [4, 1, 2] 6 rfl rfl
     exact ⟨F_20, out_1 ++ r_10, a0_0_2, a0_1_2, a0_2_2, a0_3_3, a0_4_3, v_3, rfl, hK, hS, hN_h_want, hL_q_Sources, hN_q_Records, hL_q_Records, hN_13, hN_5, hM⟩
def law20_lives_W (Q : Bool → Prop) : Prop :=
 host_New_W false (law20_four_W 239 1 (fun r_3 => host_Host_Set_W false 0 [] 0 0 0 r_3 true [] (fun r0_1 r1_1 a0_v6_1 a0_now_1 a0m_1 a0_one_1 a0_two_1 => law18_Usual_W  (fun r_4 => host_Host_Hear_W a0_v6_1 a0_now_1 a0m_1 a0_one_1 a0_two_1 1 r_4 false 3 1 0 (false, (default : Ba 16)) false 0 0 [] [] (fun r_5 a0_v6_2 a0_now_2 a0m_2 a0_one_2 a0_two_2 => (r1_1 = 0 → ((r0_1.length : Int) = 1 → ((0 : Int) ≤ 0 ∧ 0 < (r0_1.length : Int)) ∧ ((((((gi r0_1 0).2.2.2.2.2.2.2.2.2).2).length : Int) = 1 → ((0 : Int) ≤ 0 ∧ 0 < ((((gi r0_1 0).2.2.2.2.2.2.2.2.2).2).length : Int)) ∧ ((((gi (((gi r0_1 0).2.2.2.2.2.2.2.2.2).2) 0).1) = 4 → ((r_5.length : Int) = 1 → ((0 : Int) ≤ 0 ∧ 0 < (r_5.length : Int)) ∧ ((((((gi r_5 0).2.2.2.2.2.2.2.2.2).2).length : Int) = 1 → ((0 : Int) ≤ 0 ∧ 0 < ((((gi r_5 0).2.2.2.2.2.2.2.2.2).2).length : Int)) ∧ (Q (decide (((gi (((gi r_5 0).2.2.2.2.2.2.2.2.2).2) 0).1) = 2)))) ∧ (¬ (((((gi r_5 0).2.2.2.2.2.2.2.2.2).2).length : Int) = 1) → Q false))) ∧ (¬ ((r_5.length : Int) = 1) → Q false)) ∧ (¬ (((gi (((gi r0_1 0).2.2.2.2.2.2.2.2.2).2) 0).1) = 4) → Q false))) ∧ (¬ (((((gi r0_1 0).2.2.2.2.2.2.2.2.2).2).length : Int) = 1) → Q false))) ∧ (¬ ((r0_1.length : Int) = 1) → Q false)) ∧ (¬ (r1_1 = 0) → Q false))))))
theorem law20_lives_walk {F : Fz} {fr : List Ow} {h0 : Heap}  (hS : St F (fr) h0)  {Q : Bool → Prop} (hM : law20_lives_W Q) :
  HC Try.prog 8 #[] h0 fun u h' => ∃ (F' : Fz) (r_1 : Bool), u = .bool r_1 ∧ Kp F h0 F' h' ∧ St F' (fr) h' ∧ Q r_1 := by
 unfold law20_lives_W at hM
 have hK := Kp.refl F h0
 refine HC.of_HW (n := 65) Try.func8 rfl rfl (Nat.le_of_ble_eq_true rfl) ?_
 refine HW.seq ?_
 refine HW.region ?_
 refine oA (.bool false) rfl rfl ?_
 refine HO.nil (thenQ_normal (?_))
 refine HW.seq ?_
 refine HW.region ?_
 refine HO.call (want_none) rfl (ec en_5 rfl rfl) (host_New_walk (fr := (fr)) false hS hM) ?_
 rintro _ h_1 ⟨F_1, b_1, r_2, rfl, hk, hS, hL_1, hM⟩
 replace hK := hK.trans hk
 refine oA (.pointer (some ⟨b_1, 0, none⟩)) rfl rfl ?_
 refine HO.nil (thenQ_normal (?_))
 refine HW.seq ?_
 refine HW.region ?_
 refine oM (.pointer (some ⟨b_1, 0, none⟩)) rfl rfl ?_
 refine HO.call (want_none) rfl (ec en_7 rfl rfl) (law20_four_walk (fr := (Ow.box b_1 52 #[.bool false, .int .i64 0, .map (some r_2), .int .i64 0, .int .i64 0] :: Ow.map r_2 (fun (x : T_api_Addr) => .agg (e_api_Addr x).toArray) (fun (x : T_api_Filter) => .agg #[.bool x.1, x.2.1]) ([] : List (T_api_Addr × T_api_Filter)) :: fr)) 239 1 hS hM) ?_
 rintro _ h_2 ⟨F_2, r_3, rfl, hk, hS, hM⟩
 replace hK := hK.trans hk
 replace hL_1 := hL_1.kp hk
 refine oV (.agg #[.bool true, .slice none 0 0]) (q_build tp_34 rfl) rfl ?_
 refine HO.call (want_none) rfl (ec en_6 rfl rfl) (host_Host_Set_walk (fr := (fr)) false 0 [] 0 0 0 r_3 true [] b_1 r_2 (.slice none 0 0) hS hL_1 (SliceF.nil _ _ _ _) hM) ?_
 rintro _ h_3 ⟨F_3, r0_1, r1_1, a0_v6_1, a0_now_1, a0m_1, a0_one_1, a0_two_1, vr0_1, rfl, hk, hS, _, _, hL_2, hL_3, hM⟩
 replace hK := hK.trans hk
 refine oM (.tuple #[vr0_1, .int .i64 r1_1]) rfl rfl ?_
 refine oV (vr0_1) (q_extract rfl rfl) rfl ?_
 refine oV (.int .i64 r1_1) (q_extract rfl rfl) rfl ?_
 refine oA (vr0_1) rfl rfl ?_
 refine oA (.int .i64 r1_1) rfl rfl ?_
 refine HO.nil (thenQ_normal (?_))
 refine HW.seq ?_
 refine HW.region ?_
 refine oM (.pointer (some ⟨b_1, 0, none⟩)) rfl rfl ?_
 refine HO.call (want_none) rfl (ec en_10 rfl rfl) (law18_Usual_walk (fr := (Ow.own 39 26 e_api_Talk vr0_1 r0_1 :: Ow.box b_1 52 #[.bool a0_v6_1, .int .i64 a0_now_1, .map (some r_2), .int .i64 a0_one_1, .int .i64 a0_two_1] :: Ow.map r_2 (fun (x : T_api_Addr) => .agg (e_api_Addr x).toArray) (fun (x : T_api_Filter) => .agg #[.bool x.1, x.2.1]) a0m_1 :: fr))  hS hM) ?_
 rintro _ h_4 ⟨F_4, r_4, rfl, hk, hS, hM⟩
 replace hK := hK.trans hk
 replace hL_2 := hL_2.kp hk
 replace hL_3 := hL_3.kp hk
 refine oV (.agg (c_api_Talk (.bool false) (.int .i64 3) (.int .i64 1) (.int .i64 0) (false, (default : Ba 16)) (.bool false) (.int .i64 0) (.int .i64 0) (.slice none 0 0) (.slice none 0 0)).toArray) (q_build tp_39 rfl) rfl ?_
 replace hS : St F_4 (Ow.box b_1 52 #[.bool a0_v6_1, .int .i64 a0_now_1, .map (some r_2), .int .i64 a0_one_1, .int .i64 a0_two_1] :: Ow.map r_2 (fun (x : T_api_Addr) => .agg (e_api_Addr x).toArray) (fun (x : T_api_Filter) => .agg #[.bool x.1, x.2.1]) a0m_1 :: Ow.own 39 26 e_api_Talk vr0_1 r0_1 :: fr) h_4 := hS.perm2 [1, 2, 0] 3 rfl rfl
 refine HO.call (want_none) rfl (ec en_9 rfl rfl) (host_Host_Hear_walk (fr := (Ow.own 39 26 e_api_Talk vr0_1 r0_1 :: fr)) a0_v6_1 a0_now_1 a0m_1 a0_one_1 a0_two_1 1 r_4 false 3 1 0 (false, (default : Ba 16)) false 0 0 [] [] b_1 r_2 (.slice none 0 0) (.slice none 0 0) hS hL_3 (SliceF.nil _ _ _ _) (NfL.nil _ _ _) (SliceF.nil _ _ _ _) hM) ?_
 rintro vr_1 h_5 ⟨F_5, r_5, a0_v6_2, a0_now_2, a0m_2, a0_one_2, a0_two_2, _, rfl, hk, hS, _, _, _, _, hL_4, hL_5, hM⟩
 replace hK := hK.trans hk
 replace hL_2 := hL_2.kp hk
 refine oA (vr_1) rfl rfl ?_
 refine HO.nil (thenQ_normal (?_))
 refine HW.seq ?_
 refine HW.region ?_
 refine oM (.int .i64 r1_1) rfl rfl ?_
 refine oV (.bool (decide (r1_1 = 0))) (q_eql rfl rfl) rfl ?_
 refine oM (.bool (decide (r1_1 = 0))) rfl rfl ?_
 rcases Bool.eq_false_or_eq_true (decide (r1_1 = 0)) with c_1 | c_1
 ·
  replace hM := hM.1 (of_decide_eq_true c_1)
  refine HO.val (v := vr0_1) (want_by rfl rfl c_1) rfl (q_move rfl) ?_
  refine HO.val (v := .int .i64 (r0_1.length : Int)) (want_by rfl rfl c_1) rfl (q_len ts_24 (shp (hS.own 3 rfl).slice) rfl rfl) ?_
  refine HO.val (v := .bool (decide ((r0_1.length : Int) = 1))) (want_by rfl rfl c_1) rfl (q_eql rfl rfl) ?_
  refine oV (.bool (decide ((r0_1.length : Int) = 1))) (q_pickK true rfl c_1 rfl) rfl ?_
  refine oM (.bool (decide ((r0_1.length : Int) = 1))) rfl rfl ?_
  rcases Bool.eq_false_or_eq_true (decide ((r0_1.length : Int) = 1)) with c_2 | c_2
  ·
   replace hM := hM.1 (of_decide_eq_true c_2)
   refine HO.val (v := vr0_1) (want_by rfl rfl c_2) rfl (q_move rfl) ?_
   obtain ⟨ho_1, hM⟩ := hM
   refine HO.val (v := elemPtr 26 vr0_1 (0 : Int).toNat) (want_by rfl rfl c_2) rfl (q_idx ts_24 (hS.own 3 rfl).slice rfl rfl ho_1) ?_
   refine HO.val (v := fieldPtr 26 vr0_1 (0 : Int).toNat 25) (want_by rfl rfl c_2) rfl (q_fldElem fa_39_9 (hS.own 3 rfl).slice rfl ho_1) ?_
   refine HO.val (v := ((gi r0_1 0).2.2.2.2.2.2.2.2.2).1) (want_by rfl rfl c_2) rfl (q_ldField to_37 (hS.own 3 rfl).slice rfl ho_1 (by decide) rfl) ?_
   refine HO.val (v := .int .i64 ((((gi r0_1 0).2.2.2.2.2.2.2.2.2).2).length : Int)) (want_by rfl rfl c_2) rfl (q_len ts_37 (shp (nfi_api_Talk_25 (NfI.at hL_2.is ho_1))) rfl rfl) ?_
   refine HO.val (v := .bool (decide (((((gi r0_1 0).2.2.2.2.2.2.2.2.2).2).length : Int) = 1))) (want_by rfl rfl c_2) rfl (q_eql rfl rfl) ?_
   refine oV (.bool (decide (((((gi r0_1 0).2.2.2.2.2.2.2.2.2).2).length : Int) = 1))) (q_pickK true rfl c_2 rfl) rfl ?_
   refine oM (.bool (decide (((((gi r0_1 0).2.2.2.2.2.2.2.2.2).2).length : Int) = 1))) rfl rfl ?_
   rcases Bool.eq_false_or_eq_true (decide (((((gi r0_1 0).2.2.2.2.2.2.2.2.2).2).length : Int) = 1)) with c_3 | c_3
   ·
    replace hM := hM.1 (of_decide_eq_true c_3)
    refine HO.val (v := vr0_1) (want_by rfl rfl c_3) rfl (q_move rfl) ?_
    refine HO.val (v := elemPtr 26 vr0_1 (0 : Int).toNat) (want_by rfl rfl c_3) rfl (q_idx ts_24 (hS.own 3 rfl).slice rfl rfl ho_1) ?_
    refine HO.val (v := fieldPtr 26 vr0_1 (0 : Int).toNat 25) (want_by rfl rfl c_3) rfl (q_fldElem fa_39_9 (hS.own 3 rfl).slice rfl ho_1) ?_
    refine HO.val (v := ((gi r0_1 0).2.2.2.2.2.2.2.2.2).1) (want_by rfl rfl c_3) rfl (q_ldField to_37 (hS.own 3 rfl).slice rfl ho_1 (by decide) rfl) ?_
    obtain ⟨ho_2, hM⟩ := hM
    refine HO.val (v := elemPtr 19 (((gi r0_1 0).2.2.2.2.2.2.2.2.2).1) (0 : Int).toNat) (want_by rfl rfl c_3) rfl (q_idx ts_37 (nfi_api_Talk_25 (NfI.at hL_2.is ho_1)) rfl rfl ho_2) ?_
    refine HO.val (v := fieldPtr 19 (((gi r0_1 0).2.2.2.2.2.2.2.2.2).1) (0 : Int).toNat 0) (want_by rfl rfl c_3) rfl (q_fldElem fa_60_0 (nfi_api_Talk_25 (NfI.at hL_2.is ho_1)) rfl ho_2) ?_
    refine HO.val (v := .int .i64 ((gi (((gi r0_1 0).2.2.2.2.2.2.2.2.2).2) 0).1)) (want_by rfl rfl c_3) rfl (q_ldField to_3 (nfi_api_Talk_25 (NfI.at hL_2.is ho_1)) rfl ho_2 (by decide) rfl) ?_
    refine HO.val (v := .bool (decide (((gi (((gi r0_1 0).2.2.2.2.2.2.2.2.2).2) 0).1) = 4))) (want_by rfl rfl c_3) rfl (q_eql rfl rfl) ?_
    refine oV (.bool (decide (((gi (((gi r0_1 0).2.2.2.2.2.2.2.2.2).2) 0).1) = 4))) (q_pickK true rfl c_3 rfl) rfl ?_
    refine oM (.bool (decide (((gi (((gi r0_1 0).2.2.2.2.2.2.2.2.2).2) 0).1) = 4))) rfl rfl ?_
    rcases Bool.eq_false_or_eq_true (decide (((gi (((gi r0_1 0).2.2.2.2.2.2.2.2.2).2) 0).1) = 4)) with c_4 | c_4
    ·
     replace hM := hM.1 (of_decide_eq_true c_4)
     refine HO.val (v := vr_1) (want_by rfl rfl c_4) rfl (q_move rfl) ?_
     refine HO.val (v := .int .i64 (r_5.length : Int)) (want_by rfl rfl c_4) rfl (q_len ts_24 (shp (hS.own 0 rfl).slice) rfl rfl) ?_
     refine HO.val (v := .bool (decide ((r_5.length : Int) = 1))) (want_by rfl rfl c_4) rfl (q_eql rfl rfl) ?_
     refine oV (.bool (decide ((r_5.length : Int) = 1))) (q_pickK true rfl c_4 rfl) rfl ?_
     refine oM (.bool (decide ((r_5.length : Int) = 1))) rfl rfl ?_
     rcases Bool.eq_false_or_eq_true (decide ((r_5.length : Int) = 1)) with c_5 | c_5
     ·
      replace hM := hM.1 (of_decide_eq_true c_5)
      refine HO.val (v := vr_1) (want_by rfl rfl c_5) rfl (q_move rfl) ?_
      obtain ⟨ho_3, hM⟩ := hM
      refine HO.val (v := elemPtr 26 vr_1 (0 : Int).toNat) (want_by rfl rfl c_5) rfl (q_idx ts_24 (hS.own 0 rfl).slice rfl rfl ho_3) ?_
      refine HO.val (v := fieldPtr 26 vr_1 (0 : Int).toNat 25) (want_by rfl rfl c_5) rfl (q_fldElem fa_39_9 (hS.own 0 rfl).slice rfl ho_3) ?_
      refine HO.val (v := ((gi r_5 0).2.2.2.2.2.2.2.2.2).1) (want_by rfl rfl c_5) rfl (q_ldField to_37 (hS.own 0 rfl).slice rfl ho_3 (by decide) rfl) ?_
      refine HO.val (v := .int .i64 ((((gi r_5 0).2.2.2.2.2.2.2.2.2).2).length : Int)) (want_by rfl rfl c_5) rfl (q_len ts_37 (shp (nfi_api_Talk_25 (NfI.at hL_4.is ho_3))) rfl rfl) ?_
      refine HO.val (v := .bool (decide (((((gi r_5 0).2.2.2.2.2.2.2.2.2).2).length : Int) = 1))) (want_by rfl rfl c_5) rfl (q_eql rfl rfl) ?_
      refine oV (.bool (decide (((((gi r_5 0).2.2.2.2.2.2.2.2.2).2).length : Int) = 1))) (q_pickK true rfl c_5 rfl) rfl ?_
      refine oM (.bool (decide (((((gi r_5 0).2.2.2.2.2.2.2.2.2).2).length : Int) = 1))) rfl rfl ?_
      rcases Bool.eq_false_or_eq_true (decide (((((gi r_5 0).2.2.2.2.2.2.2.2.2).2).length : Int) = 1)) with c_6 | c_6
      ·
       replace hM := hM.1 (of_decide_eq_true c_6)
       refine HO.val (v := vr_1) (want_by rfl rfl c_6) rfl (q_move rfl) ?_
       refine HO.val (v := elemPtr 26 vr_1 (0 : Int).toNat) (want_by rfl rfl c_6) rfl (q_idx ts_24 (hS.own 0 rfl).slice rfl rfl ho_3) ?_
       refine HO.val (v := fieldPtr 26 vr_1 (0 : Int).toNat 25) (want_by rfl rfl c_6) rfl (q_fldElem fa_39_9 (hS.own 0 rfl).slice rfl ho_3) ?_
       refine HO.val (v := ((gi r_5 0).2.2.2.2.2.2.2.2.2).1) (want_by rfl rfl c_6) rfl (q_ldField to_37 (hS.own 0 rfl).slice rfl ho_3 (by decide) rfl) ?_
       obtain ⟨ho_4, hM⟩ := hM
       refine HO.val (v := elemPtr 19 (((gi r_5 0).2.2.2.2.2.2.2.2.2).1) (0 : Int).toNat) (want_by rfl rfl c_6) rfl (q_idx ts_37 (nfi_api_Talk_25 (NfI.at hL_4.is ho_3)) rfl rfl ho_4) ?_
       refine HO.val (v := fieldPtr 19 (((gi r_5 0).2.2.2.2.2.2.2.2.2).1) (0 : Int).toNat 0) (want_by rfl rfl c_6) rfl (q_fldElem fa_60_0 (nfi_api_Talk_25 (NfI.at hL_4.is ho_3)) rfl ho_4) ?_
       refine HO.val (v := .int .i64 ((gi (((gi r_5 0).2.2.2.2.2.2.2.2.2).2) 0).1)) (want_by rfl rfl c_6) rfl (q_ldField to_3 (nfi_api_Talk_25 (NfI.at hL_4.is ho_3)) rfl ho_4 (by decide) rfl) ?_
       refine HO.val (v := .bool (decide (((gi (((gi r_5 0).2.2.2.2.2.2.2.2.2).2) 0).1) = 2))) (want_by rfl rfl c_6) rfl (q_eql rfl rfl) ?_
       refine oV (.bool (decide (((gi (((gi r_5 0).2.2.2.2.2.2.2.2.2).2) 0).1) = 2))) (q_pickK true rfl c_6 rfl) rfl ?_
       refine oA (.bool (decide (((gi (((gi r_5 0).2.2.2.2.2.2.2.2.2).2) 0).1) = 2))) rfl rfl ?_
       refine HO.nil (thenQ_normal (?_))
       refine HW.ret (?_)
       refine ⟨.inr rfl, .bool (decide (((gi (((gi r_5 0).2.2.2.2.2.2.2.2.2).2) 0).1) = 2)), res1 rfl (rt rfl), ?_⟩
       replace hS : St F_5 (fr) h_5 := hS.perm2 [] 4 rfl rfl
       exact ⟨F_5, decide (((gi (((gi r_5 0).2.2.2.2.2.2.2.2.2).2) 0).1) = 2), rfl, hK, hS, hM⟩
      ·
       replace hM := hM.2 (of_decide_eq_false c_6)
       refine HO.past (past_by rfl rfl c_6) rfl ?_
       refine HO.past (past_by rfl rfl c_6) rfl ?_
       refine HO.past (past_by rfl rfl c_6) rfl ?_
       refine HO.past (past_by rfl rfl c_6) rfl ?_
       refine HO.past (past_by rfl rfl c_6) rfl ?_
       refine HO.past (past_by rfl rfl c_6) rfl ?_
       refine HO.past (past_by rfl rfl c_6) rfl ?_
       refine HO.past (past_by rfl rfl c_6) rfl ?_
       refine oV (.bool false) (q_pickK false rfl c_6 rfl) rfl ?_
       refine oA (.bool false) rfl rfl ?_
       refine HO.nil (thenQ_normal (?_))
       refine HW.ret (?_)
       refine ⟨.inr rfl, .bool false, res1 rfl (rt rfl), ?_⟩
       replace hS : St F_5 (fr) h_5 := hS.perm2 [] 4 rfl rfl
       exact ⟨F_5, false, rfl, hK, hS, hM⟩
     ·
      replace hM := hM.2 (of_decide_eq_false c_5)
      refine HO.past (past_by rfl rfl c_5) rfl ?_
      refine HO.past (past_by rfl rfl c_5) rfl ?_
      refine HO.past (past_by rfl rfl c_5) rfl ?_
      refine HO.past (past_by rfl rfl c_5) rfl ?_
      refine HO.past (past_by rfl rfl c_5) rfl ?_
      refine HO.past (past_by rfl rfl c_5) rfl ?_
      refine oV (.bool false) (q_pickK false rfl c_5 rfl) rfl ?_
      refine oM (.bool false) rfl rfl ?_
      refine HO.past (past_some rfl rfl) rfl ?_
      refine HO.past (past_some rfl rfl) rfl ?_
      refine HO.past (past_some rfl rfl) rfl ?_
      refine HO.past (past_some rfl rfl) rfl ?_
      refine HO.past (past_some rfl rfl) rfl ?_
      refine HO.past (past_some rfl rfl) rfl ?_
      refine HO.past (past_some rfl rfl) rfl ?_
      refine HO.past (past_some rfl rfl) rfl ?_
      refine oV (.bool false) (q_pick rfl rfl) rfl ?_
      refine oA (.bool false) rfl rfl ?_
      refine HO.nil (thenQ_normal (?_))
      refine HW.ret (?_)
      refine ⟨.inr rfl, .bool false, res1 rfl (rt rfl), ?_⟩
      replace hS : St F_5 (fr) h_5 := hS.perm2 [] 4 rfl rfl
      exact ⟨F_5, false, rfl, hK, hS, hM⟩
    ·
     replace hM := hM.2 (of_decide_eq_false c_4)
     refine HO.past (past_by rfl rfl c_4) rfl ?_
     refine HO.past (past_by rfl rfl c_4) rfl ?_
     refine HO.past (past_by rfl rfl c_4) rfl ?_
     refine oV (.bool false) (q_pickK false rfl c_4 rfl) rfl ?_
     refine oM (.bool false) rfl rfl ?_
     refine HO.past (past_some rfl rfl) rfl ?_
     refine HO.past (past_some rfl rfl) rfl ?_
     refine HO.past (past_some rfl rfl) rfl ?_
     refine HO.past (past_some rfl rfl) rfl ?_
     refine HO.past (past_some rfl rfl) rfl ?_
     refine HO.past (past_some rfl rfl) rfl ?_
     refine oV (.bool false) (q_pick rfl rfl) rfl ?_
     refine oM (.bool false) rfl rfl ?_
     refine HO.past (past_some rfl rfl) rfl ?_
     refine HO.past (past_some rfl rfl) rfl ?_
     refine HO.past (past_some rfl rfl) rfl ?_
     refine HO.past (past_some rfl rfl) rfl ?_
     refine HO.past (past_some rfl rfl) rfl ?_
     refine HO.past (past_some rfl rfl) rfl ?_
     refine HO.past (past_some rfl rfl) rfl ?_
     refine HO.past (past_some rfl rfl) rfl ?_
     refine oV (.bool false) (q_pick rfl rfl) rfl ?_
     refine oA (.bool false) rfl rfl ?_
     refine HO.nil (thenQ_normal (?_))
     refine HW.ret (?_)
     refine ⟨.inr rfl, .bool false, res1 rfl (rt rfl), ?_⟩
     replace hS : St F_5 (fr) h_5 := hS.perm2 [] 4 rfl rfl
     exact ⟨F_5, false, rfl, hK, hS, hM⟩
   ·
    replace hM := hM.2 (of_decide_eq_false c_3)
    refine HO.past (past_by rfl rfl c_3) rfl ?_
    refine HO.past (past_by rfl rfl c_3) rfl ?_
    refine HO.past (past_by rfl rfl c_3) rfl ?_
    refine HO.past (past_by rfl rfl c_3) rfl ?_
    refine HO.past (past_by rfl rfl c_3) rfl ?_
    refine HO.past (past_by rfl rfl c_3) rfl ?_
    refine HO.past (past_by rfl rfl c_3) rfl ?_
    refine HO.past (past_by rfl rfl c_3) rfl ?_
    refine oV (.bool false) (q_pickK false rfl c_3 rfl) rfl ?_
    refine oM (.bool false) rfl rfl ?_
    refine HO.past (past_some rfl rfl) rfl ?_
    refine HO.past (past_some rfl rfl) rfl ?_
    refine HO.past (past_some rfl rfl) rfl ?_
    refine oV (.bool false) (q_pick rfl rfl) rfl ?_
    refine oM (.bool false) rfl rfl ?_
    refine HO.past (past_some rfl rfl) rfl ?_
    refine HO.past (past_some rfl rfl) rfl ?_
    refine HO.past (past_some rfl rfl) rfl ?_
    refine HO.past (past_some rfl rfl) rfl ?_
    refine HO.past (past_some rfl rfl) rfl ?_
    refine HO.past (past_some rfl rfl) rfl ?_
    refine oV (.bool false) (q_pick rfl rfl) rfl ?_
    refine oM (.bool false) rfl rfl ?_
    refine HO.past (past_some rfl rfl) rfl ?_
    refine HO.past (past_some rfl rfl) rfl ?_
    refine HO.past (past_some rfl rfl) rfl ?_
    refine HO.past (past_some rfl rfl) rfl ?_
    refine HO.past (past_some rfl rfl) rfl ?_
    refine HO.past (past_some rfl rfl) rfl ?_
    refine HO.past (past_some rfl rfl) rfl ?_
    refine HO.past (past_some rfl rfl) rfl ?_
    refine oV (.bool false) (q_pick rfl rfl) rfl ?_
    refine oA (.bool false) rfl rfl ?_
    refine HO.nil (thenQ_normal (?_))
    refine HW.ret (?_)
    refine ⟨.inr rfl, .bool false, res1 rfl (rt rfl), ?_⟩
    replace hS : St F_5 (fr) h_5 := hS.perm2 [] 4 rfl rfl
    exact ⟨F_5, false, rfl, hK, hS, hM⟩
  ·
   replace hM := hM.2 (of_decide_eq_false c_2)
   refine HO.past (past_by rfl rfl c_2) rfl ?_
   refine HO.past (past_by rfl rfl c_2) rfl ?_
   refine HO.past (past_by rfl rfl c_2) rfl ?_
   refine HO.past (past_by rfl rfl c_2) rfl ?_
   refine HO.past (past_by rfl rfl c_2) rfl ?_
   refine HO.past (past_by rfl rfl c_2) rfl ?_
   refine oV (.bool false) (q_pickK false rfl c_2 rfl) rfl ?_
   refine oM (.bool false) rfl rfl ?_
   refine HO.past (past_some rfl rfl) rfl ?_
   refine HO.past (past_some rfl rfl) rfl ?_
   refine HO.past (past_some rfl rfl) rfl ?_
   refine HO.past (past_some rfl rfl) rfl ?_
   refine HO.past (past_some rfl rfl) rfl ?_
   refine HO.past (past_some rfl rfl) rfl ?_
   refine HO.past (past_some rfl rfl) rfl ?_
   refine HO.past (past_some rfl rfl) rfl ?_
   refine oV (.bool false) (q_pick rfl rfl) rfl ?_
   refine oM (.bool false) rfl rfl ?_
   refine HO.past (past_some rfl rfl) rfl ?_
   refine HO.past (past_some rfl rfl) rfl ?_
   refine HO.past (past_some rfl rfl) rfl ?_
   refine oV (.bool false) (q_pick rfl rfl) rfl ?_
   refine oM (.bool false) rfl rfl ?_
   refine HO.past (past_some rfl rfl) rfl ?_
   refine HO.past (past_some rfl rfl) rfl ?_
   refine HO.past (past_some rfl rfl) rfl ?_
   refine HO.past (past_some rfl rfl) rfl ?_
   refine HO.past (past_some rfl rfl) rfl ?_
   refine HO.past (past_some rfl rfl) rfl ?_
   refine oV (.bool false) (q_pick rfl rfl) rfl ?_
   refine oM (.bool false) rfl rfl ?_
   refine HO.past (past_some rfl rfl) rfl ?_
   refine HO.past (past_some rfl rfl) rfl ?_
   refine HO.past (past_some rfl rfl) rfl ?_
   refine HO.past (past_some rfl rfl) rfl ?_
   refine HO.past (past_some rfl rfl) rfl ?_
   refine HO.past (past_some rfl rfl) rfl ?_
   refine HO.past (past_some rfl rfl) rfl ?_
   refine HO.past (past_some rfl rfl) rfl ?_
   refine oV (.bool false) (q_pick rfl rfl) rfl ?_
   refine oA (.bool false) rfl rfl ?_
   refine HO.nil (thenQ_normal (?_))
   refine HW.ret (?_)
   refine ⟨.inr rfl, .bool false, res1 rfl (rt rfl), ?_⟩
   replace hS : St F_5 (fr) h_5 := hS.perm2 [] 4 rfl rfl
   exact ⟨F_5, false, rfl, hK, hS, hM⟩
 ·
  replace hM := hM.2 (of_decide_eq_false c_1)
  refine HO.past (past_by rfl rfl c_1) rfl ?_
  refine HO.past (past_by rfl rfl c_1) rfl ?_
  refine HO.past (past_by rfl rfl c_1) rfl ?_
  refine oV (.bool false) (q_pickK false rfl c_1 rfl) rfl ?_
  refine oM (.bool false) rfl rfl ?_
  refine HO.past (past_some rfl rfl) rfl ?_
  refine HO.past (past_some rfl rfl) rfl ?_
  refine HO.past (past_some rfl rfl) rfl ?_
  refine HO.past (past_some rfl rfl) rfl ?_
  refine HO.past (past_some rfl rfl) rfl ?_
  refine HO.past (past_some rfl rfl) rfl ?_
  refine oV (.bool false) (q_pick rfl rfl) rfl ?_
  refine oM (.bool false) rfl rfl ?_
  refine HO.past (past_some rfl rfl) rfl ?_
  refine HO.past (past_some rfl rfl) rfl ?_
  refine HO.past (past_some rfl rfl) rfl ?_
  refine HO.past (past_some rfl rfl) rfl ?_
  refine HO.past (past_some rfl rfl) rfl ?_
  refine HO.past (past_some rfl rfl) rfl ?_
  refine HO.past (past_some rfl rfl) rfl ?_
  refine HO.past (past_some rfl rfl) rfl ?_
  refine oV (.bool false) (q_pick rfl rfl) rfl ?_
  refine oM (.bool false) rfl rfl ?_
  refine HO.past (past_some rfl rfl) rfl ?_
  refine HO.past (past_some rfl rfl) rfl ?_
  refine HO.past (past_some rfl rfl) rfl ?_
  refine oV (.bool false) (q_pick rfl rfl) rfl ?_
  refine oM (.bool false) rfl rfl ?_
  refine HO.past (past_some rfl rfl) rfl ?_
  refine HO.past (past_some rfl rfl) rfl ?_
  refine HO.past (past_some rfl rfl) rfl ?_
  refine HO.past (past_some rfl rfl) rfl ?_
  refine HO.past (past_some rfl rfl) rfl ?_
  refine HO.past (past_some rfl rfl) rfl ?_
  refine oV (.bool false) (q_pick rfl rfl) rfl ?_
  refine oM (.bool false) rfl rfl ?_
  refine HO.past (past_some rfl rfl) rfl ?_
  refine HO.past (past_some rfl rfl) rfl ?_
  refine HO.past (past_some rfl rfl) rfl ?_
  refine HO.past (past_some rfl rfl) rfl ?_
  refine HO.past (past_some rfl rfl) rfl ?_
  refine HO.past (past_some rfl rfl) rfl ?_
  refine HO.past (past_some rfl rfl) rfl ?_
  refine HO.past (past_some rfl rfl) rfl ?_
  refine oV (.bool false) (q_pick rfl rfl) rfl ?_
  refine oA (.bool false) rfl rfl ?_
  refine HO.nil (thenQ_normal (?_))
  refine HW.ret (?_)
  refine ⟨.inr rfl, .bool false, res1 rfl (rt rfl), ?_⟩
  replace hS : St F_5 (fr) h_5 := hS.perm2 [] 4 rfl rfl
  exact ⟨F_5, false, rfl, hK, hS, hM⟩
def law20_HostFull_l3 (k : Int) (Q : Bool → Prop) (K_2 : (List T_api_Addr) → Int → Prop) (l_2 : List T_api_Addr) (i_2 : Int) : Prop :=
 (i_2 < (55 + (k.tmod 20)) → law20_four_W 10 (IntKind.u8.wrap i_2) (fun r_4 => ((l_2.length + ([r_4] : List T_api_Addr).length) * 17 ≤ 140737488355328) ∧ ((I64 (i_2 + 1)) ∧ (K_2 (l_2 ++ ([r_4] : List T_api_Addr)) (i_2 + 1))))) ∧ (¬ (i_2 < (55 + (k.tmod 20))) → host_New_W false (law20_four_W 239 1 (fun r_6 => host_Host_Set_W false 0 [] 0 0 0 r_6 false l_2 (fun r0_2 r1_2 a0_v6_2 a0_now_2 a0m_2 a0_one_2 a0_two_2 => (((decide (r1_2 = 1)) == (decide (64 < (55 + (k.tmod 20))))) = true → law20_lives_W  (fun r_7 => Q r_7)) ∧ (((decide (r1_2 = 1)) == (decide (64 < (55 + (k.tmod 20))))) = false → Q false)))))
def law20_HostFull_l1 (n : Int) (k : Int) (Q : Bool → Prop) (K_1 : Bool → Int → (List (T_api_Addr × T_api_Filter)) → Int → Int → Int → Prop) (b_2 : Bool) (n_1 : Int) (m_1 : List (T_api_Addr × T_api_Filter)) (n_2 : Int) (n_3 : Int) (i_1 : Int) : Prop :=
 (i_1 < (n.tmod 70) → law20_four_W 239 (IntKind.u8.wrap i_1) (fun r_3 => host_Host_Set_W b_2 n_1 m_1 n_2 n_3 0 r_3 true [] (fun r0_1 r1_1 a0_v6_1 a0_now_1 a0m_1 a0_one_1 a0_two_1 => ((!((decide (r1_1 = 7)) == (decide (64 ≤ i_1)))) = true → Q false) ∧ ((!((decide (r1_1 = 7)) == (decide (64 ≤ i_1)))) = false → (i_1 < 64 → (¬ (r1_1 = 0) → Q false) ∧ (r1_1 = 0 → (I64 (i_1 + 1)) ∧ (K_1 a0_v6_1 a0_now_1 a0m_1 a0_one_1 a0_two_1 (i_1 + 1)))) ∧ (¬ (i_1 < 64) → (I64 (i_1 + 1)) ∧ (K_1 a0_v6_1 a0_now_1 a0m_1 a0_one_1 a0_two_1 (i_1 + 1))))))) ∧ (¬ (i_1 < (n.tmod 70)) → (I64 (k.tmod 20)) ∧ ((I64 (55 + (k.tmod 20))) ∧ (loopW (fun (K_2 : (List T_api_Addr × Int) → Prop) (s : List T_api_Addr × Int) => law20_HostFull_l3 k Q (fun l_2 i_2 => K_2 (l_2, i_2)) s.1 s.2) ([], 0))))
def law20_HostFull_W (n : Int) (k : Int) (Q : Bool → Prop) : Prop :=
 host_New_W false ((I64 (n.tmod 70)) ∧ (loopW (fun (K_1 : (Bool × Int × (List (T_api_Addr × T_api_Filter)) × Int × Int × Int) → Prop) (s : Bool × Int × (List (T_api_Addr × T_api_Filter)) × Int × Int × Int) => law20_HostFull_l1 n k Q (fun b_2 n_1 m_1 n_2 n_3 i_1 => K_1 (b_2, n_1, m_1, n_2, n_3, i_1)) s.1 s.2.1 s.2.2.1 s.2.2.2.1 s.2.2.2.2.1 s.2.2.2.2.2) (false, 0, [], 0, 0, 0)))
theorem law20_HostFull_walk {F : Fz} {fr : List Ow} {h0 : Heap} (n : Int) (k : Int) (hS : St F (fr) h0)  {Q : Bool → Prop} (hM : law20_HostFull_W n k Q) :
  HC Try.prog 3 #[.int .u8 n, .int .u8 k] h0 fun u h' => ∃ (F' : Fz) (r_1 : Bool), u = .bool r_1 ∧ Kp F h0 F' h' ∧ St F' (fr) h' ∧ Q r_1 := by
 unfold law20_HostFull_W at hM
 have hK := Kp.refl F h0
 refine HC.of_HW (n := 78) Try.func3 rfl rfl (Nat.le_of_ble_eq_true rfl) ?_
 refine HW.seq ?_
 refine HW.region ?_
 refine oA (.bool false) rfl rfl ?_
 refine HO.nil (thenQ_normal (?_))
 refine HW.seq ?_
 refine HW.region ?_
 refine HO.call (want_none) rfl (ec en_5 rfl rfl) (host_New_walk (fr := (fr)) false hS hM) ?_
 rintro _ h_1 ⟨F_1, b_1, r_2, rfl, hk, hS, hL_1, hM⟩
 replace hK := hK.trans hk
 refine oM (.int .u8 n) rfl rfl ?_
 refine oV (.int .u8 (n.tmod 70)) (q_rem rfl rfl (by decide)) rfl ?_
 obtain ⟨ho_1, hM⟩ := hM
 refine oV (.int .i64 (n.tmod 70)) (q_convInt Try.underlying5 Try.underlying3 rfl (wrap_i64 ho_1.1 ho_1.2)) rfl ?_
 refine oA (.pointer (some ⟨b_1, 0, none⟩)) rfl rfl ?_
 refine oA (.int .i64 (n.tmod 70)) rfl rfl ?_
 refine HO.nil (thenQ_normal (?_))
 refine HW.seq ?_
 refine HW.seq ?_
 refine HW.region ?_
 refine oA (.int .i64 0) rfl rfl ?_
 refine HO.nil (thenQ_normal (?_))
 refine HW.block ?_
 obtain ⟨I_1, m_2, hI_1, hR_1⟩ := hM
 refine HW.loop (S := Bool × Int × (List (T_api_Addr × T_api_Filter)) × Int × Int × Int) (fun s f h => match s with | (b_2, n_1, m_1, n_2, n_3, i_1) => ∃ (F' : Fz), f 1 = .int .u8 k ∧ f 4 = .bool false ∧ f 5 = .pointer (some ⟨b_1, 0, none⟩) ∧ f 6 = .int .i64 (n.tmod 70) ∧ f 7 = .int .i64 i_1 ∧ Kp F h0 F' h ∧ St F' (Ow.box b_1 52 #[.bool b_2, .int .i64 n_1, .map (some r_2), .int .i64 n_2, .int .i64 n_3] :: Ow.map r_2 (fun (x : T_api_Addr) => .agg (e_api_Addr x).toArray) (fun (x : T_api_Filter) => .agg #[.bool x.1, x.2.1]) m_1 :: fr) h ∧ (NfL nf_api_Filter F' h (([] : List (T_api_Addr × T_api_Filter)).map (·.2))) ∧ (NfL nf_api_Filter F' h (m_1.map (·.2))) ∧ I_1 (b_2, n_1, m_1, n_2, n_3, i_1)) m_2 (false, 0, [], 0, 0, 0) ⟨F_1, rfl, rfl, rfl, rfl, rfl, hK, hS, hL_1, hL_1, hI_1⟩ ?_
 rintro ⟨b_2, n_1, m_1, n_2, n_3, i_1⟩ f_1 h_2 ⟨F_2, e1, e4, e5, e6, e7, hK, hS, hL_1, hN_1, hI0⟩
 obtain ⟨K_1, hKe_1⟩ : ∃ K : Bool → Int → (List (T_api_Addr × T_api_Filter)) → Int → Int → Int → Prop, K = fun b_2' n_1' m_1' n_2' n_3' i_1' => I_1 (b_2', n_1', m_1', n_2', n_3', i_1') ∧ m_2 (b_2', n_1', m_1', n_2', n_3', i_1') < m_2 (b_2, n_1, m_1, n_2, n_3, i_1) := ⟨_, rfl⟩
 have hM : law20_HostFull_l1 n k Q K_1 b_2 n_1 m_1 n_2 n_3 i_1 := by rw [hKe_1]; exact hR_1 (b_2, n_1, m_1, n_2, n_3, i_1) hI0
 unfold law20_HostFull_l1 at hM
 refine HW.fr [(1, .int .u8 k), (4, .bool false), (5, .pointer (some ⟨b_1, 0, none⟩)), (6, .int .i64 (n.tmod 70)), (7, .int .i64 i_1)] ⟨e1, e4, e5, e6, e7, trivial⟩ ?_
 refine HW.seq ?_
 refine HW.seq ?_
 refine HW.region ?_
 refine oM (.int .i64 i_1) rfl rfl ?_
 refine oM (.int .i64 (n.tmod 70)) rfl rfl ?_
 refine oV (.bool (decide (i_1 < (n.tmod 70)))) (q_lss rfl rfl) rfl ?_
 refine HO.nil (thenQ_normal (?_))
 refine HW.cond (decide (i_1 < (n.tmod 70))) rfl (fun c_1 => ?_) (fun c_1 => ?_)
 ·
  replace hM := hM.1 (of_decide_eq_true c_1)
  refine HW.skip (thenQ_normal (?_))
  refine HW.seq ?_
  refine HW.block ?_
  refine HW.seq ?_
  refine HW.region ?_
  refine oM (.pointer (some ⟨b_1, 0, none⟩)) rfl rfl ?_
  refine oM (.int .i64 i_1) rfl rfl ?_
  refine oV (.int .u8 (IntKind.u8.wrap i_1)) (q_convInt (n := i_1) Try.underlying3 Try.underlying5 rfl rfl) rfl ?_
  refine HO.call (want_none) rfl (ec en_7 rfl rfl) (law20_four_walk (fr := (Ow.box b_1 52 #[.bool b_2, .int .i64 n_1, .map (some r_2), .int .i64 n_2, .int .i64 n_3] :: Ow.map r_2 (fun (x : T_api_Addr) => .agg (e_api_Addr x).toArray) (fun (x : T_api_Filter) => .agg #[.bool x.1, x.2.1]) m_1 :: fr)) 239 (IntKind.u8.wrap i_1) hS hM) ?_
  rintro _ h_3 ⟨F_3, r_3, rfl, hk, hS, hM⟩
  replace hK := hK.trans hk
  replace hL_1 := hL_1.kp hk
  replace hN_1 := hN_1.kp hk
  refine oV (.agg #[.bool true, .slice none 0 0]) (q_build tp_34 rfl) rfl ?_
  refine HO.call (want_none) rfl (ec en_6 rfl rfl) (host_Host_Set_walk (fr := (fr)) b_2 n_1 m_1 n_2 n_3 0 r_3 true [] b_1 r_2 (.slice none 0 0) hS hN_1 (SliceF.nil _ _ _ _) hM) ?_
  rintro _ h_4 ⟨F_4, r0_1, r1_1, a0_v6_1, a0_now_1, a0m_1, a0_one_1, a0_two_1, vr0_1, rfl, hk, hS, _, _, hL_2, hL_3, hM⟩
  replace hK := hK.trans hk
  replace hL_1 := hL_1.kp hk
  refine oM (.tuple #[vr0_1, .int .i64 r1_1]) rfl rfl ?_
  refine oV (vr0_1) (q_extract rfl rfl) rfl ?_
  refine oV (.int .i64 r1_1) (q_extract rfl rfl) rfl ?_
  refine oA (vr0_1) rfl rfl ?_
  refine oA (.int .i64 r1_1) rfl rfl ?_
  refine HO.nil (thenQ_normal (?_))
  refine HW.seq ?_
  refine HW.region ?_
  refine oM (.int .i64 r1_1) rfl rfl ?_
  refine oV (.bool (decide (r1_1 = 7))) (q_eql rfl rfl) rfl ?_
  refine oM (.int .i64 i_1) rfl rfl ?_
  refine oV (.bool (decide (64 ≤ i_1))) (q_geq rfl rfl) rfl ?_
  refine oV (.bool (!((decide (r1_1 = 7)) == (decide (64 ≤ i_1))))) (q_neqB Try.underlying4 rfl rfl) rfl ?_
  refine oM (.bool (!((decide (r1_1 = 7)) == (decide (64 ≤ i_1))))) rfl rfl ?_
  rcases Bool.eq_false_or_eq_true (!((decide (r1_1 = 7)) == (decide (64 ≤ i_1)))) with c_2 | c_2
  ·
   replace hM := hM.1 c_2
   refine HO.past (past_by rfl rfl c_2) rfl ?_
   refine HO.past (past_by rfl rfl c_2) rfl ?_
   refine HO.past (past_by rfl rfl c_2) rfl ?_
   refine HO.past (past_undef rfl rfl) rfl ?_
   refine HO.past (past_undef rfl rfl) rfl ?_
   refine HO.past (past_by rfl rfl c_2) rfl ?_
   refine oV (.bool true) (q_pickK true rfl c_2 rfl) rfl ?_
   refine HO.nil (thenQ_normal (?_))
   refine HW.condT rfl ?_
   refine HW.seq ?_
   refine HW.region ?_
   refine oA (.bool false) rfl rfl ?_
   refine HO.nil (thenQ_normal (?_))
   refine HW.ret (blockQ_ret (thenQ_ret (thenQ_ret (blockQ_ret (thenQ_ret (?_))))))
   refine ⟨.inr rfl, .bool false, res1 rfl (rt rfl), ?_⟩
   replace hS : St F_4 (fr) h_4 := hS.perm2 [] 3 rfl rfl
   exact ⟨F_4, false, rfl, hK, hS, hM⟩
  ·
   replace hM := hM.2 c_2
   refine HO.val (v := .int .i64 i_1) (want_by rfl rfl c_2) rfl (q_move rfl) ?_
   refine HO.val (v := .bool (decide (i_1 < 64))) (want_by rfl rfl c_2) rfl (q_lss rfl rfl) ?_
   refine HO.val (v := .bool (decide (i_1 < 64))) (want_by rfl rfl c_2) rfl (q_move rfl) ?_
   rcases Bool.eq_false_or_eq_true (decide (i_1 < 64)) with c_3 | c_3
   ·
    replace hM := hM.1 (of_decide_eq_true c_3)
    refine HO.val (v := .int .i64 r1_1) (want_by rfl rfl c_3) rfl (q_move rfl) ?_
    refine HO.val (v := .bool (!decide (r1_1 = 0))) (want_by rfl rfl c_3) rfl (q_neq rfl rfl) ?_
    refine HO.val (v := .bool (!decide (r1_1 = 0))) (want_by rfl rfl c_2) rfl (q_pickK true rfl c_3 rfl) ?_
    refine oV (.bool (!decide (r1_1 = 0))) (q_pickK false rfl c_2 rfl) rfl ?_
    refine HO.nil (thenQ_normal (?_))
    refine HW.cond (!decide (r1_1 = 0)) rfl (fun c_4 => ?_) (fun c_4 => ?_)
    ·
     replace hM := hM.1 (nd_true c_4)
     refine HW.seq ?_
     refine HW.region ?_
     refine oA (.bool false) rfl rfl ?_
     refine HO.nil (thenQ_normal (?_))
     refine HW.ret (blockQ_ret (thenQ_ret (thenQ_ret (blockQ_ret (thenQ_ret (?_))))))
     refine ⟨.inr rfl, .bool false, res1 rfl (rt rfl), ?_⟩
     replace hS : St F_4 (fr) h_4 := hS.perm2 [] 3 rfl rfl
     exact ⟨F_4, false, rfl, hK, hS, hM⟩
    ·
     replace hM := hM.2 (nd_false c_4)
     refine HW.skip (blockQ_normal (thenQ_normal (?_)))
     refine HW.region ?_
     refine oM (.int .i64 i_1) rfl rfl ?_
     obtain ⟨ho_2, hM⟩ := hM
     refine oV (.int .i64 (i_1 + 1)) (q_addN _ rfl rfl rfl ho_2.1 ho_2.2) rfl ?_
     refine oA (.int .i64 (i_1 + 1)) rfl rfl ?_
     refine HO.nil (thenQ_normal (?_))
     replace hS : St F_4 (Ow.box b_1 52 #[.bool a0_v6_1, .int .i64 a0_now_1, .map (some r_2), .int .i64 a0_one_1, .int .i64 a0_two_1] :: Ow.map r_2 (fun (x : T_api_Addr) => .agg (e_api_Addr x).toArray) (fun (x : T_api_Filter) => .agg #[.bool x.1, x.2.1]) a0m_1 :: fr) h_4 := hS.perm2 [1, 2] 3 rfl rfl
     rw [hKe_1] at hM
     exact ⟨(a0_v6_1, a0_now_1, a0m_1, a0_one_1, a0_two_1, i_1 + 1), ⟨F_4, rfl, rfl, rfl, rfl, rfl, hK, hS, hL_1, hL_3, hM.1⟩, hM.2⟩
   ·
    replace hM := hM.2 (of_decide_eq_false c_3)
    refine HO.past (past_by rfl rfl c_3) rfl ?_
    refine HO.past (past_by rfl rfl c_3) rfl ?_
    refine HO.val (v := .bool false) (want_by rfl rfl c_2) rfl (q_pickK false rfl c_3 rfl) ?_
    refine oV (.bool false) (q_pickK false rfl c_2 rfl) rfl ?_
    refine HO.nil (thenQ_normal (?_))
    refine HW.condF rfl ?_
    refine HW.skip (blockQ_normal (thenQ_normal (?_)))
    refine HW.region ?_
    refine oM (.int .i64 i_1) rfl rfl ?_
    obtain ⟨ho_3, hM⟩ := hM
    refine oV (.int .i64 (i_1 + 1)) (q_addN _ rfl rfl rfl ho_3.1 ho_3.2) rfl ?_
    refine oA (.int .i64 (i_1 + 1)) rfl rfl ?_
    refine HO.nil (thenQ_normal (?_))
    replace hS : St F_4 (Ow.box b_1 52 #[.bool a0_v6_1, .int .i64 a0_now_1, .map (some r_2), .int .i64 a0_one_1, .int .i64 a0_two_1] :: Ow.map r_2 (fun (x : T_api_Addr) => .agg (e_api_Addr x).toArray) (fun (x : T_api_Filter) => .agg #[.bool x.1, x.2.1]) a0m_1 :: fr) h_4 := hS.perm2 [1, 2] 3 rfl rfl
    rw [hKe_1] at hM
    exact ⟨(a0_v6_1, a0_now_1, a0m_1, a0_one_1, a0_two_1, i_1 + 1), ⟨F_4, rfl, rfl, rfl, rfl, rfl, hK, hS, hL_1, hL_3, hM.1⟩, hM.2⟩
 ·
  replace hM := hM.2 (of_decide_eq_false c_1)
  refine HW.exit (thenQ_exit (thenQ_exit (blockQ_exit (thenQ_normal (?_)))))
  refine HW.seq ?_
  refine HW.region ?_
  refine HO.eff (want_none) rfl (st_litEmpty (α := T_api_Addr) e_api_Addr hS tl_32) ?_
  rintro _ h_5 ⟨b_3, rfl, hS, hk⟩
  replace hK := hK.trans hk
  replace hL_1 := hL_1.kp hk
  replace hN_1 := hN_1.kp hk
  refine oM (.int .u8 k) rfl rfl ?_
  refine oV (.int .u8 (k.tmod 20)) (q_rem rfl rfl (by decide)) rfl ?_
  obtain ⟨ho_4, hM⟩ := hM
  refine oV (.int .i64 (k.tmod 20)) (q_convInt Try.underlying5 Try.underlying3 rfl (wrap_i64 ho_4.1 ho_4.2)) rfl ?_
  obtain ⟨ho_5, hM⟩ := hM
  refine oV (.int .i64 (55 + (k.tmod 20))) (q_addN _ rfl rfl rfl ho_5.1 ho_5.2) rfl ?_
  refine oA (.slice (some ⟨b_3, 0, none⟩) 0 0) rfl rfl ?_
  refine oA (.int .i64 (55 + (k.tmod 20))) rfl rfl ?_
  refine HO.nil (thenQ_normal (?_))
  refine HW.seq ?_
  refine HW.seq ?_
  refine HW.region ?_
  refine oA (.int .i64 0) rfl rfl ?_
  refine HO.nil (thenQ_normal (?_))
  refine HW.block ?_
  obtain ⟨I_2, m_3, hI_2, hR_2⟩ := hM
  replace hS : St F_2 (Ow.own 30 17 e_api_Addr (.slice (some ⟨b_3, 0, none⟩) 0 0) ([] : List T_api_Addr) :: fr) h_5 := hS.perm2 [0] 3 rfl rfl
  refine HW.loop (S := List T_api_Addr × Int) (fun s f h => match s with | (l_2, i_2) => ∃ (F' : Fz) (vl_1 : Value), f 4 = .bool false ∧ f 10 = vl_1 ∧ f 11 = .int .i64 (55 + (k.tmod 20)) ∧ f 12 = .int .i64 i_2 ∧ Kp F h0 F' h ∧ St F' (Ow.own 30 17 e_api_Addr vl_1 l_2 :: fr) h ∧ (NfL nf_api_Filter F' h (([] : List (T_api_Addr × T_api_Filter)).map (·.2))) ∧ (NfL nf_api_Filter F' h (m_1.map (·.2))) ∧ I_2 (l_2, i_2)) m_3 ([], 0) ⟨F_2, .slice (some ⟨b_3, 0, none⟩) 0 0, rfl, rfl, rfl, rfl, hK, hS, hL_1, hN_1, hI_2⟩ ?_
  rintro ⟨l_2, i_2⟩ f_2 h_6 ⟨F_5, vl_1, e4, e10, e11, e12, hK, hS, hL_1, hN_1, hI0⟩
  obtain ⟨K_2, hKe_2⟩ : ∃ K : (List T_api_Addr) → Int → Prop, K = fun l_2' i_2' => I_2 (l_2', i_2') ∧ m_3 (l_2', i_2') < m_3 (l_2, i_2) := ⟨_, rfl⟩
  have hM : law20_HostFull_l3 k Q K_2 l_2 i_2 := by rw [hKe_2]; exact hR_2 (l_2, i_2) hI0
  unfold law20_HostFull_l3 at hM
  refine HW.fr [(4, .bool false), (10, vl_1), (11, .int .i64 (55 + (k.tmod 20))), (12, .int .i64 i_2)] ⟨e4, e10, e11, e12, trivial⟩ ?_
  refine HW.seq ?_
  refine HW.seq ?_
  refine HW.region ?_
  refine oM (.int .i64 i_2) rfl rfl ?_
  refine oM (.int .i64 (55 + (k.tmod 20))) rfl rfl ?_
  refine oV (.bool (decide (i_2 < (55 + (k.tmod 20))))) (q_lss rfl rfl) rfl ?_
  refine HO.nil (thenQ_normal (?_))
  refine HW.cond (decide (i_2 < (55 + (k.tmod 20)))) rfl (fun c_5 => ?_) (fun c_5 => ?_)
  ·
   replace hM := hM.1 (of_decide_eq_true c_5)
   refine HW.skip (thenQ_normal (?_))
   refine HW.seq ?_
   refine HW.block ?_
   refine HW.region ?_
   refine oM (vl_1) rfl rfl ?_
   refine oM (.int .i64 i_2) rfl rfl ?_
   refine oV (.int .u8 (IntKind.u8.wrap i_2)) (q_convInt (n := i_2) Try.underlying3 Try.underlying5 rfl rfl) rfl ?_
   refine HO.call (want_none) rfl (ec en_7 rfl rfl) (law20_four_walk (fr := (Ow.own 30 17 e_api_Addr vl_1 l_2 :: fr)) 10 (IntKind.u8.wrap i_2) hS hM) ?_
   rintro _ h_7 ⟨F_6, r_4, rfl, hk, hS, hM⟩
   replace hK := hK.trans hk
   replace hL_1 := hL_1.kp hk
   replace hN_1 := hN_1.kp hk
   refine HO.eff (want_none) rfl (st_lit (enc := e_api_Addr) (cells := #[.bool r_4.1, .int .u8 (b8 r_4.2 0), .int .u8 (b8 r_4.2 1), .int .u8 (b8 r_4.2 2), .int .u8 (b8 r_4.2 3), .int .u8 (b8 r_4.2 4), .int .u8 (b8 r_4.2 5), .int .u8 (b8 r_4.2 6), .int .u8 (b8 r_4.2 7), .int .u8 (b8 r_4.2 8), .int .u8 (b8 r_4.2 9), .int .u8 (b8 r_4.2 10), .int .u8 (b8 r_4.2 11), .int .u8 (b8 r_4.2 12), .int .u8 (b8 r_4.2 13), .int .u8 (b8 r_4.2 14), .int .u8 (b8 r_4.2 15)]) #[.bool false, .int .u8 0, .int .u8 0, .int .u8 0, .int .u8 0, .int .u8 0, .int .u8 0, .int .u8 0, .int .u8 0, .int .u8 0, .int .u8 0, .int .u8 0, .int .u8 0, .int .u8 0, .int .u8 0, .int .u8 0, .int .u8 0] ([r_4] : List T_api_Addr) hS tl_32 (by decide) (by decide) (by kernel_rfl) (by kernel_rfl) rfl (by intro x hx; rfl) rfl) ?_
   rintro _ h_8 ⟨b_4, rfl, hS, hk⟩
   replace hK := hK.trans hk
   replace hL_1 := hL_1.kp hk
   replace hN_1 := hN_1.kp hk
   obtain ⟨ho_6, hM⟩ := hM
   refine HO.eff (want_none) rfl (st_append te_32 hS (i := 1) rfl (hS.own 0 rfl).slice rfl rfl rfl (by intro a _ u hu; simp [e_api_Addr, encI, encN, encB, encT] at hu; rcases hu with rfl | rfl | rfl | rfl | rfl | rfl | rfl | rfl | rfl | rfl | rfl | rfl | rfl | rfl | rfl | rfl | rfl <;> rfl) ho_6 (by omega)) ?_
   rintro v_1 h_9 ⟨hS, hk⟩
   replace hK := hK.trans hk
   replace hL_1 := hL_1.kp hk
   replace hN_1 := hN_1.kp hk
   refine oA (v_1) rfl rfl ?_
   refine HO.nil (blockQ_normal (thenQ_normal (?_)))
   refine HW.region ?_
   refine oM (.int .i64 i_2) rfl rfl ?_
   obtain ⟨ho_7, hM⟩ := hM
   refine oV (.int .i64 (i_2 + 1)) (q_addN _ rfl rfl rfl ho_7.1 ho_7.2) rfl ?_
   refine oA (.int .i64 (i_2 + 1)) rfl rfl ?_
   refine HO.nil (thenQ_normal (?_))
   replace hS : St F_6 (Ow.own 30 17 e_api_Addr v_1 (l_2 ++ ([r_4] : List T_api_Addr)) :: fr) h_9 := hS.perm2 [1] 2 rfl rfl
   rw [hKe_2] at hM
   exact ⟨(l_2 ++ ([r_4] : List T_api_Addr), i_2 + 1), ⟨F_6, v_1, rfl, rfl, rfl, rfl, hK, hS, hL_1, hN_1, hM.1⟩, hM.2⟩
  ·
   replace hM := hM.2 (of_decide_eq_false c_5)
   refine HW.exit (thenQ_exit (thenQ_exit (blockQ_exit (thenQ_normal (?_)))))
   refine HW.seq ?_
   refine HW.region ?_
   refine HO.call (want_none) rfl (ec en_5 rfl rfl) (host_New_walk (fr := (Ow.own 30 17 e_api_Addr vl_1 l_2 :: fr)) false hS hM) ?_
   rintro _ h_10 ⟨F_7, b_5, r_5, rfl, hk, hS, hL_4, hM⟩
   replace hK := hK.trans hk
   replace hL_1 := hL_1.kp hk
   refine HO.call (want_none) rfl (ec en_7 rfl rfl) (law20_four_walk (fr := (Ow.box b_5 52 #[.bool false, .int .i64 0, .map (some r_5), .int .i64 0, .int .i64 0] :: Ow.map r_5 (fun (x : T_api_Addr) => .agg (e_api_Addr x).toArray) (fun (x : T_api_Filter) => .agg #[.bool x.1, x.2.1]) ([] : List (T_api_Addr × T_api_Filter)) :: Ow.own 30 17 e_api_Addr vl_1 l_2 :: fr)) 239 1 hS hM) ?_
   rintro _ h_11 ⟨F_8, r_6, rfl, hk, hS, hM⟩
   replace hK := hK.trans hk
   replace hL_1 := hL_1.kp hk
   refine oM (vl_1) rfl rfl ?_
   refine oV (.agg #[.bool false, vl_1]) (q_build tp_34 (fill_cons (cs' := #[.bool false, vl_1]) (vc := #[vl_1]) rfl (shp (hS.own 2 rfl).slice).cells rfl (Nat.le_of_ble_eq_true rfl) rfl rfl)) rfl ?_
   replace hS : St F_8 (Ow.own 30 17 e_api_Addr vl_1 l_2 :: Ow.box b_5 52 #[.bool false, .int .i64 0, .map (some r_5), .int .i64 0, .int .i64 0] :: Ow.map r_5 (fun (x : T_api_Addr) => .agg (e_api_Addr x).toArray) (fun (x : T_api_Filter) => .agg #[.bool x.1, x.2.1]) ([] : List (T_api_Addr × T_api_Filter)) :: fr) h_11 := hS.perm2 [2, 0, 1] 3 rfl rfl
   obtain ⟨F_9, hS, hk, hL_5⟩ := hS.freezeOwn
   replace hK := hK.trans hk
   replace hL_1 := hL_1.kp hk
   refine HO.call (want_none) rfl (ec en_6 rfl rfl) (host_Host_Set_walk (fr := (fr)) false 0 [] 0 0 0 r_6 false l_2 b_5 r_5 vl_1 hS hL_1 hL_5 hM) ?_
   rintro _ h_12 ⟨F_10, r0_2, r1_2, a0_v6_2, a0_now_2, a0m_2, a0_one_2, a0_two_2, vr0_2, rfl, hk, hS, _, _, hL_6, hL_7, hM⟩
   replace hK := hK.trans hk
   refine oM (.tuple #[vr0_2, .int .i64 r1_2]) rfl rfl ?_
   refine oV (vr0_2) (q_extract rfl rfl) rfl ?_
   refine oV (.int .i64 r1_2) (q_extract rfl rfl) rfl ?_
   refine oA (vr0_2) rfl rfl ?_
   refine oA (.int .i64 r1_2) rfl rfl ?_
   refine HO.nil (thenQ_normal (?_))
   refine HW.seq ?_
   refine HW.region ?_
   refine oM (.int .i64 r1_2) rfl rfl ?_
   refine oV (.bool (decide (r1_2 = 1))) (q_eql rfl rfl) rfl ?_
   refine oM (.int .i64 (55 + (k.tmod 20))) rfl rfl ?_
   refine oV (.bool (decide (64 < (55 + (k.tmod 20))))) (q_gtr rfl rfl) rfl ?_
   refine oV (.bool ((decide (r1_2 = 1)) == (decide (64 < (55 + (k.tmod 20)))))) (q_eqlB Try.underlying4 rfl rfl) rfl ?_
   refine oM (.bool ((decide (r1_2 = 1)) == (decide (64 < (55 + (k.tmod 20)))))) rfl rfl ?_
   rcases Bool.eq_false_or_eq_true ((decide (r1_2 = 1)) == (decide (64 < (55 + (k.tmod 20))))) with c_6 | c_6
   ·
    replace hM := hM.1 c_6
    refine HO.call (want_by rfl rfl c_6) rfl (ec en_8 rfl rfl) (law20_lives_walk (fr := (Ow.own 39 26 e_api_Talk vr0_2 r0_2 :: Ow.box b_5 52 #[.bool a0_v6_2, .int .i64 a0_now_2, .map (some r_5), .int .i64 a0_one_2, .int .i64 a0_two_2] :: Ow.map r_5 (fun (x : T_api_Addr) => .agg (e_api_Addr x).toArray) (fun (x : T_api_Filter) => .agg #[.bool x.1, x.2.1]) a0m_2 :: fr))  hS hM) ?_
    rintro _ h_13 ⟨F_11, r_7, rfl, hk, hS, hM⟩
    replace hK := hK.trans hk
    refine oV (.bool r_7) (q_pickK true rfl c_6 rfl) rfl ?_
    refine oA (.bool r_7) rfl rfl ?_
    refine HO.nil (thenQ_normal (?_))
    refine HW.ret (?_)
    refine ⟨.inr rfl, .bool r_7, res1 rfl (rt rfl), ?_⟩
    replace hS : St F_11 (fr) h_13 := hS.perm2 [] 3 rfl rfl
    exact ⟨F_11, r_7, rfl, hK, hS, hM⟩
   ·
    replace hM := hM.2 c_6
    refine HO.past (past_by rfl rfl c_6) rfl ?_
    refine oV (.bool false) (q_pickK false rfl c_6 rfl) rfl ?_
    refine oA (.bool false) rfl rfl ?_
    refine HO.nil (thenQ_normal (?_))
    refine HW.ret (?_)
    refine ⟨.inr rfl, .bool false, res1 rfl (rt rfl), ?_⟩
    replace hS : St F_10 (fr) h_12 := hS.perm2 [] 3 rfl rfl
    exact ⟨F_10, false, rfl, hK, hS, hM⟩
def law08_Addrs_j1 (l : List T_api_Addr) (Q : (List T_api_Addr) → Prop) (out_1 : List T_api_Addr) (i_1 : Int) (K_1 : (List T_api_Addr) → Int → Prop) (b_2 : Bool) : Prop :=
 (b_2 = true → ((0 : Int) ≤ i_1 ∧ i_1 < (l.length : Int)) ∧ (((out_1.length + ([(gi l i_1)] : List T_api_Addr).length) * 17 ≤ 140737488355328) ∧ ((I64 (i_1 + 1)) ∧ (K_1 (out_1 ++ ([(gi l i_1)] : List T_api_Addr)) (i_1 + 1))))) ∧ (b_2 = false → Q out_1)
def law08_Addrs_l1 (l : List T_api_Addr) (most : Int) (Q : (List T_api_Addr) → Prop) (K_1 : (List T_api_Addr) → Int → Prop) (out_1 : List T_api_Addr) (i_1 : Int) : Prop :=
 (i_1 < (l.length : Int) → law08_Addrs_j1 l Q out_1 i_1 K_1 (decide (i_1 < most))) ∧ (¬ (i_1 < (l.length : Int)) → law08_Addrs_j1 l Q out_1 i_1 K_1 false)
def law08_Addrs_W (l : List T_api_Addr) (most : Int) (Q : (List T_api_Addr) → Prop) : Prop :=
 loopW (fun (K_1 : (List T_api_Addr × Int) → Prop) (s : List T_api_Addr × Int) => law08_Addrs_l1 l most Q (fun out_1 i_1 => K_1 (out_1, i_1)) s.1 s.2) ([], 0)
theorem law08_Addrs_walk {F : Fz} {fr : List Ow} {h0 : Heap} (l : List T_api_Addr) (most : Int) (vl : Value) (hS : St F (fr) h0) (hL_l : SliceF F h0 17 e_api_Addr vl l) {Q : (List T_api_Addr) → Prop} (hM : law08_Addrs_W l most Q) :
  HC Try.prog 33 #[vl, .int .i64 most] h0 fun u h' => ∃ (F' : Fz) (r_1 : List T_api_Addr) (vr_1 : Value), u = vr_1 ∧ Kp F h0 F' h' ∧ St F' (Ow.own 30 17 e_api_Addr vr_1 r_1 :: fr) h' ∧ (SliceF F' h' 17 e_api_Addr vl l) ∧ Q r_1 := by
 unfold law08_Addrs_W at hM
 have hK := Kp.refl F h0
 refine HC.of_HW (n := 27) Try.func33 rfl rfl (Nat.le_of_ble_eq_true rfl) ?_
 refine HW.seq ?_
 refine HW.region ?_
 refine oA (.slice none 0 0) rfl rfl ?_
 refine HO.nil (thenQ_normal (?_))
 refine HW.seq ?_
 refine HW.region ?_
 refine HO.eff (want_none) rfl (st_litEmpty (α := T_api_Addr) e_api_Addr hS tl_32) ?_
 rintro _ h_1 ⟨b_1, rfl, hS, hk⟩
 replace hK := hK.trans hk
 replace hL_l := hL_l.kp hk
 refine oA (.slice (some ⟨b_1, 0, none⟩) 0 0) rfl rfl ?_
 refine HO.nil (thenQ_normal (?_))
 refine HW.seq ?_
 refine HW.seq ?_
 refine HW.region ?_
 refine oA (.int .i64 0) rfl rfl ?_
 refine HO.nil (thenQ_normal (?_))
 refine HW.block ?_
 obtain ⟨I_1, m_1, hI_1, hR_1⟩ := hM
 refine HW.loop (S := List T_api_Addr × Int) (fun s f h => match s with | (out_1, i_1) => ∃ (F' : Fz) (vout_1 : Value), f 0 = vl ∧ f 1 = .int .i64 most ∧ f 4 = .slice none 0 0 ∧ f 5 = vout_1 ∧ f 6 = .int .i64 i_1 ∧ Kp F h0 F' h ∧ St F' (Ow.own 30 17 e_api_Addr vout_1 out_1 :: fr) h ∧ (SliceF F' h 17 e_api_Addr vl l) ∧ I_1 (out_1, i_1)) m_1 ([], 0) ⟨F, .slice (some ⟨b_1, 0, none⟩) 0 0, rfl, rfl, rfl, rfl, rfl, hK, hS, hL_l, hI_1⟩ ?_
 rintro ⟨out_1, i_1⟩ f_1 h_2 ⟨F_1, vout_1, e0, e1, e4, e5, e6, hK, hS, hL_l, hI0⟩
 obtain ⟨K_1, hKe_1⟩ : ∃ K : (List T_api_Addr) → Int → Prop, K = fun out_1' i_1' => I_1 (out_1', i_1') ∧ m_1 (out_1', i_1') < m_1 (out_1, i_1) := ⟨_, rfl⟩
 have hM : law08_Addrs_l1 l most Q K_1 out_1 i_1 := by rw [hKe_1]; exact hR_1 (out_1, i_1) hI0
 unfold law08_Addrs_l1 at hM
 refine HW.fr [(0, vl), (1, .int .i64 most), (4, .slice none 0 0), (5, vout_1), (6, .int .i64 i_1)] ⟨e0, e1, e4, e5, e6, trivial⟩ ?_
 refine HW.seq ?_
 refine HW.seq_mid (fun f h => ∃ (F' : Fz) (b_2 : Bool), f 0 = vl ∧ f 1 = .int .i64 most ∧ f 4 = .slice none 0 0 ∧ f 5 = vout_1 ∧ f 6 = .int .i64 i_1 ∧ f 16 = .bool b_2 ∧ Kp F h0 F' h ∧ St F' (Ow.own 30 17 e_api_Addr vout_1 out_1 :: fr) h ∧ (SliceF F' h 17 e_api_Addr vl l) ∧ law08_Addrs_j1 l Q out_1 i_1 K_1 b_2) ?_ ?_
 ·
  refine HW.region ?_
  refine oM (.int .i64 i_1) rfl rfl ?_
  refine oM (vl) rfl rfl ?_
  refine oV (.int .i64 (l.length : Int)) (q_len ts_32 (shp hL_l.is) rfl rfl) rfl ?_
  refine oV (.bool (decide (i_1 < (l.length : Int)))) (q_lss rfl rfl) rfl ?_
  refine oM (.bool (decide (i_1 < (l.length : Int)))) rfl rfl ?_
  rcases Bool.eq_false_or_eq_true (decide (i_1 < (l.length : Int))) with c_1 | c_1
  ·
   replace hM := hM.1 (of_decide_eq_true c_1)
   refine HO.val (v := .int .i64 i_1) (want_by rfl rfl c_1) rfl (q_move rfl) ?_
   refine HO.val (v := .int .i64 most) (want_by rfl rfl c_1) rfl (q_move rfl) ?_
   refine HO.val (v := .bool (decide (i_1 < most))) (want_by rfl rfl c_1) rfl (q_lss rfl rfl) ?_
   refine oV (.bool (decide (i_1 < most))) (q_pickK true rfl c_1 rfl) rfl ?_
   refine HO.nil (thenQ_normal (?_))
   exact ⟨F_1, decide (i_1 < most), rfl, rfl, rfl, rfl, rfl, rfl, hK, hS, hL_l, hM⟩
  ·
   replace hM := hM.2 (of_decide_eq_false c_1)
   refine HO.past (past_by rfl rfl c_1) rfl ?_
   refine HO.past (past_by rfl rfl c_1) rfl ?_
   refine HO.past (past_by rfl rfl c_1) rfl ?_
   refine oV (.bool false) (q_pickK false rfl c_1 rfl) rfl ?_
   refine HO.nil (thenQ_normal (?_))
   exact ⟨F_1, false, rfl, rfl, rfl, rfl, rfl, rfl, hK, hS, hL_l, hM⟩
 ·
  rintro f_2 h_3 ⟨F_2, b_2, e0, e1, e4, e5, e6, e16, hK, hS, hL_l, hM⟩
  unfold law08_Addrs_j1 at hM
  refine HW.fr [(0, vl), (1, .int .i64 most), (4, .slice none 0 0), (5, vout_1), (6, .int .i64 i_1), (16, .bool b_2)] ⟨e0, e1, e4, e5, e6, e16, trivial⟩ ?_
  refine HW.cond b_2 rfl (fun c_2 => ?_) (fun c_2 => ?_)
  ·
   replace hM := hM.1 c_2
   refine HW.skip (thenQ_normal (?_))
   refine HW.seq ?_
   refine HW.block ?_
   refine HW.region ?_
   refine oM (vout_1) rfl rfl ?_
   refine oM (vl) rfl rfl ?_
   refine oM (.int .i64 i_1) rfl rfl ?_
   obtain ⟨ho_1, hM⟩ := hM
   refine oV (elemPtr 17 vl (i_1).toNat) (q_idx ts_32 hL_l.is rfl rfl ho_1) rfl ?_
   refine oV (.agg (e_api_Addr (gi l i_1)).toArray) (q_ldElemAgg (cs := (e_api_Addr (gi l i_1))) ta_30 hL_l.is rfl ho_1 rfl) rfl ?_
   refine HO.eff (want_none) rfl (st_lit (enc := e_api_Addr) (cells := #[.bool ((gi l i_1).1), .int .u8 (b8 ((gi l i_1).2) 0), .int .u8 (b8 ((gi l i_1).2) 1), .int .u8 (b8 ((gi l i_1).2) 2), .int .u8 (b8 ((gi l i_1).2) 3), .int .u8 (b8 ((gi l i_1).2) 4), .int .u8 (b8 ((gi l i_1).2) 5), .int .u8 (b8 ((gi l i_1).2) 6), .int .u8 (b8 ((gi l i_1).2) 7), .int .u8 (b8 ((gi l i_1).2) 8), .int .u8 (b8 ((gi l i_1).2) 9), .int .u8 (b8 ((gi l i_1).2) 10), .int .u8 (b8 ((gi l i_1).2) 11), .int .u8 (b8 ((gi l i_1).2) 12), .int .u8 (b8 ((gi l i_1).2) 13), .int .u8 (b8 ((gi l i_1).2) 14), .int .u8 (b8 ((gi l i_1).2) 15)]) #[.bool false, .int .u8 0, .int .u8 0, .int .u8 0, .int .u8 0, .int .u8 0, .int .u8 0, .int .u8 0, .int .u8 0, .int .u8 0, .int .u8 0, .int .u8 0, .int .u8 0, .int .u8 0, .int .u8 0, .int .u8 0, .int .u8 0] ([(gi l i_1)] : List T_api_Addr) hS tl_32 (by decide) (by decide) (by kernel_rfl) (by kernel_rfl) rfl (by intro x hx; rfl) rfl) ?_
   rintro _ h_4 ⟨b_3, rfl, hS, hk⟩
   replace hK := hK.trans hk
   replace hL_l := hL_l.kp hk
   obtain ⟨ho_2, hM⟩ := hM
   refine HO.eff (want_none) rfl (st_append te_32 hS (i := 1) rfl (hS.own 0 rfl).slice rfl rfl rfl (by intro a _ u hu; simp [e_api_Addr, encI, encN, encB, encT] at hu; rcases hu with rfl | rfl | rfl | rfl | rfl | rfl | rfl | rfl | rfl | rfl | rfl | rfl | rfl | rfl | rfl | rfl | rfl <;> rfl) ho_2 (by omega)) ?_
   rintro v_1 h_5 ⟨hS, hk⟩
   replace hK := hK.trans hk
   replace hL_l := hL_l.kp hk
   refine oA (v_1) rfl rfl ?_
   refine HO.nil (blockQ_normal (thenQ_normal (?_)))
   refine HW.region ?_
   refine oM (.int .i64 i_1) rfl rfl ?_
   obtain ⟨ho_3, hM⟩ := hM
   refine oV (.int .i64 (i_1 + 1)) (q_addN _ rfl rfl rfl ho_3.1 ho_3.2) rfl ?_
   refine oA (.int .i64 (i_1 + 1)) rfl rfl ?_
   refine HO.nil (thenQ_normal (?_))
   replace hS : St F_2 (Ow.own 30 17 e_api_Addr v_1 (out_1 ++ ([(gi l i_1)] : List T_api_Addr)) :: fr) h_5 := hS.perm2 [1] 2 rfl rfl
   rw [hKe_1] at hM
   exact ⟨(out_1 ++ ([(gi l i_1)] : List T_api_Addr), i_1 + 1), ⟨F_2, v_1, rfl, rfl, rfl, rfl, rfl, hK, hS, hL_l, hM.1⟩, hM.2⟩
  ·
   replace hM := hM.2 c_2
   refine HW.exit (thenQ_exit (thenQ_exit (blockQ_exit (thenQ_normal (?_)))))
   refine HW.seq ?_
   refine HW.region ?_
   refine oM (vout_1) rfl rfl ?_
   refine oA (vout_1) rfl rfl ?_
   refine HO.nil (thenQ_normal (?_))
   refine HW.ret (?_)
   refine ⟨.inr rfl, vout_1, res1 rfl (rt rfl), ?_⟩
   exact ⟨F_2, out_1, vout_1, rfl, hK, hS, hL_l, hM⟩
def law08_Records_j1 (l : List T_api_Record) (Q : (List T_api_Record) → Prop) (out_1 : List T_api_Record) (i_1 : Int) (K_1 : (List T_api_Record) → Int → Prop) (b_2 : Bool) : Prop :=
 (b_2 = true → ((0 : Int) ≤ i_1 ∧ i_1 < (l.length : Int)) ∧ (law08_Addrs_W (((gi l i_1).2.2).2) 6 (fun r_2 => ∀ vr_2 : Value, (((out_1.length + ([((gi l i_1).1, ((gi l i_1).2.1), (vr_2, r_2))] : List T_api_Record).length) * 56 ≤ 140737488355328) ∧ ((I64 (i_1 + 1)) ∧ (K_1 (out_1 ++ ([((gi l i_1).1, ((gi l i_1).2.1), (vr_2, r_2))] : List T_api_Record)) (i_1 + 1))))))) ∧ (b_2 = false → Q out_1)
def law08_Records_l1 (l : List T_api_Record) (most : Int) (Q : (List T_api_Record) → Prop) (K_1 : (List T_api_Record) → Int → Prop) (out_1 : List T_api_Record) (i_1 : Int) : Prop :=
 (i_1 < (l.length : Int) → law08_Records_j1 l Q out_1 i_1 K_1 (decide (i_1 < most))) ∧ (¬ (i_1 < (l.length : Int)) → law08_Records_j1 l Q out_1 i_1 K_1 false)
def law08_Records_W (l : List T_api_Record) (most : Int) (Q : (List T_api_Record) → Prop) : Prop :=
 loopW (fun (K_1 : (List T_api_Record × Int) → Prop) (s : List T_api_Record × Int) => law08_Records_l1 l most Q (fun out_1 i_1 => K_1 (out_1, i_1)) s.1 s.2) ([], 0)
theorem law08_Records_walk {F : Fz} {fr : List Ow} {h0 : Heap} (l : List T_api_Record) (most : Int) (vl : Value) (hS : St F (fr) h0) (hN_l : NfL nf_api_Record F h0 l) (hL_l : SliceF F h0 19 e_api_Record vl l) {Q : (List T_api_Record) → Prop} (hM : law08_Records_W l most Q) :
  HC Try.prog 34 #[vl, .int .i64 most] h0 fun u h' => ∃ (F' : Fz) (r_1 : List T_api_Record) (vr_1 : Value), u = vr_1 ∧ Kp F h0 F' h' ∧ St F' (Ow.own 60 19 e_api_Record vr_1 r_1 :: fr) h' ∧ (NfL nf_api_Record F' h' l) ∧ (SliceF F' h' 19 e_api_Record vl l) ∧ (NfL nf_api_Record F' h' r_1) ∧ Q r_1 := by
 unfold law08_Records_W at hM
 have hK := Kp.refl F h0
 refine HC.of_HW (n := 40) Try.func34 rfl rfl (Nat.le_of_ble_eq_true rfl) ?_
 refine HW.seq ?_
 refine HW.region ?_
 refine oA (.slice none 0 0) rfl rfl ?_
 refine HO.nil (thenQ_normal (?_))
 refine HW.seq ?_
 refine HW.region ?_
 refine HO.eff (want_none) rfl (st_litEmpty (α := T_api_Record) e_api_Record hS tl_37) ?_
 rintro _ h_1 ⟨b_1, rfl, hS, hk⟩
 replace hK := hK.trans hk
 replace hN_l := hN_l.kp hk
 replace hL_l := hL_l.kp hk
 have hN_2 : NfL nf_api_Record F h_1 ([] : List T_api_Record) := NfL.nil _ _ _
 refine oA (.slice (some ⟨b_1, 0, none⟩) 0 0) rfl rfl ?_
 refine HO.nil (thenQ_normal (?_))
 refine HW.seq ?_
 refine HW.seq ?_
 refine HW.region ?_
 refine oA (.int .i64 0) rfl rfl ?_
 refine HO.nil (thenQ_normal (?_))
 refine HW.block ?_
 obtain ⟨I_1, m_1, hI_1, hR_1⟩ := hM
 refine HW.loop (S := List T_api_Record × Int) (fun s f h => match s with | (out_1, i_1) => ∃ (F' : Fz) (vout_1 : Value), f 0 = vl ∧ f 1 = .int .i64 most ∧ f 4 = .slice none 0 0 ∧ f 5 = vout_1 ∧ f 6 = .int .i64 i_1 ∧ Kp F h0 F' h ∧ St F' (Ow.own 60 19 e_api_Record vout_1 out_1 :: fr) h ∧ (NfL nf_api_Record F' h l) ∧ (SliceF F' h 19 e_api_Record vl l) ∧ (NfL nf_api_Record F' h ([] : List T_api_Record)) ∧ (NfL nf_api_Record F' h out_1) ∧ I_1 (out_1, i_1)) m_1 ([], 0) ⟨F, .slice (some ⟨b_1, 0, none⟩) 0 0, rfl, rfl, rfl, rfl, rfl, hK, hS, hN_l, hL_l, hN_2, hN_2, hI_1⟩ ?_
 rintro ⟨out_1, i_1⟩ f_1 h_2 ⟨F_1, vout_1, e0, e1, e4, e5, e6, hK, hS, hN_l, hL_l, hN_2, hN_3, hI0⟩
 obtain ⟨K_1, hKe_1⟩ : ∃ K : (List T_api_Record) → Int → Prop, K = fun out_1' i_1' => I_1 (out_1', i_1') ∧ m_1 (out_1', i_1') < m_1 (out_1, i_1) := ⟨_, rfl⟩
 have hM : law08_Records_l1 l most Q K_1 out_1 i_1 := by rw [hKe_1]; exact hR_1 (out_1, i_1) hI0
 unfold law08_Records_l1 at hM
 refine HW.fr [(0, vl), (1, .int .i64 most), (4, .slice none 0 0), (5, vout_1), (6, .int .i64 i_1)] ⟨e0, e1, e4, e5, e6, trivial⟩ ?_
 refine HW.seq ?_
 refine HW.seq_mid (fun f h => ∃ (F' : Fz) (b_2 : Bool), f 0 = vl ∧ f 1 = .int .i64 most ∧ f 4 = .slice none 0 0 ∧ f 5 = vout_1 ∧ f 6 = .int .i64 i_1 ∧ f 16 = .bool b_2 ∧ Kp F h0 F' h ∧ St F' (Ow.own 60 19 e_api_Record vout_1 out_1 :: fr) h ∧ (NfL nf_api_Record F' h l) ∧ (SliceF F' h 19 e_api_Record vl l) ∧ (NfL nf_api_Record F' h ([] : List T_api_Record)) ∧ (NfL nf_api_Record F' h out_1) ∧ law08_Records_j1 l Q out_1 i_1 K_1 b_2) ?_ ?_
 ·
  refine HW.region ?_
  refine oM (.int .i64 i_1) rfl rfl ?_
  refine oM (vl) rfl rfl ?_
  refine oV (.int .i64 (l.length : Int)) (q_len ts_37 (shp hL_l.is) rfl rfl) rfl ?_
  refine oV (.bool (decide (i_1 < (l.length : Int)))) (q_lss rfl rfl) rfl ?_
  refine oM (.bool (decide (i_1 < (l.length : Int)))) rfl rfl ?_
  rcases Bool.eq_false_or_eq_true (decide (i_1 < (l.length : Int))) with c_1 | c_1
  ·
   replace hM := hM.1 (of_decide_eq_true c_1)
   refine HO.val (v := .int .i64 i_1) (want_by rfl rfl c_1) rfl (q_move rfl) ?_
   refine HO.val (v := .int .i64 most) (want_by rfl rfl c_1) rfl (q_move rfl) ?_
   refine HO.val (v := .bool (decide (i_1 < most))) (want_by rfl rfl c_1) rfl (q_lss rfl rfl) ?_
   refine oV (.bool (decide (i_1 < most))) (q_pickK true rfl c_1 rfl) rfl ?_
   refine HO.nil (thenQ_normal (?_))
   exact ⟨F_1, decide (i_1 < most), rfl, rfl, rfl, rfl, rfl, rfl, hK, hS, hN_l, hL_l, hN_2, hN_3, hM⟩
  ·
   replace hM := hM.2 (of_decide_eq_false c_1)
   refine HO.past (past_by rfl rfl c_1) rfl ?_
   refine HO.past (past_by rfl rfl c_1) rfl ?_
   refine HO.past (past_by rfl rfl c_1) rfl ?_
   refine oV (.bool false) (q_pickK false rfl c_1 rfl) rfl ?_
   refine HO.nil (thenQ_normal (?_))
   exact ⟨F_1, false, rfl, rfl, rfl, rfl, rfl, rfl, hK, hS, hN_l, hL_l, hN_2, hN_3, hM⟩
 ·
  rintro f_2 h_3 ⟨F_2, b_2, e0, e1, e4, e5, e6, e16, hK, hS, hN_l, hL_l, hN_2, hN_3, hM⟩
  unfold law08_Records_j1 at hM
  refine HW.fr [(0, vl), (1, .int .i64 most), (4, .slice none 0 0), (5, vout_1), (6, .int .i64 i_1), (16, .bool b_2)] ⟨e0, e1, e4, e5, e6, e16, trivial⟩ ?_
  refine HW.cond b_2 rfl (fun c_2 => ?_) (fun c_2 => ?_)
  ·
   replace hM := hM.1 c_2
   refine HW.skip (thenQ_normal (?_))
   refine HW.seq ?_
   refine HW.block ?_
   refine HW.regionA 21 mixed (fun h => (SliceIs h 19 e_api_Record vl l)) [] (by kernel_rfl) ?_
   refine HA.val (k := 0) (v := vout_1) rfl rfl (by kernel_rfl) (by kernel_rfl) (want_none) rfl (fun _ hL_l => q_move rfl) ?_
   refine HA.val (k := 1) (v := vl) rfl rfl (by kernel_rfl) (by kernel_rfl) (want_none) rfl (fun _ hL_l => q_move rfl) ?_
   refine HA.val (k := 2) (v := .int .i64 i_1) rfl rfl (by kernel_rfl) (by kernel_rfl) (want_none) rfl (fun _ hL_l => q_move rfl) ?_
   obtain ⟨ho_1, hM⟩ := hM
   refine HA.val (k := 3) (v := elemPtr 19 vl (i_1).toNat) rfl rfl (by kernel_rfl) (by kernel_rfl) (want_none) rfl (fun _ hL_l => q_idx ts_37 hL_l rfl rfl ho_1) ?_
   refine HA.val (k := 4) (v := fieldPtr 19 vl (i_1).toNat 0) rfl rfl (by kernel_rfl) (by kernel_rfl) (want_none) rfl (fun _ hL_l => q_fldElem fa_60_0 hL_l rfl ho_1) ?_
   refine HA.val (k := 5) (v := .int .i64 ((gi l i_1).1)) rfl rfl (by kernel_rfl) (by kernel_rfl) (want_none) rfl (fun _ hL_l => q_ldField to_3 hL_l rfl ho_1 (by decide) rfl) ?_
   refine HA.val (k := 6) (v := vl) rfl rfl (by kernel_rfl) (by kernel_rfl) (want_none) rfl (fun _ hL_l => q_move rfl) ?_
   refine HA.val (k := 7) (v := .int .i64 i_1) rfl rfl (by kernel_rfl) (by kernel_rfl) (want_none) rfl (fun _ hL_l => q_move rfl) ?_
   refine HA.val (k := 8) (v := elemPtr 19 vl (i_1).toNat) rfl rfl (by kernel_rfl) (by kernel_rfl) (want_none) rfl (fun _ hL_l => q_idx ts_37 hL_l rfl rfl ho_1) ?_
   refine HA.val (k := 9) (v := fieldPtr 19 vl (i_1).toNat 1) rfl rfl (by kernel_rfl) (by kernel_rfl) (want_none) rfl (fun _ hL_l => q_fldElem fa_60_1 hL_l rfl ho_1) ?_
   refine HA.val (k := 10) (v := .agg (e_api_Addr ((gi l i_1).2.1)).toArray) rfl rfl (by kernel_rfl) (by kernel_rfl) (want_none) rfl (fun _ hL_l => q_ldFieldAgg (n := 17) (cs := (e_api_Addr ((gi l i_1).2.1))) ta_30 hL_l rfl ho_1 (by decide) rfl) ?_
   refine HA.val (k := 11) (v := vl) rfl rfl (by kernel_rfl) (by kernel_rfl) (want_none) rfl (fun _ hL_l => q_move rfl) ?_
   refine HA.val (k := 12) (v := .int .i64 i_1) rfl rfl (by kernel_rfl) (by kernel_rfl) (want_none) rfl (fun _ hL_l => q_move rfl) ?_
   refine HA.val (k := 13) (v := elemPtr 19 vl (i_1).toNat) rfl rfl (by kernel_rfl) (by kernel_rfl) (want_none) rfl (fun _ hL_l => q_idx ts_37 hL_l rfl rfl ho_1) ?_
   refine HA.val (k := 14) (v := fieldPtr 19 vl (i_1).toNat 18) rfl rfl (by kernel_rfl) (by kernel_rfl) (want_none) rfl (fun _ hL_l => q_fldElem fa_60_2 hL_l rfl ho_1) ?_
   refine HA.val (k := 15) (v := ((gi l i_1).2.2).1) rfl rfl (by kernel_rfl) (by kernel_rfl) (want_none) rfl (fun _ hL_l => q_ldField to_32 hL_l rfl ho_1 (by decide) rfl) ?_
   refine HA.one (k := 16) ⟨hL_l.is, (Go.Wk.at_nil _ _)⟩ (by kernel_rfl) ?_
   refine HS.call rfl (want_none) rfl (ec en_33 rfl rfl) (law08_Addrs_walk (fr := (Ow.own 60 19 e_api_Record vout_1 out_1 :: fr)) (((gi l i_1).2.2).2) 6 (((gi l i_1).2.2).1) hS (nff_api_Record_18 (NfL.at hN_l ho_1)) hM) ?_
   rintro vr_2 h_4 ⟨F_3, r_2, _, rfl, hk, hS, _, hM⟩
   replace hK := hK.trans hk
   replace hN_l := hN_l.kp hk
   replace hL_l := hL_l.kp hk
   replace hN_2 := hN_2.kp hk
   replace hN_3 := hN_3.kp hk
   refine Go.Wk.HA.re (fun h => (SliceIs h 19 e_api_Record vl l)) [(18, fun h => (OwnIs h 0 30 17 e_api_Addr vr_2 r_2))] (fun L_ h_ hL_ hL_l hs_ => ⟨hL_l, (Go.Wk.at_nil _ _)⟩) ?_
   refine Go.Wk.HA.valN (k := 17) (v := .agg (c_api_Record (.int .i64 ((gi l i_1).1)) ((gi l i_1).2.1) vr_2).toArray) 0 18 (fun h => (OwnIs h 0 30 17 e_api_Addr vr_2 r_2)) rfl rfl (by kernel_rfl) (by kernel_rfl) (want_none) rfl rfl (by kernel_rfl) (fun _ hL_l c401 => q_build tp_60 (fill_cons (cs' := (c_api_Record (.int .i64 ((gi l i_1).1)) (false, (default : Ba 16)) (.slice none 0 0)).toArray) (vc := #[.int .i64 ((gi l i_1).1)]) rfl rfl rfl (Nat.le_of_ble_eq_true rfl) rfl (fill_cons (cs' := (c_api_Record (.int .i64 ((gi l i_1).1)) ((gi l i_1).2.1) (.slice none 0 0)).toArray) (vc := (e_api_Addr ((gi l i_1).2.1)).toArray) rfl rfl rfl (Nat.le_of_ble_eq_true rfl) rfl (fill_cons (cs' := (c_api_Record (.int .i64 ((gi l i_1).1)) ((gi l i_1).2.1) vr_2).toArray) (vc := #[vr_2]) rfl (shp c401.slice).cells rfl (Nat.le_of_ble_eq_true rfl) rfl rfl)))) ?_
   refine HA.one (k := 18) ⟨hL_l.is, (at_now (hS.own 0 rfl) (Go.Wk.at_nil _ _))⟩ (by kernel_rfl) ?_
   obtain ⟨F_4, hS, hk, hL_1⟩ := hS.freezeOwn
   replace hK := hK.trans hk
   replace hN_l := hN_l.kp hk
   replace hL_l := hL_l.kp hk
   replace hN_2 := hN_2.kp hk
   replace hN_3 := hN_3.kp hk
   replace hM := hM vr_2
   refine HS.eff rfl (want_none) rfl (st_lit (enc := e_api_Record) (cells := #[.int .i64 ((gi l i_1).1), .bool (((gi l i_1).2.1).1), .int .u8 (b8 (((gi l i_1).2.1).2) 0), .int .u8 (b8 (((gi l i_1).2.1).2) 1), .int .u8 (b8 (((gi l i_1).2.1).2) 2), .int .u8 (b8 (((gi l i_1).2.1).2) 3), .int .u8 (b8 (((gi l i_1).2.1).2) 4), .int .u8 (b8 (((gi l i_1).2.1).2) 5), .int .u8 (b8 (((gi l i_1).2.1).2) 6), .int .u8 (b8 (((gi l i_1).2.1).2) 7), .int .u8 (b8 (((gi l i_1).2.1).2) 8), .int .u8 (b8 (((gi l i_1).2.1).2) 9), .int .u8 (b8 (((gi l i_1).2.1).2) 10), .int .u8 (b8 (((gi l i_1).2.1).2) 11), .int .u8 (b8 (((gi l i_1).2.1).2) 12), .int .u8 (b8 (((gi l i_1).2.1).2) 13), .int .u8 (b8 (((gi l i_1).2.1).2) 14), .int .u8 (b8 (((gi l i_1).2.1).2) 15), vr_2]) #[.int .i64 0, .bool false, .int .u8 0, .int .u8 0, .int .u8 0, .int .u8 0, .int .u8 0, .int .u8 0, .int .u8 0, .int .u8 0, .int .u8 0, .int .u8 0, .int .u8 0, .int .u8 0, .int .u8 0, .int .u8 0, .int .u8 0, .int .u8 0, .slice none 0 0] ([((gi l i_1).1, ((gi l i_1).2.1), (vr_2, r_2))] : List T_api_Record) hS tl_37 (by decide) (by decide) (by kernel_rfl) (by kernel_rfl) rfl (by intro x hx; rfl) rfl) ?_
   rintro _ h_5 ⟨b_3, rfl, hS, hk⟩
   replace hK := hK.trans hk
   replace hN_l := hN_l.kp hk
   replace hL_l := hL_l.kp hk
   replace hN_2 := hN_2.kp hk
   replace hN_3 := hN_3.kp hk
   replace hL_1 := hL_1.kp hk
   have hN_4 : NfL nf_api_Record F_4 h_5 ([((gi l i_1).1, ((gi l i_1).2.1), (vr_2, r_2))] : List T_api_Record) := (NfL.cons (nfm_api_Record ((gi l i_1).1, ((gi l i_1).2.1), (vr_2, r_2)) hL_1) (NfL.nil _ _ _))
   refine HA.one (k := 19) ⟨hL_l.is, (at_done (by kernel_rfl) (Go.Wk.at_nil _ _))⟩ (by kernel_rfl) ?_
   obtain ⟨ho_2, hM⟩ := hM
   refine HS.eff rfl (want_none) rfl (st_append te_37 hS (i := 1) rfl (hS.own 0 rfl).slice rfl rfl rfl (fun a_ ha_ => nfo_api_Record (hN_4.is.all a_ ha_)) ho_2 (by omega)) ?_
   rintro v_1 h_6 ⟨hS, hk⟩
   replace hK := hK.trans hk
   replace hN_l := hN_l.kp hk
   replace hL_l := hL_l.kp hk
   replace hN_2 := hN_2.kp hk
   replace hN_3 := hN_3.kp hk
   replace hN_4 := hN_4.kp hk
   have hN_5 : NfL nf_api_Record F_4 h_6 (out_1 ++ ([((gi l i_1).1, ((gi l i_1).2.1), (vr_2, r_2))] : List T_api_Record)) := NfL.app hN_3 hN_4
   refine HA.val (k := 20) (v := v_1) rfl rfl (by kernel_rfl) (by kernel_rfl) (want_none) rfl (fun _ hL_l => q_assign rfl) ?_
   refine HA.nil ⟨hL_l.is, (at_done (by kernel_rfl) (Go.Wk.at_nil _ _))⟩ (by kernel_rfl) (blockQ_normal (thenQ_normal (?_)))
   refine HW.region ?_
   refine oM (.int .i64 i_1) rfl rfl ?_
   obtain ⟨ho_3, hM⟩ := hM
   refine oV (.int .i64 (i_1 + 1)) (q_addN _ rfl rfl rfl ho_3.1 ho_3.2) rfl ?_
   refine oA (.int .i64 (i_1 + 1)) rfl rfl ?_
   refine HO.nil (thenQ_normal (?_))
   replace hS : St F_4 (Ow.own 60 19 e_api_Record v_1 (out_1 ++ ([((gi l i_1).1, ((gi l i_1).2.1), (vr_2, r_2))] : List T_api_Record)) :: fr) h_6 := hS.perm2 [1] 2 rfl rfl
   rw [hKe_1] at hM
   exact ⟨(out_1 ++ ([((gi l i_1).1, ((gi l i_1).2.1), (vr_2, r_2))] : List T_api_Record), i_1 + 1), ⟨F_4, v_1, rfl, rfl, rfl, rfl, rfl, hK, hS, hN_l, hL_l, hN_2, hN_5, hM.1⟩, hM.2⟩
  ·
   replace hM := hM.2 c_2
   refine HW.exit (thenQ_exit (thenQ_exit (blockQ_exit (thenQ_normal (?_)))))
   refine HW.seq ?_
   refine HW.region ?_
   refine oM (vout_1) rfl rfl ?_
   refine oA (vout_1) rfl rfl ?_
   refine HO.nil (thenQ_normal (?_))
   refine HW.ret (?_)
   refine ⟨.inr rfl, vout_1, res1 rfl (rt rfl), ?_⟩
   exact ⟨F_2, out_1, vout_1, rfl, hK, hS, hN_l, hL_l, hN_3, hM⟩
def law08_Few_W (t_V6 : Bool) (t_Version : Int) (t_Kind : Int) (t_Resp : Int) (t_Group : T_api_Addr) (t_Quiet : Bool) (t_Robust : Int) (t_Every : Int) (t_Sources : List T_api_Addr) (t_Records : List T_api_Record) (Q : Bool → Int → Int → Int → Bool → (Ba 16) → Bool → Int → Int → (List T_api_Addr) → (List T_api_Record) → Prop) : Prop :=
 law08_Addrs_W t_Sources 6 (fun r_1 => law08_Records_W t_Records 6 (fun r_2 => Q t_V6 t_Version t_Kind t_Resp t_Group.1 t_Group.2 t_Quiet t_Robust t_Every r_1 r_2))
theorem law08_Few_walk {F : Fz} {fr : List Ow} {h0 : Heap} (t_V6 : Bool) (t_Version : Int) (t_Kind : Int) (t_Resp : Int) (t_Group : T_api_Addr) (t_Quiet : Bool) (t_Robust : Int) (t_Every : Int) (t_Sources : List T_api_Addr) (t_Records : List T_api_Record) (vt_Sources : Value) (vt_Records : Value) (hS : St F (fr) h0) (hL_t_Sources : SliceF F h0 17 e_api_Addr vt_Sources t_Sources) (hN_t_Records : NfL nf_api_Record F h0 t_Records) (hL_t_Records : SliceF F h0 19 e_api_Record vt_Records t_Records) {Q : Bool → Int → Int → Int → Bool → (Ba 16) → Bool → Int → Int → (List T_api_Addr) → (List T_api_Record) → Prop} (hM : law08_Few_W t_V6 t_Version t_Kind t_Resp t_Group t_Quiet t_Robust t_Every t_Sources t_Records Q) :
  HC Try.prog 11 #[.agg (c_api_Talk (.bool t_V6) (.int .i64 t_Version) (.int .i64 t_Kind) (.int .i64 t_Resp) t_Group (.bool t_Quiet) (.int .i64 t_Robust) (.int .i64 t_Every) vt_Sources vt_Records).toArray] h0 fun u h' => ∃ (F' : Fz) (r_0_1 : Bool) (r_1_1 : Int) (r_2_1 : Int) (r_3_1 : Int) (r_4_1 : Bool) (r_5_1 : Ba 16) (r_21_1 : Bool) (r_22_1 : Int) (r_23_1 : Int) (r_24_1 : List T_api_Addr) (r_25_1 : List T_api_Record) (vr_24_1 : Value) (vr_25_1 : Value), u = .agg (c_api_Talk (.bool r_0_1) (.int .i64 r_1_1) (.int .i64 r_2_1) (.int .i64 r_3_1) (r_4_1, r_5_1) (.bool r_21_1) (.int .i64 r_22_1) (.int .i64 r_23_1) vr_24_1 vr_25_1).toArray ∧ Kp F h0 F' h' ∧ St F' (Ow.own 30 17 e_api_Addr vr_24_1 r_24_1 :: Ow.own 60 19 e_api_Record vr_25_1 r_25_1 :: fr) h' ∧ (SliceF F' h' 17 e_api_Addr vt_Sources t_Sources) ∧ (NfL nf_api_Record F' h' t_Records) ∧ (SliceF F' h' 19 e_api_Record vt_Records t_Records) ∧ (NfL nf_api_Record F' h' r_25_1) ∧ Q r_0_1 r_1_1 r_2_1 r_3_1 r_4_1 r_5_1 r_21_1 r_22_1 r_23_1 r_24_1 r_25_1 := by
 unfold law08_Few_W at hM
 have hK := Kp.refl F h0
 refine HC.of_HW (n := 12) Try.func11 rfl rfl (Nat.le_of_ble_eq_true rfl) ?_
 refine HW.seq ?_
 refine HW.region ?_
 refine HO.eff (want_none) rfl (st_box (c := (c_api_Talk (.bool t_V6) (.int .i64 t_Version) (.int .i64 t_Kind) (.int .i64 t_Resp) t_Group (.bool t_Quiet) (.int .i64 t_Robust) (.int .i64 t_Every) vt_Sources vt_Records).toArray) (k' := 26) hS rfl rfl) ?_
 rintro _ h_1 ⟨b_1, rfl, hS, hk⟩
 replace hK := hK.trans hk
 replace hL_t_Sources := hL_t_Sources.kp hk
 replace hN_t_Records := hN_t_Records.kp hk
 replace hL_t_Records := hL_t_Records.kp hk
 refine HO.eff (want_none) rfl (st_alloc (c := (c_api_Talk (.bool false) (.int .i64 0) (.int .i64 0) (.int .i64 0) (false, (default : Ba 16)) (.bool false) (.int .i64 0) (.int .i64 0) (.slice none 0 0) (.slice none 0 0)).toArray) hS tz_39 rfl) ?_
 rintro _ h_2 ⟨b_2, rfl, hS, hk⟩
 replace hK := hK.trans hk
 replace hL_t_Sources := hL_t_Sources.kp hk
 replace hN_t_Records := hN_t_Records.kp hk
 replace hL_t_Records := hL_t_Records.kp hk
 refine HO.nil (thenQ_normal (?_))
 refine HW.seq ?_
 refine HW.regionA 10 mixed (fun h => True) [(7, fun h => (Blk h b_1 (.cells (c_api_Talk (.bool t_V6) (.int .i64 t_Version) (.int .i64 t_Kind) (.int .i64 t_Resp) t_Group (.bool t_Quiet) (.int .i64 t_Robust) (.int .i64 t_Every) vt_Sources vt_Records).toArray 39 (0, 0))))] (by kernel_rfl) ?_
 refine HA.val (k := 0) (v := .pointer (some ⟨b_1, 24, none⟩)) rfl rfl (by kernel_rfl) (by kernel_rfl) (want_none) rfl (fun _ _ => q_fieldAddr fa_39_8 rfl rfl) ?_
 refine Go.Wk.HA.valN (k := 1) (v := vt_Sources) 0 7 (fun h => (Blk h b_1 (.cells (c_api_Talk (.bool t_V6) (.int .i64 t_Version) (.int .i64 t_Kind) (.int .i64 t_Resp) t_Group (.bool t_Quiet) (.int .i64 t_Robust) (.int .i64 t_Every) vt_Sources vt_Records).toArray 39 (0, 0)))) rfl rfl (by kernel_rfl) (by kernel_rfl) (want_none) rfl rfl (by kernel_rfl) (fun _ _ c203 => q_load to_32 rfl (Blk.cell c203 rfl)) ?_
 refine HA.val (k := 3) (v := .pointer (some ⟨b_1, 25, none⟩)) rfl rfl (by kernel_rfl) (by kernel_rfl) (want_none) rfl (fun _ _ => q_fieldAddr fa_39_9 rfl rfl) ?_
 refine Go.Wk.HA.valN (k := 4) (v := vt_Records) 0 7 (fun h => (Blk h b_1 (.cells (c_api_Talk (.bool t_V6) (.int .i64 t_Version) (.int .i64 t_Kind) (.int .i64 t_Resp) t_Group (.bool t_Quiet) (.int .i64 t_Robust) (.int .i64 t_Every) vt_Sources vt_Records).toArray 39 (0, 0)))) rfl rfl (by kernel_rfl) (by kernel_rfl) (want_none) rfl rfl (by kernel_rfl) (fun _ _ c203 => q_load to_37 rfl (Blk.cell c203 rfl)) ?_
 refine HA.one (k := 2) ⟨trivial, (at_now (hS.box 1 rfl) (Go.Wk.at_nil _ _))⟩ (by kernel_rfl) ?_
 refine HS.call rfl (want_none) rfl (ec en_33 rfl rfl) (law08_Addrs_walk (fr := (Ow.box b_2 39 (c_api_Talk (.bool false) (.int .i64 0) (.int .i64 0) (.int .i64 0) (false, (default : Ba 16)) (.bool false) (.int .i64 0) (.int .i64 0) (.slice none 0 0) (.slice none 0 0)).toArray :: Ow.box b_1 39 (c_api_Talk (.bool t_V6) (.int .i64 t_Version) (.int .i64 t_Kind) (.int .i64 t_Resp) t_Group (.bool t_Quiet) (.int .i64 t_Robust) (.int .i64 t_Every) vt_Sources vt_Records).toArray :: fr)) t_Sources 6 vt_Sources hS hL_t_Sources hM) ?_
 rintro vr_1 h_3 ⟨F_1, r_1, _, rfl, hk, hS, _, hM⟩
 replace hK := hK.trans hk
 replace hL_t_Sources := hL_t_Sources.kp hk
 replace hN_t_Records := hN_t_Records.kp hk
 replace hL_t_Records := hL_t_Records.kp hk
 refine HA.val (k := 6) (v := .pointer (some ⟨b_1, 24, none⟩)) rfl rfl (by kernel_rfl) (by kernel_rfl) (want_none) rfl (fun _ _ => q_fieldAddr fa_39_8 rfl rfl) ?_
 refine HA.one (k := 5) ⟨trivial, (at_now (hS.box 2 rfl) (Go.Wk.at_nil _ _))⟩ (by kernel_rfl) ?_
 refine HS.call rfl (want_none) rfl (ec en_34 rfl rfl) (law08_Records_walk (fr := (Ow.own 30 17 e_api_Addr vr_1 r_1 :: Ow.box b_2 39 (c_api_Talk (.bool false) (.int .i64 0) (.int .i64 0) (.int .i64 0) (false, (default : Ba 16)) (.bool false) (.int .i64 0) (.int .i64 0) (.slice none 0 0) (.slice none 0 0)).toArray :: Ow.box b_1 39 (c_api_Talk (.bool t_V6) (.int .i64 t_Version) (.int .i64 t_Kind) (.int .i64 t_Resp) t_Group (.bool t_Quiet) (.int .i64 t_Robust) (.int .i64 t_Every) vt_Sources vt_Records).toArray :: fr)) t_Records 6 vt_Records hS hN_t_Records hL_t_Records hM) ?_
 rintro vr_2 h_4 ⟨F_2, r_2, _, rfl, hk, hS, _, _, hL_1, hM⟩
 replace hK := hK.trans hk
 replace hL_t_Sources := hL_t_Sources.kp hk
 replace hN_t_Records := hN_t_Records.kp hk
 replace hL_t_Records := hL_t_Records.kp hk
 refine HA.one (k := 7) ⟨trivial, (at_now (hS.box 3 rfl) (Go.Wk.at_nil _ _))⟩ (by kernel_rfl) ?_
 refine HS.sto rfl (want_none) rfl (st_store (c' := (c_api_Talk (.bool t_V6) (.int .i64 t_Version) (.int .i64 t_Kind) (.int .i64 t_Resp) t_Group (.bool t_Quiet) (.int .i64 t_Robust) (.int .i64 t_Every) vr_1 vt_Records).toArray) hS (i := 3) rfl to_32 rfl rfl (shp (hS.own 1 rfl).slice).cells (shp (hS.own 1 rfl).slice).one (Nat.le_of_ble_eq_true rfl) rfl) ?_
 rintro h_5 ⟨hS, hk⟩
 replace hK := hK.trans hk
 replace hL_t_Sources := hL_t_Sources.kp hk
 replace hN_t_Records := hN_t_Records.kp hk
 replace hL_t_Records := hL_t_Records.kp hk
 replace hL_1 := hL_1.kp hk
 refine Go.Wk.HA.re (fun h => True) [(9, fun h => (Blk h b_1 (.cells (c_api_Talk (.bool t_V6) (.int .i64 t_Version) (.int .i64 t_Kind) (.int .i64 t_Resp) t_Group (.bool t_Quiet) (.int .i64 t_Robust) (.int .i64 t_Every) vr_1 vt_Records).toArray 39 (0, 0))))] (fun L_ h_ hL_ _ hs_ => ⟨trivial, (at_gone hL_ (by kernel_rfl) (Go.Wk.at_nil _ _))⟩) ?_
 refine HA.val (k := 8) (v := .pointer (some ⟨b_1, 25, none⟩)) rfl rfl (by kernel_rfl) (by kernel_rfl) (want_none) rfl (fun _ _ => q_fieldAddr fa_39_9 rfl rfl) ?_
 refine HA.one (k := 9) ⟨trivial, (at_now (hS.box 3 rfl) (Go.Wk.at_nil _ _))⟩ (by kernel_rfl) ?_
 refine HS.sto rfl (want_none) rfl (st_store (c' := (c_api_Talk (.bool t_V6) (.int .i64 t_Version) (.int .i64 t_Kind) (.int .i64 t_Resp) t_Group (.bool t_Quiet) (.int .i64 t_Robust) (.int .i64 t_Every) vr_1 vr_2).toArray) hS (i := 3) rfl to_37 rfl rfl (shp (hS.own 0 rfl).slice).cells (shp (hS.own 0 rfl).slice).one (Nat.le_of_ble_eq_true rfl) rfl) ?_
 rintro h_6 ⟨hS, hk⟩
 replace hK := hK.trans hk
 replace hL_t_Sources := hL_t_Sources.kp hk
 replace hN_t_Records := hN_t_Records.kp hk
 replace hL_t_Records := hL_t_Records.kp hk
 replace hL_1 := hL_1.kp hk
 refine HA.nil ⟨trivial, (at_done (by kernel_rfl) (Go.Wk.at_nil _ _))⟩ (by kernel_rfl) (thenQ_normal (?_))
 refine HW.seq ?_
 refine HW.region ?_
 refine oV (.agg (c_api_Talk (.bool t_V6) (.int .i64 t_Version) (.int .i64 t_Kind) (.int .i64 t_Resp) t_Group (.bool t_Quiet) (.int .i64 t_Robust) (.int .i64 t_Every) vr_1 vr_2).toArray) (q_loadAgg (cs := (c_api_Talk (.bool t_V6) (.int .i64 t_Version) (.int .i64 t_Kind) (.int .i64 t_Resp) t_Group (.bool t_Quiet) (.int .i64 t_Robust) (.int .i64 t_Every) vr_1 vr_2)) ta_39 rfl rfl (Blk.cells (k := 26) (hS.box 3 rfl) rfl)) rfl ?_
 refine HO.sto (want_none) rfl (st_storeAgg (c' := (c_api_Talk (.bool t_V6) (.int .i64 t_Version) (.int .i64 t_Kind) (.int .i64 t_Resp) t_Group (.bool t_Quiet) (.int .i64 t_Robust) (.int .i64 t_Every) vr_1 vr_2).toArray) hS (i := 2) rfl ta_39 rfl rfl rfl (List.forall_mem_cons.2 ⟨rfl, (List.forall_mem_cons.2 ⟨rfl, (List.forall_mem_cons.2 ⟨rfl, (List.forall_mem_cons.2 ⟨rfl, (List.forall_mem_cons.2 ⟨rfl, (List.forall_mem_cons.2 ⟨rfl, (List.forall_mem_cons.2 ⟨rfl, (List.forall_mem_cons.2 ⟨rfl, (List.forall_mem_cons.2 ⟨rfl, (List.forall_mem_cons.2 ⟨rfl, (List.forall_mem_cons.2 ⟨rfl, (List.forall_mem_cons.2 ⟨rfl, (List.forall_mem_cons.2 ⟨rfl, (List.forall_mem_cons.2 ⟨rfl, (List.forall_mem_cons.2 ⟨rfl, (List.forall_mem_cons.2 ⟨rfl, (List.forall_mem_cons.2 ⟨rfl, (List.forall_mem_cons.2 ⟨rfl, (List.forall_mem_cons.2 ⟨rfl, (List.forall_mem_cons.2 ⟨rfl, (List.forall_mem_cons.2 ⟨rfl, (List.forall_mem_cons.2 ⟨rfl, (List.forall_mem_cons.2 ⟨rfl, (List.forall_mem_cons.2 ⟨rfl, (List.forall_mem_cons.2 ⟨(shp (hS.own 1 rfl).slice).one, (List.forall_mem_cons.2 ⟨(shp (hS.own 0 rfl).slice).one, (fun _ h => by cases h)⟩)⟩)⟩)⟩)⟩)⟩)⟩)⟩)⟩)⟩)⟩)⟩)⟩)⟩)⟩)⟩)⟩)⟩)⟩)⟩)⟩)⟩)⟩)⟩)⟩)⟩) (Nat.le_of_ble_eq_true rfl) rfl) ?_
 rintro h_7 ⟨hS, hk⟩
 replace hK := hK.trans hk
 replace hL_t_Sources := hL_t_Sources.kp hk
 replace hN_t_Records := hN_t_Records.kp hk
 replace hL_t_Records := hL_t_Records.kp hk
 replace hL_1 := hL_1.kp hk
 refine HO.nil (thenQ_normal (?_))
 refine HW.ret (?_)
 refine ⟨.inr rfl, .agg (c_api_Talk (.bool t_V6) (.int .i64 t_Version) (.int .i64 t_Kind) (.int .i64 t_Resp) t_Group (.bool t_Quiet) (.int .i64 t_Robust) (.int .i64 t_Every) vr_1 vr_2).toArray, res1 rfl (rca (cs := (c_api_Talk (.bool t_V6) (.int .i64 t_Version) (.int .i64 t_Kind) (.int .i64 t_Resp) t_Group (.bool t_Quiet) (.int .i64 t_Robust) (.int .i64 t_Every) vr_1 vr_2)) ta_39 rfl rfl (Blk.cells (k := 26) (hS.box 2 rfl) rfl)), ?_⟩
 replace hS : St F_2 (Ow.own 30 17 e_api_Addr vr_1 r_1 :: Ow.own 60 19 e_api_Record vr_2 r_2 :: fr) h_7 := hS.perm2 [1, 0] 4 rfl rfl
 exact ⟨F_2, t_V6, t_Version, t_Kind, t_Resp, t_Group.1, t_Group.2, t_Quiet, t_Robust, t_Every, r_1, r_2, vr_1, vr_2, rfl, hK, hS, hL_t_Sources, hN_t_Records, hL_t_Records, hL_1, hM⟩
def ref19_None_W (f_Exclude : Bool) (f_Sources : List T_api_Addr) (Q : Bool → Prop) : Prop :=
 ((!f_Exclude) = true → Q (decide ((f_Sources.length : Int) = 0))) ∧ ((!f_Exclude) = false → Q false)
theorem ref19_None_walk {F : Fz} {fr : List Ow} {h0 : Heap} (f_Exclude : Bool) (f_Sources : List T_api_Addr) (vf_Sources : Value) (hS : St F (fr) h0) (hL_f_Sources : SliceF F h0 17 e_api_Addr vf_Sources f_Sources) {Q : Bool → Prop} (hM : ref19_None_W f_Exclude f_Sources Q) :
  HC Try.prog 12 #[.agg #[.bool f_Exclude, vf_Sources]] h0 fun u h' => ∃ (F' : Fz) (r_1 : Bool), u = .bool r_1 ∧ Kp F h0 F' h' ∧ St F' (fr) h' ∧ (SliceF F' h' 17 e_api_Addr vf_Sources f_Sources) ∧ Q r_1 := by
 unfold ref19_None_W at hM
 have hK := Kp.refl F h0
 refine HC.of_HW (n := 12) Try.func12 rfl rfl (Nat.le_of_ble_eq_true rfl) ?_
 refine HW.seq ?_
 refine HW.region ?_
 refine HO.eff (want_none) rfl (st_box (c := #[.bool f_Exclude, vf_Sources]) (k' := 2) hS rfl rfl) ?_
 rintro _ h_1 ⟨b_1, rfl, hS, hk⟩
 replace hK := hK.trans hk
 replace hL_f_Sources := hL_f_Sources.kp hk
 refine oA (.bool false) rfl rfl ?_
 refine HO.nil (thenQ_normal (?_))
 refine HW.seq ?_
 refine HW.region ?_
 refine oV (.pointer (some ⟨b_1, 0, none⟩)) (q_fieldAddr fa_34_0 rfl rfl) rfl ?_
 refine oV (.bool f_Exclude) (q_load to_4 rfl (Blk.cell (hS.box 0 rfl) rfl)) rfl ?_
 refine oV (.bool (!f_Exclude)) (q_not rfl) rfl ?_
 refine oM (.bool (!f_Exclude)) rfl rfl ?_
 rcases Bool.eq_false_or_eq_true (!f_Exclude) with c_1 | c_1
 ·
  replace hM := hM.1 c_1
  refine HO.val (v := .pointer (some ⟨b_1, 1, none⟩)) (want_by rfl rfl c_1) rfl (q_fieldAddr fa_34_1 rfl rfl) ?_
  refine HO.val (v := vf_Sources) (want_by rfl rfl c_1) rfl (q_load to_32 rfl (Blk.cell (hS.box 0 rfl) rfl)) ?_
  refine HO.val (v := .int .i64 (f_Sources.length : Int)) (want_by rfl rfl c_1) rfl (q_len ts_32 (shp hL_f_Sources.is) rfl rfl) ?_
  refine HO.val (v := .bool (decide ((f_Sources.length : Int) = 0))) (want_by rfl rfl c_1) rfl (q_eql rfl rfl) ?_
  refine oV (.bool (decide ((f_Sources.length : Int) = 0))) (q_pickK true rfl c_1 rfl) rfl ?_
  refine oA (.bool (decide ((f_Sources.length : Int) = 0))) rfl rfl ?_
  refine HO.nil (thenQ_normal (?_))
  refine HW.ret (?_)
  refine ⟨.inr rfl, .bool (decide ((f_Sources.length : Int) = 0)), res1 rfl (rt rfl), ?_⟩
  replace hS : St F (fr) h_1 := hS.perm2 [] 1 rfl rfl
  exact ⟨F, decide ((f_Sources.length : Int) = 0), rfl, hK, hS, hL_f_Sources, hM⟩
 ·
  replace hM := hM.2 c_1
  refine HO.past (past_by rfl rfl c_1) rfl ?_
  refine HO.past (past_by rfl rfl c_1) rfl ?_
  refine HO.past (past_by rfl rfl c_1) rfl ?_
  refine HO.past (past_by rfl rfl c_1) rfl ?_
  refine oV (.bool false) (q_pickK false rfl c_1 rfl) rfl ?_
  refine oA (.bool false) rfl rfl ?_
  refine HO.nil (thenQ_normal (?_))
  refine HW.ret (?_)
  refine ⟨.inr rfl, .bool false, res1 rfl (rt rfl), ?_⟩
  replace hS : St F (fr) h_1 := hS.perm2 [] 1 rfl rfl
  exact ⟨F, false, rfl, hK, hS, hL_f_Sources, hM⟩
def host_Host_Set_nil0_W (now : Int) (g : T_api_Addr) (f_Exclude : Bool) (f_Sources : List T_api_Addr) (Q : (List T_api_Talk) → Int → Prop) : Prop :=
 Q [] 1
theorem host_Host_Set_nil0_walk {F : Fz} {fr : List Ow} {h0 : Heap} (now : Int) (g : T_api_Addr) (f_Exclude : Bool) (f_Sources : List T_api_Addr) (vf_Sources : Value) (hS : St F (fr) h0) (hL_f_Sources : SliceF F h0 17 e_api_Addr vf_Sources f_Sources) {Q : (List T_api_Talk) → Int → Prop} (hM : host_Host_Set_nil0_W now g f_Exclude f_Sources Q) :
  HC Try.prog 6 #[.pointer none, .int .i64 now, .agg (e_api_Addr g).toArray, .agg #[.bool f_Exclude, vf_Sources]] h0 fun u h' => ∃ (F' : Fz) (r0_1 : List T_api_Talk) (r1_1 : Int) (vr0_1 : Value), u = .tuple #[vr0_1, .int .i64 r1_1] ∧ Kp F h0 F' h' ∧ St F' (Ow.own 39 26 e_api_Talk vr0_1 r0_1 :: fr) h' ∧ (SliceF F' h' 17 e_api_Addr vf_Sources f_Sources) ∧ (NfL nf_api_Talk F' h' r0_1) ∧ Q r0_1 r1_1 := by
 unfold host_Host_Set_nil0_W at hM
 have hK := Kp.refl F h0
 refine HC.of_HW (n := 98) Try.func6 rfl rfl (Nat.le_of_ble_eq_true rfl) ?_
 refine HW.seq ?_
 refine HW.region ?_
 refine HO.eff (want_none) rfl (st_box (c := (e_api_Addr g).toArray) (k' := 17) hS rfl rfl) ?_
 rintro _ h_1 ⟨b_1, rfl, hS, hk⟩
 replace hK := hK.trans hk
 replace hL_f_Sources := hL_f_Sources.kp hk
 refine HO.eff (want_none) rfl (st_box (c := #[.bool f_Exclude, vf_Sources]) (k' := 2) hS rfl rfl) ?_
 rintro _ h_2 ⟨b_2, rfl, hS, hk⟩
 replace hK := hK.trans hk
 replace hL_f_Sources := hL_f_Sources.kp hk
 refine oA (.slice none 0 0) rfl rfl ?_
 refine oA (.int .i64 0) rfl rfl ?_
 refine HO.nil (thenQ_normal (?_))
 refine HW.seq ?_
 refine HW.seq ?_
 refine HW.region ?_
 refine oM (.pointer none) rfl rfl ?_
 refine oV (.bool true) (q_eqlPnil Try.underlying22 rfl rfl rfl) rfl ?_
 refine HO.nil (thenQ_normal (?_))
 refine HW.condT rfl ?_
 refine HW.seq ?_
 refine HW.region ?_
 refine oA (.slice none 0 0) rfl rfl ?_
 refine oA (.int .i64 1) rfl rfl ?_
 refine HO.nil (thenQ_normal (?_))
 refine HW.ret (thenQ_ret (?_))
 refine ⟨.inr rfl, .tuple #[.slice none 0 0, .int .i64 1], res2 rfl (rt rfl) (rt rfl), ?_⟩
 replace hS := hS.nilOwn 39 26 e_api_Talk
 have hN_2 : NfL nf_api_Talk F h_2 ([] : List T_api_Talk) := NfL.nil _ _ _
 replace hS : St F (Ow.own 39 26 e_api_Talk (.slice none 0 0) ([] : List T_api_Talk) :: fr) h_2 := hS.perm2 [0] 3 rfl rfl
 exact ⟨F, [], 1, .slice none 0 0, rfl, hK, hS, hL_f_Sources, hN_2, hM⟩
def host_Host_Hear_nil0_W (now : Int) (t : T_api_Tune) (q_V6 : Bool) (q_Version : Int) (q_Kind : Int) (q_Resp : Int) (q_Group : T_api_Addr) (q_Quiet : Bool) (q_Robust : Int) (q_Every : Int) (q_Sources : List T_api_Addr) (q_Records : List T_api_Record) (Q : (List T_api_Talk) → Prop) : Prop :=
 Q []
theorem host_Host_Hear_nil0_walk {F : Fz} {fr : List Ow} {h0 : Heap} (now : Int) (t : T_api_Tune) (q_V6 : Bool) (q_Version : Int) (q_Kind : Int) (q_Resp : Int) (q_Group : T_api_Addr) (q_Quiet : Bool) (q_Robust : Int) (q_Every : Int) (q_Sources : List T_api_Addr) (q_Records : List T_api_Record) (vq_Sources : Value) (vq_Records : Value) (hS : St F (fr) h0) (hL_q_Sources : SliceF F h0 17 e_api_Addr vq_Sources q_Sources) (hN_q_Records : NfL nf_api_Record F h0 q_Records) (hL_q_Records : SliceF F h0 19 e_api_Record vq_Records q_Records) {Q : (List T_api_Talk) → Prop} (hM : host_Host_Hear_nil0_W now t q_V6 q_Version q_Kind q_Resp q_Group q_Quiet q_Robust q_Every q_Sources q_Records Q) :
  HC Try.prog 9 #[.pointer none, .int .i64 now, .agg (e_api_Tune t).toArray, .agg (c_api_Talk (.bool q_V6) (.int .i64 q_Version) (.int .i64 q_Kind) (.int .i64 q_Resp) q_Group (.bool q_Quiet) (.int .i64 q_Robust) (.int .i64 q_Every) vq_Sources vq_Records).toArray] h0 fun u h' => ∃ (F' : Fz) (r_1 : List T_api_Talk) (vr_1 : Value), u = vr_1 ∧ Kp F h0 F' h' ∧ St F' (Ow.own 39 26 e_api_Talk vr_1 r_1 :: fr) h' ∧ (SliceF F' h' 17 e_api_Addr vq_Sources q_Sources) ∧ (NfL nf_api_Record F' h' q_Records) ∧ (SliceF F' h' 19 e_api_Record vq_Records q_Records) ∧ (NfL nf_api_Talk F' h' r_1) ∧ Q r_1 := by
 unfold host_Host_Hear_nil0_W at hM
 have hK := Kp.refl F h0
 refine HC.of_HW (n := 125) Try.func9 rfl rfl (Nat.le_of_ble_eq_true rfl) ?_
 refine HW.seq ?_
 refine HW.region ?_
 refine HO.eff (want_none) rfl (st_box (c := (e_api_Tune t).toArray) (k' := 5) hS rfl rfl) ?_
 rintro _ h_1 ⟨b_1, rfl, hS, hk⟩
 replace hK := hK.trans hk
 replace hL_q_Sources := hL_q_Sources.kp hk
 replace hN_q_Records := hN_q_Records.kp hk
 replace hL_q_Records := hL_q_Records.kp hk
 refine HO.eff (want_none) rfl (st_box (c := (c_api_Talk (.bool q_V6) (.int .i64 q_Version) (.int .i64 q_Kind) (.int .i64 q_Resp) q_Group (.bool q_Quiet) (.int .i64 q_Robust) (.int .i64 q_Every) vq_Sources vq_Records).toArray) (k' := 26) hS rfl rfl) ?_
 rintro _ h_2 ⟨b_2, rfl, hS, hk⟩
 replace hK := hK.trans hk
 replace hL_q_Sources := hL_q_Sources.kp hk
 replace hN_q_Records := hN_q_Records.kp hk
 replace hL_q_Records := hL_q_Records.kp hk
 refine oA (.slice none 0 0) rfl rfl ?_
 refine HO.nil (thenQ_normal (?_))
 refine HW.seq ?_
 refine HW.seq ?_
 refine HW.region ?_
 refine oM (.pointer none) rfl rfl ?_
 refine oV (.bool true) (q_eqlPnil Try.underlying22 rfl rfl rfl) rfl ?_
 refine HO.nil (thenQ_normal (?_))
 refine HW.condT rfl ?_
 refine HW.seq ?_
 refine HW.region ?_
 refine oA (.slice none 0 0) rfl rfl ?_
 refine HO.nil (thenQ_normal (?_))
 refine HW.ret (thenQ_ret (?_))
 refine ⟨.inr rfl, .slice none 0 0, res1 rfl (rt rfl), ?_⟩
 replace hS := hS.nilOwn 39 26 e_api_Talk
 have hN_2 : NfL nf_api_Talk F h_2 ([] : List T_api_Talk) := NfL.nil _ _ _
 replace hS : St F (Ow.own 39 26 e_api_Talk (.slice none 0 0) ([] : List T_api_Talk) :: fr) h_2 := hS.perm2 [0] 3 rfl rfl
 exact ⟨F, [], .slice none 0 0, rfl, hK, hS, hL_q_Sources, hN_q_Records, hL_q_Records, hN_2, hM⟩
def host_Host_Filter_nil0_W (g : T_api_Addr) (Q : Bool → (List T_api_Addr) → Prop) : Prop :=
 Q false []
theorem host_Host_Filter_nil0_walk {F : Fz} {fr : List Ow} {h0 : Heap} (g : T_api_Addr) (hS : St F (fr) h0)  {Q : Bool → (List T_api_Addr) → Prop} (hM : host_Host_Filter_nil0_W g Q) :
  HC Try.prog 13 #[.pointer none, .agg (e_api_Addr g).toArray] h0 fun u h' => ∃ (F' : Fz) (r_0_1 : Bool) (r_1_1 : List T_api_Addr) (vr_1_1 : Value), u = .agg #[.bool r_0_1, vr_1_1] ∧ Kp F h0 F' h' ∧ St F' (Ow.own 30 17 e_api_Addr vr_1_1 r_1_1 :: fr) h' ∧ Q r_0_1 r_1_1 := by
 unfold host_Host_Filter_nil0_W at hM
 have hK := Kp.refl F h0
 refine HC.of_HW (n := 15) Try.func13 rfl rfl (Nat.le_of_ble_eq_true rfl) ?_
 refine HW.seq ?_
 refine HW.region ?_
 refine HO.eff (want_none) rfl (st_box (c := (e_api_Addr g).toArray) (k' := 17) hS rfl rfl) ?_
 rintro _ h_1 ⟨b_1, rfl, hS, hk⟩
 replace hK := hK.trans hk
 refine HO.eff (want_none) rfl (st_alloc (c := #[.bool false, .slice none 0 0]) hS tz_34 rfl) ?_
 rintro _ h_2 ⟨b_2, rfl, hS, hk⟩
 replace hK := hK.trans hk
 refine HO.nil (thenQ_normal (?_))
 refine HW.seq ?_
 refine HW.seq ?_
 refine HW.region ?_
 refine oM (.pointer none) rfl rfl ?_
 refine oV (.bool true) (q_eqlPnil Try.underlying22 rfl rfl rfl) rfl ?_
 refine HO.nil (thenQ_normal (?_))
 refine HW.condT rfl ?_
 refine HW.seq ?_
 refine HW.region ?_
 refine oV (.agg #[.bool false, .slice none 0 0]) (q_build tp_34 rfl) rfl ?_
 refine HO.sto (want_none) rfl (st_storeAgg (c' := #[.bool false, .slice none 0 0]) hS (i := 0) rfl ta_34 rfl rfl rfl (by simp [Value.oneCell']) (Nat.le_of_ble_eq_true rfl) rfl) ?_
 rintro h_3 ⟨hS, hk⟩
 replace hK := hK.trans hk
 refine HO.nil (thenQ_normal (?_))
 refine HW.ret (thenQ_ret (?_))
 refine ⟨.inr rfl, .agg #[.bool false, .slice none 0 0], res1 rfl (rca (cs := [.bool false, .slice none 0 0]) ta_34 rfl rfl (Blk.cells (k := 2) (hS.box 0 rfl) rfl)), ?_⟩
 replace hS := hS.nilOwn 30 17 e_api_Addr
 replace hS : St F (Ow.own 30 17 e_api_Addr (.slice none 0 0) ([] : List T_api_Addr) :: fr) h_3 := hS.perm2 [0] 3 rfl rfl
 exact ⟨F, false, [], .slice none 0 0, rfl, hK, hS, hM⟩
def host_Host_Groups_nil0_W (Q : (List T_api_Addr) → Prop) : Prop :=
 Q []
theorem host_Host_Groups_nil0_walk {F : Fz} {fr : List Ow} {h0 : Heap}  (hS : St F (fr) h0)  {Q : (List T_api_Addr) → Prop} (hM : host_Host_Groups_nil0_W Q) :
  HC Try.prog 14 #[.pointer none] h0 fun u h' => ∃ (F' : Fz) (r_1 : List T_api_Addr) (vr_1 : Value), u = vr_1 ∧ Kp F h0 F' h' ∧ St F' (Ow.own 30 17 e_api_Addr vr_1 r_1 :: fr) h' ∧ Q r_1 := by
 unfold host_Host_Groups_nil0_W at hM
 have hK := Kp.refl F h0
 refine HC.of_HW (n := 7) Try.func14 rfl rfl (Nat.le_of_ble_eq_true rfl) ?_
 refine HW.seq ?_
 refine HW.region ?_
 refine oA (.slice none 0 0) rfl rfl ?_
 refine HO.nil (thenQ_normal (?_))
 refine HW.seq ?_
 refine HW.seq ?_
 refine HW.region ?_
 refine oM (.pointer none) rfl rfl ?_
 refine oV (.bool true) (q_eqlPnil Try.underlying22 rfl rfl rfl) rfl ?_
 refine HO.nil (thenQ_normal (?_))
 refine HW.condT rfl ?_
 refine HW.seq ?_
 refine HW.region ?_
 refine oA (.slice none 0 0) rfl rfl ?_
 refine HO.nil (thenQ_normal (?_))
 refine HW.ret (thenQ_ret (?_))
 refine ⟨.inr rfl, .slice none 0 0, res1 rfl (rt rfl), ?_⟩
 replace hS := hS.nilOwn 30 17 e_api_Addr
 exact ⟨F, [], .slice none 0 0, rfl, hK, hS, hM⟩
def host_Host_Mode_nil0_W (now : Int) (Q : Int → Prop) : Prop :=
 Q 3
theorem host_Host_Mode_nil0_walk {F : Fz} {fr : List Ow} {h0 : Heap} (now : Int) (hS : St F (fr) h0)  {Q : Int → Prop} (hM : host_Host_Mode_nil0_W now Q) :
  HC Try.prog 15 #[.pointer none, .int .i64 now] h0 fun u h' => ∃ (F' : Fz) (r_1 : Int), u = .int .i64 r_1 ∧ Kp F h0 F' h' ∧ St F' (fr) h' ∧ Q r_1 := by
 unfold host_Host_Mode_nil0_W at hM
 have hK := Kp.refl F h0
 refine HC.of_HW (n := 12) Try.func15 rfl rfl (Nat.le_of_ble_eq_true rfl) ?_
 refine HW.seq ?_
 refine HW.region ?_
 refine oA (.int .i64 0) rfl rfl ?_
 refine HO.nil (thenQ_normal (?_))
 refine HW.seq ?_
 refine HW.seq ?_
 refine HW.region ?_
 refine oM (.pointer none) rfl rfl ?_
 refine oV (.bool true) (q_eqlPnil Try.underlying22 rfl rfl rfl) rfl ?_
 refine HO.nil (thenQ_normal (?_))
 refine HW.condT rfl ?_
 refine HW.seq ?_
 refine HW.region ?_
 refine oA (.int .i64 3) rfl rfl ?_
 refine HO.nil (thenQ_normal (?_))
 refine HW.ret (thenQ_ret (?_))
 refine ⟨.inr rfl, .int .i64 3, res1 rfl (rt rfl), ?_⟩
 exact ⟨F, 3, rfl, hK, hS, hM⟩
def law20_HostNil_W (now : Int) (q_V6 : Bool) (q_Version : Int) (q_Kind : Int) (q_Resp : Int) (q_Group : T_api_Addr) (q_Quiet : Bool) (q_Robust : Int) (q_Every : Int) (q_Sources : List T_api_Addr) (q_Records : List T_api_Record) (g : T_api_Addr) (Q : Bool → Prop) : Prop :=
 host_Host_Set_nil0_W now g true [] (fun r0_1 r1_1 => ((r0_1.length : Int) = 0 → (r1_1 = 1 → law18_Usual_W  (fun r_2 => law08_Few_W q_V6 q_Version q_Kind q_Resp q_Group q_Quiet q_Robust q_Every q_Sources q_Records (fun r_0_1 r_1_1 r_2_1 r_3_1 r_4_1 r_5_1 r_21_1 r_22_1 r_23_1 r_24_1 r_25_1 => host_Host_Hear_nil0_W now r_2 r_0_1 r_1_1 r_2_1 r_3_1 (r_4_1, r_5_1) r_21_1 r_22_1 r_23_1 r_24_1 r_25_1 (fun r_3 => ((r_3.length : Int) = 0 → host_Host_Filter_nil0_W g (fun r_0_2 r_1_2 => ref19_None_W r_0_2 r_1_2 (fun r_4 => (r_4 = true → host_Host_Groups_nil0_W  (fun r_5 => ((r_5.length : Int) = 0 → host_Host_Mode_nil0_W now (fun r_6 => (r_6 = 3 → law20_lives_W  (fun r_7 => Q r_7)) ∧ (¬ (r_6 = 3) → Q false))) ∧ (¬ ((r_5.length : Int) = 0) → Q false))) ∧ (r_4 = false → Q false)))) ∧ (¬ ((r_3.length : Int) = 0) → Q false))))) ∧ (¬ (r1_1 = 1) → Q false)) ∧ (¬ ((r0_1.length : Int) = 0) → Q false))
theorem law20_HostNil_walk {F : Fz} {fr : List Ow} {h0 : Heap} (now : Int) (q_V6 : Bool) (q_Version : Int) (q_Kind : Int) (q_Resp : Int) (q_Group : T_api_Addr) (q_Quiet : Bool) (q_Robust : Int) (q_Every : Int) (q_Sources : List T_api_Addr) (q_Records : List T_api_Record) (g : T_api_Addr) (vq_Sources : Value) (vq_Records : Value) (hS : St F (fr) h0) (hL_q_Sources : SliceF F h0 17 e_api_Addr vq_Sources q_Sources) (hN_q_Records : NfL nf_api_Record F h0 q_Records) (hL_q_Records : SliceF F h0 19 e_api_Record vq_Records q_Records) {Q : Bool → Prop} (hM : law20_HostNil_W now q_V6 q_Version q_Kind q_Resp q_Group q_Quiet q_Robust q_Every q_Sources q_Records g Q) :
  HC Try.prog 4 #[.int .i64 now, .agg (c_api_Talk (.bool q_V6) (.int .i64 q_Version) (.int .i64 q_Kind) (.int .i64 q_Resp) q_Group (.bool q_Quiet) (.int .i64 q_Robust) (.int .i64 q_Every) vq_Sources vq_Records).toArray, .agg (e_api_Addr g).toArray] h0 fun u h' => ∃ (F' : Fz) (r_1 : Bool), u = .bool r_1 ∧ Kp F h0 F' h' ∧ St F' (fr) h' ∧ (SliceF F' h' 17 e_api_Addr vq_Sources q_Sources) ∧ (NfL nf_api_Record F' h' q_Records) ∧ (SliceF F' h' 19 e_api_Record vq_Records q_Records) ∧ Q r_1 := by
 unfold law20_HostNil_W at hM
 have hK := Kp.refl F h0
 refine HC.of_HW (n := 56) Try.func4 rfl rfl (Nat.le_of_ble_eq_true rfl) ?_
 refine HW.seq ?_
 refine HW.region ?_
 refine HO.eff (want_none) rfl (st_box (c := (c_api_Talk (.bool q_V6) (.int .i64 q_Version) (.int .i64 q_Kind) (.int .i64 q_Resp) q_Group (.bool q_Quiet) (.int .i64 q_Robust) (.int .i64 q_Every) vq_Sources vq_Records).toArray) (k' := 26) hS rfl rfl) ?_
 rintro _ h_1 ⟨b_1, rfl, hS, hk⟩
 replace hK := hK.trans hk
 replace hL_q_Sources := hL_q_Sources.kp hk
 replace hN_q_Records := hN_q_Records.kp hk
 replace hL_q_Records := hL_q_Records.kp hk
 refine HO.eff (want_none) rfl (st_box (c := (e_api_Addr g).toArray) (k' := 17) hS rfl rfl) ?_
 rintro _ h_2 ⟨b_2, rfl, hS, hk⟩
 replace hK := hK.trans hk
 replace hL_q_Sources := hL_q_Sources.kp hk
 replace hN_q_Records := hN_q_Records.kp hk
 replace hL_q_Records := hL_q_Records.kp hk
 refine oA (.bool false) rfl rfl ?_
 refine HO.nil (thenQ_normal (?_))
 refine HW.seq ?_
 refine HW.region ?_
 refine oA (.pointer none) rfl rfl ?_
 refine HO.nil (thenQ_normal (?_))
 refine HW.seq ?_
 refine HW.region ?_
 refine oM (.pointer none) rfl rfl ?_
 refine oM (.int .i64 now) rfl rfl ?_
 refine oV (.agg (e_api_Addr g).toArray) (q_loadAgg (cs := (e_api_Addr g)) ta_30 rfl rfl (Blk.cells (k := 17) (hS.box 0 rfl) rfl)) rfl ?_
 refine oV (.agg #[.bool true, .slice none 0 0]) (q_build tp_34 rfl) rfl ?_
 refine HO.call (want_none) rfl (ec en_6 rfl rfl) (host_Host_Set_nil0_walk (fr := (Ow.box b_2 30 (e_api_Addr g).toArray :: Ow.box b_1 39 (c_api_Talk (.bool q_V6) (.int .i64 q_Version) (.int .i64 q_Kind) (.int .i64 q_Resp) q_Group (.bool q_Quiet) (.int .i64 q_Robust) (.int .i64 q_Every) vq_Sources vq_Records).toArray :: fr)) now g true [] (.slice none 0 0) hS (SliceF.nil _ _ _ _) hM) ?_
 rintro _ h_3 ⟨F_1, r0_1, r1_1, vr0_1, rfl, hk, hS, _, hL_1, hM⟩
 replace hK := hK.trans hk
 replace hL_q_Sources := hL_q_Sources.kp hk
 replace hN_q_Records := hN_q_Records.kp hk
 replace hL_q_Records := hL_q_Records.kp hk
 refine oM (.tuple #[vr0_1, .int .i64 r1_1]) rfl rfl ?_
 refine oV (vr0_1) (q_extract rfl rfl) rfl ?_
 refine oV (.int .i64 r1_1) (q_extract rfl rfl) rfl ?_
 refine oA (vr0_1) rfl rfl ?_
 refine oA (.int .i64 r1_1) rfl rfl ?_
 refine HO.nil (thenQ_normal (?_))
 refine HW.seq ?_
 refine HW.regionA 39 mixed (fun h => (OwnIs h 0 39 26 e_api_Talk vr0_1 r0_1) ∧ (Blk h b_2 (.cells (e_api_Addr g).toArray 30 (0, 0))) ∧ (Blk h b_1 (.cells (c_api_Talk (.bool q_V6) (.int .i64 q_Version) (.int .i64 q_Kind) (.int .i64 q_Resp) q_Group (.bool q_Quiet) (.int .i64 q_Robust) (.int .i64 q_Every) vq_Sources vq_Records).toArray 39 (0, 0)))) [] (by kernel_rfl) ?_
 refine HA.val (k := 0) (v := vr0_1) rfl rfl (by kernel_rfl) (by kernel_rfl) (want_none) rfl (fun _ ⟨c203, c202, c201⟩ => q_move rfl) ?_
 refine HA.val (k := 1) (v := .int .i64 (r0_1.length : Int)) rfl rfl (by kernel_rfl) (by kernel_rfl) (want_none) rfl (fun _ ⟨c203, c202, c201⟩ => q_len ts_24 (shp c203.slice) rfl rfl) ?_
 refine HA.val (k := 2) (v := .bool (decide ((r0_1.length : Int) = 0))) rfl rfl (by kernel_rfl) (by kernel_rfl) (want_none) rfl (fun _ ⟨c203, c202, c201⟩ => q_eql rfl rfl) ?_
 refine HA.val (k := 3) (v := .bool (decide ((r0_1.length : Int) = 0))) rfl rfl (by kernel_rfl) (by kernel_rfl) (want_none) rfl (fun _ ⟨c203, c202, c201⟩ => q_move rfl) ?_
 rcases Bool.eq_false_or_eq_true (decide ((r0_1.length : Int) = 0)) with c_1 | c_1
 ·
  replace hM := hM.1 (of_decide_eq_true c_1)
  refine HA.val (k := 4) (v := .int .i64 r1_1) rfl rfl (by kernel_rfl) (by kernel_rfl) (want_by rfl rfl c_1) rfl (fun _ ⟨c203, c202, c201⟩ => q_move rfl) ?_
  refine HA.val (k := 5) (v := .bool (decide (r1_1 = 1))) rfl rfl (by kernel_rfl) (by kernel_rfl) (want_by rfl rfl c_1) rfl (fun _ ⟨c203, c202, c201⟩ => q_eql rfl rfl) ?_
  refine HA.val (k := 6) (v := .bool (decide (r1_1 = 1))) rfl rfl (by kernel_rfl) (by kernel_rfl) (want_none) rfl (fun _ ⟨c203, c202, c201⟩ => q_pickK true rfl c_1 rfl) ?_
  refine HA.val (k := 7) (v := .bool (decide (r1_1 = 1))) rfl rfl (by kernel_rfl) (by kernel_rfl) (want_none) rfl (fun _ ⟨c203, c202, c201⟩ => q_move rfl) ?_
  rcases Bool.eq_false_or_eq_true (decide (r1_1 = 1)) with c_2 | c_2
  ·
   replace hM := hM.1 (of_decide_eq_true c_2)
   refine HA.val (k := 8) (v := .pointer none) rfl rfl (by kernel_rfl) (by kernel_rfl) (want_by rfl rfl c_2) rfl (fun _ ⟨c203, c202, c201⟩ => q_move rfl) ?_
   refine HA.val (k := 9) (v := .int .i64 now) rfl rfl (by kernel_rfl) (by kernel_rfl) (want_by rfl rfl c_2) rfl (fun _ ⟨c203, c202, c201⟩ => q_move rfl) ?_
   refine HA.val (k := 11) (v := .agg (c_api_Talk (.bool q_V6) (.int .i64 q_Version) (.int .i64 q_Kind) (.int .i64 q_Resp) q_Group (.bool q_Quiet) (.int .i64 q_Robust) (.int .i64 q_Every) vq_Sources vq_Records).toArray) rfl rfl (by kernel_rfl) (by kernel_rfl) (want_by rfl rfl c_2) rfl (fun _ ⟨c203, c202, c201⟩ => q_loadAgg (cs := (c_api_Talk (.bool q_V6) (.int .i64 q_Version) (.int .i64 q_Kind) (.int .i64 q_Resp) q_Group (.bool q_Quiet) (.int .i64 q_Robust) (.int .i64 q_Every) vq_Sources vq_Records)) ta_39 rfl rfl (Blk.cells (k := 26) c201 rfl)) ?_
   refine HA.one (k := 10) ⟨⟨(hS.own 0 rfl), (hS.box 1 rfl), (hS.box 2 rfl)⟩, (Go.Wk.at_nil _ _)⟩ (by kernel_rfl) ?_
   refine HS.call rfl (want_by rfl rfl c_2) rfl (ec en_10 rfl rfl) (law18_Usual_walk (fr := (Ow.own 39 26 e_api_Talk vr0_1 r0_1 :: Ow.box b_2 30 (e_api_Addr g).toArray :: Ow.box b_1 39 (c_api_Talk (.bool q_V6) (.int .i64 q_Version) (.int .i64 q_Kind) (.int .i64 q_Resp) q_Group (.bool q_Quiet) (.int .i64 q_Robust) (.int .i64 q_Every) vq_Sources vq_Records).toArray :: fr))  hS hM) ?_
   rintro _ h_4 ⟨F_2, r_2, rfl, hk, hS, hM⟩
   replace hK := hK.trans hk
   replace hL_q_Sources := hL_q_Sources.kp hk
   replace hN_q_Records := hN_q_Records.kp hk
   replace hL_q_Records := hL_q_Records.kp hk
   refine HA.one (k := 12) ⟨⟨(hS.own 0 rfl), (hS.box 1 rfl), (hS.box 2 rfl)⟩, (Go.Wk.at_nil _ _)⟩ (by kernel_rfl) ?_
   refine HS.call rfl (want_by rfl rfl c_2) rfl (ec en_11 rfl rfl) (law08_Few_walk (fr := (Ow.own 39 26 e_api_Talk vr0_1 r0_1 :: Ow.box b_2 30 (e_api_Addr g).toArray :: Ow.box b_1 39 (c_api_Talk (.bool q_V6) (.int .i64 q_Version) (.int .i64 q_Kind) (.int .i64 q_Resp) q_Group (.bool q_Quiet) (.int .i64 q_Robust) (.int .i64 q_Every) vq_Sources vq_Records).toArray :: fr)) q_V6 q_Version q_Kind q_Resp q_Group q_Quiet q_Robust q_Every q_Sources q_Records vq_Sources vq_Records hS hL_q_Sources hN_q_Records hL_q_Records hM) ?_
   rintro _ h_5 ⟨F_3, r_0_1, r_1_1, r_2_1, r_3_1, r_4_1, r_5_1, r_21_1, r_22_1, r_23_1, r_24_1, r_25_1, vr_24_1, vr_25_1, rfl, hk, hS, _, _, _, hL_2, hM⟩
   replace hK := hK.trans hk
   replace hL_q_Sources := hL_q_Sources.kp hk
   replace hN_q_Records := hN_q_Records.kp hk
   replace hL_q_Records := hL_q_Records.kp hk
   refine HA.one (k := 13) ⟨⟨(hS.own 2 rfl), (hS.box 3 rfl), (hS.box 4 rfl)⟩, (Go.Wk.at_nil _ _)⟩ (by kernel_rfl) ?_
   obtain ⟨F_4, hS, hk, hL_3⟩ := hS.freezeOwn
   replace hK := hK.trans hk
   replace hL_q_Sources := hL_q_Sources.kp hk
   replace hN_q_Records := hN_q_Records.kp hk
   replace hL_q_Records := hL_q_Records.kp hk
   replace hL_2 := hL_2.kp hk
   obtain ⟨F_5, hS, hk, hL_4⟩ := hS.freezeOwn
   replace hK := hK.trans hk
   replace hL_q_Sources := hL_q_Sources.kp hk
   replace hN_q_Records := hN_q_Records.kp hk
   replace hL_q_Records := hL_q_Records.kp hk
   replace hL_2 := hL_2.kp hk
   replace hL_3 := hL_3.kp hk
   refine HS.call rfl (want_by rfl rfl c_2) rfl (ec en_9 rfl rfl) (host_Host_Hear_nil0_walk (fr := (Ow.own 39 26 e_api_Talk vr0_1 r0_1 :: Ow.box b_2 30 (e_api_Addr g).toArray :: Ow.box b_1 39 (c_api_Talk (.bool q_V6) (.int .i64 q_Version) (.int .i64 q_Kind) (.int .i64 q_Resp) q_Group (.bool q_Quiet) (.int .i64 q_Robust) (.int .i64 q_Every) vq_Sources vq_Records).toArray :: fr)) now r_2 r_0_1 r_1_1 r_2_1 r_3_1 (r_4_1, r_5_1) r_21_1 r_22_1 r_23_1 r_24_1 r_25_1 vr_24_1 vr_25_1 hS hL_3 hL_2 hL_4 hM) ?_
   rintro vr_1 h_6 ⟨F_6, r_3, _, rfl, hk, hS, _, _, _, hL_5, hM⟩
   replace hK := hK.trans hk
   replace hL_q_Sources := hL_q_Sources.kp hk
   replace hN_q_Records := hN_q_Records.kp hk
   replace hL_q_Records := hL_q_Records.kp hk
   refine Go.Wk.HA.re (fun h => (OwnIs h 0 39 26 e_api_Talk vr_1 r_3) ∧ (OwnIs h 0 39 26 e_api_Talk vr0_1 r0_1) ∧ (Blk h b_2 (.cells (e_api_Addr g).toArray 30 (0, 0))) ∧ (Blk h b_1 (.cells (c_api_Talk (.bool q_V6) (.int .i64 q_Version) (.int .i64 q_Kind) (.int .i64 q_Resp) q_Group (.bool q_Quiet) (.int .i64 q_Robust) (.int .i64 q_Every) vq_Sources vq_Records).toArray 39 (0, 0)))) [] (fun L_ h_ hL_ ⟨c282, c203, c202, c201⟩ hs_ => ⟨⟨c203, c202, c201⟩, (Go.Wk.at_nil _ _)⟩) ?_
   refine HA.val (k := 14) (v := .int .i64 (r_3.length : Int)) rfl rfl (by kernel_rfl) (by kernel_rfl) (want_by rfl rfl c_2) rfl (fun _ ⟨c282, c203, c202, c201⟩ => q_len ts_24 (shp c282.slice) rfl rfl) ?_
   refine HA.val (k := 15) (v := .bool (decide ((r_3.length : Int) = 0))) rfl rfl (by kernel_rfl) (by kernel_rfl) (want_by rfl rfl c_2) rfl (fun _ ⟨c282, c203, c202, c201⟩ => q_eql rfl rfl) ?_
   refine HA.val (k := 16) (v := .bool (decide ((r_3.length : Int) = 0))) rfl rfl (by kernel_rfl) (by kernel_rfl) (want_none) rfl (fun _ ⟨c282, c203, c202, c201⟩ => q_pickK true rfl c_2 rfl) ?_
   refine HA.val (k := 17) (v := .bool (decide ((r_3.length : Int) = 0))) rfl rfl (by kernel_rfl) (by kernel_rfl) (want_none) rfl (fun _ ⟨c282, c203, c202, c201⟩ => q_move rfl) ?_
   rcases Bool.eq_false_or_eq_true (decide ((r_3.length : Int) = 0)) with c_3 | c_3
   ·
    replace hM := hM.1 (of_decide_eq_true c_3)
    refine HA.val (k := 18) (v := .pointer none) rfl rfl (by kernel_rfl) (by kernel_rfl) (want_by rfl rfl c_3) rfl (fun _ ⟨c282, c203, c202, c201⟩ => q_move rfl) ?_
    refine HA.val (k := 19) (v := .agg (e_api_Addr g).toArray) rfl rfl (by kernel_rfl) (by kernel_rfl) (want_by rfl rfl c_3) rfl (fun _ ⟨c282, c203, c202, c201⟩ => q_loadAgg (cs := (e_api_Addr g)) ta_30 rfl rfl (Blk.cells (k := 17) c202 rfl)) ?_
    refine HA.one (k := 20) ⟨⟨(hS.own 0 rfl), (hS.own 1 rfl), (hS.box 2 rfl), (hS.box 3 rfl)⟩, (Go.Wk.at_nil _ _)⟩ (by kernel_rfl) ?_
    refine HS.call rfl (want_by rfl rfl c_3) rfl (ec en_13 rfl rfl) (host_Host_Filter_nil0_walk (fr := (Ow.own 39 26 e_api_Talk vr_1 r_3 :: Ow.own 39 26 e_api_Talk vr0_1 r0_1 :: Ow.box b_2 30 (e_api_Addr g).toArray :: Ow.box b_1 39 (c_api_Talk (.bool q_V6) (.int .i64 q_Version) (.int .i64 q_Kind) (.int .i64 q_Resp) q_Group (.bool q_Quiet) (.int .i64 q_Robust) (.int .i64 q_Every) vq_Sources vq_Records).toArray :: fr)) g hS hM) ?_
    rintro _ h_7 ⟨F_7, r_0_2, r_1_2, vr_1_1, rfl, hk, hS, hM⟩
    replace hK := hK.trans hk
    replace hL_q_Sources := hL_q_Sources.kp hk
    replace hN_q_Records := hN_q_Records.kp hk
    replace hL_q_Records := hL_q_Records.kp hk
    refine HA.one (k := 21) ⟨⟨(hS.own 1 rfl), (hS.own 2 rfl), (hS.box 3 rfl), (hS.box 4 rfl)⟩, (Go.Wk.at_nil _ _)⟩ (by kernel_rfl) ?_
    replace hS : St F_7 (Ow.own 30 17 e_api_Addr vr_1_1 r_1_2 :: Ow.own 39 26 e_api_Talk vr_1 r_3 :: Ow.own 39 26 e_api_Talk vr0_1 r0_1 :: Ow.box b_2 30 (e_api_Addr g).toArray :: Ow.box b_1 39 (c_api_Talk (.bool q_V6) (.int .i64 q_Version) (.int .i64 q_Kind) (.int .i64 q_Resp) q_Group (.bool q_Quiet) (.int .i64 q_Robust) (.int .i64 q_Every) vq_Sources vq_Records).toArray :: fr) h_7 := hS
    have hZ_1 := hS
    have hkz_1 := (hS.freeze).2
    replace hS := hS.freeze.1
    have hL_6 : SliceF (fun bz_ => F_7 bz_ ∨ (Ow.own 30 17 e_api_Addr vr_1_1 r_1_2).foot bz_) h_7 17 e_api_Addr vr_1_1 r_1_2 := ⟨(hZ_1.own 0 rfl).slice, fun _ b hb => .inr hb⟩
    refine HS.call rfl (want_by rfl rfl c_3) rfl (ec en_12 rfl rfl) (ref19_None_walk (fr := (Ow.own 39 26 e_api_Talk vr_1 r_3 :: Ow.own 39 26 e_api_Talk vr0_1 r0_1 :: Ow.box b_2 30 (e_api_Addr g).toArray :: Ow.box b_1 39 (c_api_Talk (.bool q_V6) (.int .i64 q_Version) (.int .i64 q_Kind) (.int .i64 q_Resp) q_Group (.bool q_Quiet) (.int .i64 q_Robust) (.int .i64 q_Every) vq_Sources vq_Records).toArray :: fr)) r_0_2 r_1_2 vr_1_1 hS hL_6 hM) ?_
    rintro _ h_8 ⟨F_8, r_4, rfl, hk, hS, _, hM⟩
    obtain ⟨hS, hk⟩ := hZ_1.back hk hS
    generalize (fun bz_ => F_8 bz_ ∧ ¬ (Ow.own 30 17 e_api_Addr vr_1_1 r_1_2).foot bz_) = F_9 at hS hk
    replace hK := hK.trans hk
    replace hL_q_Sources := hL_q_Sources.kp hk
    replace hN_q_Records := hN_q_Records.kp hk
    replace hL_q_Records := hL_q_Records.kp hk
    refine HA.val (k := 22) (v := .bool r_4) rfl rfl (by kernel_rfl) (by kernel_rfl) (want_none) rfl (fun _ ⟨c282, c203, c202, c201⟩ => q_pickK true rfl c_3 rfl) ?_
    refine HA.val (k := 23) (v := .bool r_4) rfl rfl (by kernel_rfl) (by kernel_rfl) (want_none) rfl (fun _ ⟨c282, c203, c202, c201⟩ => q_move rfl) ?_
    rcases Bool.eq_false_or_eq_true r_4 with c_4 | c_4
    ·
     replace hM := hM.1 c_4
     refine HA.val (k := 24) (v := .pointer none) rfl rfl (by kernel_rfl) (by kernel_rfl) (want_by rfl rfl c_4) rfl (fun _ ⟨c282, c203, c202, c201⟩ => q_move rfl) ?_
     refine HA.one (k := 25) ⟨⟨(hS.own 1 rfl), (hS.own 2 rfl), (hS.box 3 rfl), (hS.box 4 rfl)⟩, (Go.Wk.at_nil _ _)⟩ (by kernel_rfl) ?_
     refine HS.call rfl (want_by rfl rfl c_4) rfl (ec en_14 rfl rfl) (host_Host_Groups_nil0_walk (fr := (Ow.own 30 17 e_api_Addr vr_1_1 r_1_2 :: Ow.own 39 26 e_api_Talk vr_1 r_3 :: Ow.own 39 26 e_api_Talk vr0_1 r0_1 :: Ow.box b_2 30 (e_api_Addr g).toArray :: Ow.box b_1 39 (c_api_Talk (.bool q_V6) (.int .i64 q_Version) (.int .i64 q_Kind) (.int .i64 q_Resp) q_Group (.bool q_Quiet) (.int .i64 q_Robust) (.int .i64 q_Every) vq_Sources vq_Records).toArray :: fr))  hS hM) ?_
     rintro vr_2 h_9 ⟨F_10, r_5, _, rfl, hk, hS, hM⟩
     replace hK := hK.trans hk
     replace hL_q_Sources := hL_q_Sources.kp hk
     replace hN_q_Records := hN_q_Records.kp hk
     replace hL_q_Records := hL_q_Records.kp hk
     refine Go.Wk.HA.re (fun h => (OwnIs h 0 30 17 e_api_Addr vr_2 r_5) ∧ (OwnIs h 0 39 26 e_api_Talk vr_1 r_3) ∧ (OwnIs h 0 39 26 e_api_Talk vr0_1 r0_1) ∧ (Blk h b_2 (.cells (e_api_Addr g).toArray 30 (0, 0))) ∧ (Blk h b_1 (.cells (c_api_Talk (.bool q_V6) (.int .i64 q_Version) (.int .i64 q_Kind) (.int .i64 q_Resp) q_Group (.bool q_Quiet) (.int .i64 q_Robust) (.int .i64 q_Every) vq_Sources vq_Records).toArray 39 (0, 0)))) [] (fun L_ h_ hL_ ⟨c354, c282, c203, c202, c201⟩ hs_ => ⟨⟨c282, c203, c202, c201⟩, (Go.Wk.at_nil _ _)⟩) ?_
     refine HA.val (k := 26) (v := .int .i64 (r_5.length : Int)) rfl rfl (by kernel_rfl) (by kernel_rfl) (want_by rfl rfl c_4) rfl (fun _ ⟨c354, c282, c203, c202, c201⟩ => q_len ts_32 (shp c354.slice) rfl rfl) ?_
     refine HA.val (k := 27) (v := .bool (decide ((r_5.length : Int) = 0))) rfl rfl (by kernel_rfl) (by kernel_rfl) (want_by rfl rfl c_4) rfl (fun _ ⟨c354, c282, c203, c202, c201⟩ => q_eql rfl rfl) ?_
     refine HA.val (k := 28) (v := .bool (decide ((r_5.length : Int) = 0))) rfl rfl (by kernel_rfl) (by kernel_rfl) (want_none) rfl (fun _ ⟨c354, c282, c203, c202, c201⟩ => q_pickK true rfl c_4 rfl) ?_
     refine HA.val (k := 29) (v := .bool (decide ((r_5.length : Int) = 0))) rfl rfl (by kernel_rfl) (by kernel_rfl) (want_none) rfl (fun _ ⟨c354, c282, c203, c202, c201⟩ => q_move rfl) ?_
     rcases Bool.eq_false_or_eq_true (decide ((r_5.length : Int) = 0)) with c_5 | c_5
     ·
      replace hM := hM.1 (of_decide_eq_true c_5)
      refine HA.val (k := 30) (v := .pointer none) rfl rfl (by kernel_rfl) (by kernel_rfl) (want_by rfl rfl c_5) rfl (fun _ ⟨c354, c282, c203, c202, c201⟩ => q_move rfl) ?_
      refine HA.val (k := 31) (v := .int .i64 now) rfl rfl (by kernel_rfl) (by kernel_rfl) (want_by rfl rfl c_5) rfl (fun _ ⟨c354, c282, c203, c202, c201⟩ => q_move rfl) ?_
      refine HA.one (k := 32) ⟨⟨(hS.own 0 rfl), (hS.own 2 rfl), (hS.own 3 rfl), (hS.box 4 rfl), (hS.box 5 rfl)⟩, (Go.Wk.at_nil _ _)⟩ (by kernel_rfl) ?_
      refine HS.call rfl (want_by rfl rfl c_5) rfl (ec en_15 rfl rfl) (host_Host_Mode_nil0_walk (fr := (Ow.own 30 17 e_api_Addr vr_2 r_5 :: Ow.own 30 17 e_api_Addr vr_1_1 r_1_2 :: Ow.own 39 26 e_api_Talk vr_1 r_3 :: Ow.own 39 26 e_api_Talk vr0_1 r0_1 :: Ow.box b_2 30 (e_api_Addr g).toArray :: Ow.box b_1 39 (c_api_Talk (.bool q_V6) (.int .i64 q_Version) (.int .i64 q_Kind) (.int .i64 q_Resp) q_Group (.bool q_Quiet) (.int .i64 q_Robust) (.int .i64 q_Every) vq_Sources vq_Records).toArray :: fr)) now hS hM) ?_
      rintro _ h_10 ⟨F_11, r_6, rfl, hk, hS, hM⟩
      replace hK := hK.trans hk
      replace hL_q_Sources := hL_q_Sources.kp hk
      replace hN_q_Records := hN_q_Records.kp hk
      replace hL_q_Records := hL_q_Records.kp hk
      refine HA.val (k := 33) (v := .bool (decide (r_6 = 3))) rfl rfl (by kernel_rfl) (by kernel_rfl) (want_by rfl rfl c_5) rfl (fun _ ⟨c354, c282, c203, c202, c201⟩ => q_eql rfl rfl) ?_
      refine HA.val (k := 34) (v := .bool (decide (r_6 = 3))) rfl rfl (by kernel_rfl) (by kernel_rfl) (want_none) rfl (fun _ ⟨c354, c282, c203, c202, c201⟩ => q_pickK true rfl c_5 rfl) ?_
      refine HA.val (k := 35) (v := .bool (decide (r_6 = 3))) rfl rfl (by kernel_rfl) (by kernel_rfl) (want_none) rfl (fun _ ⟨c354, c282, c203, c202, c201⟩ => q_move rfl) ?_
      rcases Bool.eq_false_or_eq_true (decide (r_6 = 3)) with c_6 | c_6
      ·
       replace hM := hM.1 (of_decide_eq_true c_6)
       refine HA.one (k := 36) ⟨⟨(hS.own 0 rfl), (hS.own 2 rfl), (hS.own 3 rfl), (hS.box 4 rfl), (hS.box 5 rfl)⟩, (Go.Wk.at_nil _ _)⟩ (by kernel_rfl) ?_
       refine HS.call rfl (want_by rfl rfl c_6) rfl (ec en_8 rfl rfl) (law20_lives_walk (fr := (Ow.own 30 17 e_api_Addr vr_2 r_5 :: Ow.own 30 17 e_api_Addr vr_1_1 r_1_2 :: Ow.own 39 26 e_api_Talk vr_1 r_3 :: Ow.own 39 26 e_api_Talk vr0_1 r0_1 :: Ow.box b_2 30 (e_api_Addr g).toArray :: Ow.box b_1 39 (c_api_Talk (.bool q_V6) (.int .i64 q_Version) (.int .i64 q_Kind) (.int .i64 q_Resp) q_Group (.bool q_Quiet) (.int .i64 q_Robust) (.int .i64 q_Every) vq_Sources vq_Records).toArray :: fr))  hS hM) ?_
       rintro _ h_11 ⟨F_12, r_7, rfl, hk, hS, hM⟩
       replace hK := hK.trans hk
       replace hL_q_Sources := hL_q_Sources.kp hk
       replace hN_q_Records := hN_q_Records.kp hk
       replace hL_q_Records := hL_q_Records.kp hk
       refine HA.val (k := 37) (v := .bool r_7) rfl rfl (by kernel_rfl) (by kernel_rfl) (want_none) rfl (fun _ ⟨c354, c282, c203, c202, c201⟩ => q_pickK true rfl c_6 rfl) ?_
       refine HA.val (k := 38) (v := .bool r_7) rfl rfl (by kernel_rfl) (by kernel_rfl) (want_none) rfl (fun _ ⟨c354, c282, c203, c202, c201⟩ => q_assign rfl) ?_
       refine HA.nil ⟨⟨(hS.own 0 rfl), (hS.own 2 rfl), (hS.own 3 rfl), (hS.box 4 rfl), (hS.box 5 rfl)⟩, (Go.Wk.at_nil _ _)⟩ (by kernel_rfl) (thenQ_normal (?_))
       refine HW.ret (?_)
       refine ⟨.inr rfl, .bool r_7, res1 rfl (rt rfl), ?_⟩
       replace hS : St F_12 (fr) h_11 := hS.perm2 [] 6 rfl rfl
       exact ⟨F_12, r_7, rfl, hK, hS, hL_q_Sources, hN_q_Records, hL_q_Records, hM⟩
      ·
       replace hM := hM.2 (of_decide_eq_false c_6)
       refine HA.one (k := 36) ⟨⟨(hS.own 0 rfl), (hS.own 2 rfl), (hS.own 3 rfl), (hS.box 4 rfl), (hS.box 5 rfl)⟩, (Go.Wk.at_nil _ _)⟩ (by kernel_rfl) ?_
       refine HS.past rfl (past_by rfl rfl c_6) rfl ?_
       refine HA.val (k := 37) (v := .bool false) rfl rfl (by kernel_rfl) (by kernel_rfl) (want_none) rfl (fun _ ⟨c354, c282, c203, c202, c201⟩ => q_pickK false rfl c_6 rfl) ?_
       refine HA.val (k := 38) (v := .bool false) rfl rfl (by kernel_rfl) (by kernel_rfl) (want_none) rfl (fun _ ⟨c354, c282, c203, c202, c201⟩ => q_assign rfl) ?_
       refine HA.nil ⟨⟨(hS.own 0 rfl), (hS.own 2 rfl), (hS.own 3 rfl), (hS.box 4 rfl), (hS.box 5 rfl)⟩, (Go.Wk.at_nil _ _)⟩ (by kernel_rfl) (thenQ_normal (?_))
       refine HW.ret (?_)
       refine ⟨.inr rfl, .bool false, res1 rfl (rt rfl), ?_⟩
       replace hS : St F_11 (fr) h_10 := hS.perm2 [] 6 rfl rfl
       exact ⟨F_11, false, rfl, hK, hS, hL_q_Sources, hN_q_Records, hL_q_Records, hM⟩
     ·
      replace hM := hM.2 (of_decide_eq_false c_5)
      refine HA.past (k := 30) rfl rfl (by kernel_rfl) (by kernel_rfl) (past_by rfl rfl c_5) rfl ?_
      refine HA.past (k := 31) rfl rfl (by kernel_rfl) (by kernel_rfl) (past_by rfl rfl c_5) rfl ?_
      refine HA.one (k := 32) ⟨⟨(hS.own 0 rfl), (hS.own 2 rfl), (hS.own 3 rfl), (hS.box 4 rfl), (hS.box 5 rfl)⟩, (Go.Wk.at_nil _ _)⟩ (by kernel_rfl) ?_
      refine HS.past rfl (past_by rfl rfl c_5) rfl ?_
      refine HA.past (k := 33) rfl rfl (by kernel_rfl) (by kernel_rfl) (past_by rfl rfl c_5) rfl ?_
      refine HA.val (k := 34) (v := .bool false) rfl rfl (by kernel_rfl) (by kernel_rfl) (want_none) rfl (fun _ ⟨c354, c282, c203, c202, c201⟩ => q_pickK false rfl c_5 rfl) ?_
      refine HA.val (k := 35) (v := .bool false) rfl rfl (by kernel_rfl) (by kernel_rfl) (want_none) rfl (fun _ ⟨c354, c282, c203, c202, c201⟩ => q_move rfl) ?_
      refine HA.one (k := 36) ⟨⟨(hS.own 0 rfl), (hS.own 2 rfl), (hS.own 3 rfl), (hS.box 4 rfl), (hS.box 5 rfl)⟩, (Go.Wk.at_nil _ _)⟩ (by kernel_rfl) ?_
      refine HS.past rfl (past_some rfl rfl) rfl ?_
      refine HA.val (k := 37) (v := .bool false) rfl rfl (by kernel_rfl) (by kernel_rfl) (want_none) rfl (fun _ ⟨c354, c282, c203, c202, c201⟩ => q_pick rfl rfl) ?_
      refine HA.val (k := 38) (v := .bool false) rfl rfl (by kernel_rfl) (by kernel_rfl) (want_none) rfl (fun _ ⟨c354, c282, c203, c202, c201⟩ => q_assign rfl) ?_
      refine HA.nil ⟨⟨(hS.own 0 rfl), (hS.own 2 rfl), (hS.own 3 rfl), (hS.box 4 rfl), (hS.box 5 rfl)⟩, (Go.Wk.at_nil _ _)⟩ (by kernel_rfl) (thenQ_normal (?_))
      refine HW.ret (?_)
      refine ⟨.inr rfl, .bool false, res1 rfl (rt rfl), ?_⟩
      replace hS : St F_10 (fr) h_9 := hS.perm2 [] 6 rfl rfl
      exact ⟨F_10, false, rfl, hK, hS, hL_q_Sources, hN_q_Records, hL_q_Records, hM⟩
    ·
     replace hM := hM.2 c_4
     refine HA.past (k := 24) rfl rfl (by kernel_rfl) (by kernel_rfl) (past_by rfl rfl c_4) rfl ?_
     refine HA.one (k := 25) ⟨⟨(hS.own 1 rfl), (hS.own 2 rfl), (hS.box 3 rfl), (hS.box 4 rfl)⟩, (Go.Wk.at_nil _ _)⟩ (by kernel_rfl) ?_
     refine HS.past rfl (past_by rfl rfl c_4) rfl ?_
     refine HA.past (k := 26) rfl rfl (by kernel_rfl) (by kernel_rfl) (past_by rfl rfl c_4) rfl ?_
     refine HA.past (k := 27) rfl rfl (by kernel_rfl) (by kernel_rfl) (past_by rfl rfl c_4) rfl ?_
     refine HA.val (k := 28) (v := .bool false) rfl rfl (by kernel_rfl) (by kernel_rfl) (want_none) rfl (fun _ ⟨c282, c203, c202, c201⟩ => q_pickK false rfl c_4 rfl) ?_
     refine HA.val (k := 29) (v := .bool false) rfl rfl (by kernel_rfl) (by kernel_rfl) (want_none) rfl (fun _ ⟨c282, c203, c202, c201⟩ => q_move rfl) ?_
     refine HA.past (k := 30) rfl rfl (by kernel_rfl) (by kernel_rfl) (past_some rfl rfl) rfl ?_
     refine HA.past (k := 31) rfl rfl (by kernel_rfl) (by kernel_rfl) (past_some rfl rfl) rfl ?_
     refine HA.one (k := 32) ⟨⟨(hS.own 1 rfl), (hS.own 2 rfl), (hS.box 3 rfl), (hS.box 4 rfl)⟩, (Go.Wk.at_nil _ _)⟩ (by kernel_rfl) ?_
     refine HS.past rfl (past_some rfl rfl) rfl ?_
     refine HA.past (k := 33) rfl rfl (by kernel_rfl) (by kernel_rfl) (past_some rfl rfl) rfl ?_
     refine HA.val (k := 34) (v := .bool false) rfl rfl (by kernel_rfl) (by kernel_rfl) (want_none) rfl (fun _ ⟨c282, c203, c202, c201⟩ => q_pick rfl rfl) ?_
     refine HA.val (k := 35) (v := .bool false) rfl rfl (by kernel_rfl) (by kernel_rfl) (want_none) rfl (fun _ ⟨c282, c203, c202, c201⟩ => q_move rfl) ?_
     refine HA.one (k := 36) ⟨⟨(hS.own 1 rfl), (hS.own 2 rfl), (hS.box 3 rfl), (hS.box 4 rfl)⟩, (Go.Wk.at_nil _ _)⟩ (by kernel_rfl) ?_
     refine HS.past rfl (past_some rfl rfl) rfl ?_
     refine HA.val (k := 37) (v := .bool false) rfl rfl (by kernel_rfl) (by kernel_rfl) (want_none) rfl (fun _ ⟨c282, c203, c202, c201⟩ => q_pick rfl rfl) ?_
     refine HA.val (k := 38) (v := .bool false) rfl rfl (by kernel_rfl) (by kernel_rfl) (want_none) rfl (fun _ ⟨c282, c203, c202, c201⟩ => q_assign rfl) ?_
     refine HA.nil ⟨⟨(hS.own 1 rfl), (hS.own 2 rfl), (hS.box 3 rfl), (hS.box 4 rfl)⟩, (Go.Wk.at_nil _ _)⟩ (by kernel_rfl) (thenQ_normal (?_))
     refine HW.ret (?_)
     refine ⟨.inr rfl, .bool false, res1 rfl (rt rfl), ?_⟩
     replace hS : St F_9 (fr) h_8 := hS.perm2 [] 5 rfl rfl
     exact ⟨F_9, false, rfl, hK, hS, hL_q_Sources, hN_q_Records, hL_q_Records, hM⟩
   ·
    replace hM := hM.2 (of_decide_eq_false c_3)
    refine HA.past (k := 18) rfl rfl (by kernel_rfl) (by kernel_rfl) (past_by rfl rfl c_3) rfl ?_
    refine HA.past (k := 19) rfl rfl (by kernel_rfl) (by kernel_rfl) (past_by rfl rfl c_3) rfl ?_
    refine HA.one (k := 20) ⟨⟨(hS.own 0 rfl), (hS.own 1 rfl), (hS.box 2 rfl), (hS.box 3 rfl)⟩, (Go.Wk.at_nil _ _)⟩ (by kernel_rfl) ?_
    refine HS.past rfl (past_by rfl rfl c_3) rfl ?_
    refine HA.one (k := 21) ⟨⟨(hS.own 0 rfl), (hS.own 1 rfl), (hS.box 2 rfl), (hS.box 3 rfl)⟩, (Go.Wk.at_nil _ _)⟩ (by kernel_rfl) ?_
    refine HS.past rfl (past_by rfl rfl c_3) rfl ?_
    refine HA.val (k := 22) (v := .bool false) rfl rfl (by kernel_rfl) (by kernel_rfl) (want_none) rfl (fun _ ⟨c282, c203, c202, c201⟩ => q_pickK false rfl c_3 rfl) ?_
    refine HA.val (k := 23) (v := .bool false) rfl rfl (by kernel_rfl) (by kernel_rfl) (want_none) rfl (fun _ ⟨c282, c203, c202, c201⟩ => q_move rfl) ?_
    refine HA.past (k := 24) rfl rfl (by kernel_rfl) (by kernel_rfl) (past_some rfl rfl) rfl ?_
    refine HA.one (k := 25) ⟨⟨(hS.own 0 rfl), (hS.own 1 rfl), (hS.box 2 rfl), (hS.box 3 rfl)⟩, (Go.Wk.at_nil _ _)⟩ (by kernel_rfl) ?_
    refine HS.past rfl (past_some rfl rfl) rfl ?_
    refine HA.past (k := 26) rfl rfl (by kernel_rfl) (by kernel_rfl) (past_some rfl rfl) rfl ?_
    refine HA.past (k := 27) rfl rfl (by kernel_rfl) (by kernel_rfl) (past_some rfl rfl) rfl ?_
    refine HA.val (k := 28) (v := .bool false) rfl rfl (by kernel_rfl) (by kernel_rfl) (want_none) rfl (fun _ ⟨c282, c203, c202, c201⟩ => q_pick rfl rfl) ?_
    refine HA.val (k := 29) (v := .bool false) rfl rfl (by kernel_rfl) (by kernel_rfl) (want_none) rfl (fun _ ⟨c282, c203, c202, c201⟩ => q_move rfl) ?_
    refine HA.past (k := 30) rfl rfl (by kernel_rfl) (by kernel_rfl) (past_some rfl rfl) rfl ?_
    refine HA.past (k := 31) rfl rfl (by kernel_rfl) (by kernel_rfl) (past_some rfl rfl) rfl ?_
    refine HA.one (k := 32) ⟨⟨(hS.own 0 rfl), (hS.own 1 rfl), (hS.box 2 rfl), (hS.box 3 rfl)⟩, (Go.Wk.at_nil _ _)⟩ (by kernel_rfl) ?_
    refine HS.past rfl (past_some rfl rfl) rfl ?_
    refine HA.past (k := 33) rfl rfl (by kernel_rfl) (by kernel_rfl) (past_some rfl rfl) rfl ?_
    refine HA.val (k := 34) (v := .bool false) rfl rfl (by kernel_rfl) (by kernel_rfl) (want_none) rfl (fun _ ⟨c282, c203, c202, c201⟩ => q_pick rfl rfl) ?_
    refine HA.val (k := 35) (v := .bool false) rfl rfl (by kernel_rfl) (by kernel_rfl) (want_none) rfl (fun _ ⟨c282, c203, c202, c201⟩ => q_move rfl) ?_
    refine HA.one (k := 36) ⟨⟨(hS.own 0 rfl), (hS.own 1 rfl), (hS.box 2 rfl), (hS.box 3 rfl)⟩, (Go.Wk.at_nil _ _)⟩ (by kernel_rfl) ?_
    refine HS.past rfl (past_some rfl rfl) rfl ?_
    refine HA.val (k := 37) (v := .bool false) rfl rfl (by kernel_rfl) (by kernel_rfl) (want_none) rfl (fun _ ⟨c282, c203, c202, c201⟩ => q_pick rfl rfl) ?_
    refine HA.val (k := 38) (v := .bool false) rfl rfl (by kernel_rfl) (by kernel_rfl) (want_none) rfl (fun _ ⟨c282, c203, c202, c201⟩ => q_assign rfl) ?_
    refine HA.nil ⟨⟨(hS.own 0 rfl), (hS.own 1 rfl), (hS.box 2 rfl), (hS.box 3 rfl)⟩, (Go.Wk.at_nil _ _)⟩ (by kernel_rfl) (thenQ_normal (?_))
    refine HW.ret (?_)
    refine ⟨.inr rfl, .bool false, res1 rfl (rt rfl), ?_⟩
    replace hS : St F_6 (fr) h_6 := hS.perm2 [] 4 rfl rfl
    exact ⟨F_6, false, rfl, hK, hS, hL_q_Sources, hN_q_Records, hL_q_Records, hM⟩
  ·
   replace hM := hM.2 (of_decide_eq_false c_2)
   refine HA.past (k := 8) rfl rfl (by kernel_rfl) (by kernel_rfl) (past_by rfl rfl c_2) rfl ?_
   refine HA.past (k := 9) rfl rfl (by kernel_rfl) (by kernel_rfl) (past_by rfl rfl c_2) rfl ?_
   refine HA.past (k := 11) rfl rfl (by kernel_rfl) (by kernel_rfl) (past_by rfl rfl c_2) rfl ?_
   refine HA.one (k := 10) ⟨⟨(hS.own 0 rfl), (hS.box 1 rfl), (hS.box 2 rfl)⟩, (Go.Wk.at_nil _ _)⟩ (by kernel_rfl) ?_
   refine HS.past rfl (past_by rfl rfl c_2) rfl ?_
   refine HA.one (k := 12) ⟨⟨(hS.own 0 rfl), (hS.box 1 rfl), (hS.box 2 rfl)⟩, (Go.Wk.at_nil _ _)⟩ (by kernel_rfl) ?_
   refine HS.past rfl (past_by rfl rfl c_2) rfl ?_
   refine HA.one (k := 13) ⟨⟨(hS.own 0 rfl), (hS.box 1 rfl), (hS.box 2 rfl)⟩, (Go.Wk.at_nil _ _)⟩ (by kernel_rfl) ?_
   refine HS.past rfl (past_by rfl rfl c_2) rfl ?_
   refine HA.past (k := 14) rfl rfl (by kernel_rfl) (by kernel_rfl) (past_by rfl rfl c_2) rfl ?_
   refine HA.past (k := 15) rfl rfl (by kernel_rfl) (by kernel_rfl) (past_by rfl rfl c_2) rfl ?_
   refine HA.val (k := 16) (v := .bool false) rfl rfl (by kernel_rfl) (by kernel_rfl) (want_none) rfl (fun _ ⟨c203, c202, c201⟩ => q_pickK false rfl c_2 rfl) ?_
   refine HA.val (k := 17) (v := .bool false) rfl rfl (by kernel_rfl) (by kernel_rfl) (want_none) rfl (fun _ ⟨c203, c202, c201⟩ => q_move rfl) ?_
   refine HA.past (k := 18) rfl rfl (by kernel_rfl) (by kernel_rfl) (past_some rfl rfl) rfl ?_
   refine HA.past (k := 19) rfl rfl (by kernel_rfl) (by kernel_rfl) (past_some rfl rfl) rfl ?_
   refine HA.one (k := 20) ⟨⟨(hS.own 0 rfl), (hS.box 1 rfl), (hS.box 2 rfl)⟩, (Go.Wk.at_nil _ _)⟩ (by kernel_rfl) ?_
   refine HS.past rfl (past_some rfl rfl) rfl ?_
   refine HA.one (k := 21) ⟨⟨(hS.own 0 rfl), (hS.box 1 rfl), (hS.box 2 rfl)⟩, (Go.Wk.at_nil _ _)⟩ (by kernel_rfl) ?_
   refine HS.past rfl (past_some rfl rfl) rfl ?_
   refine HA.val (k := 22) (v := .bool false) rfl rfl (by kernel_rfl) (by kernel_rfl) (want_none) rfl (fun _ ⟨c203, c202, c201⟩ => q_pick rfl rfl) ?_
   refine HA.val (k := 23) (v := .bool false) rfl rfl (by kernel_rfl) (by kernel_rfl) (want_none) rfl (fun _ ⟨c203, c202, c201⟩ => q_move rfl) ?_
   refine HA.past (k := 24) rfl rfl (by kernel_rfl) (by kernel_rfl) (past_some rfl rfl) rfl ?_
   refine HA.one (k := 25) ⟨⟨(hS.own 0 rfl), (hS.box 1 rfl), (hS.box 2 rfl)⟩, (Go.Wk.at_nil _ _)⟩ (by kernel_rfl) ?_
   refine HS.past rfl (past_some rfl rfl) rfl ?_
   refine HA.past (k := 26) rfl rfl (by kernel_rfl) (by kernel_rfl) (past_some rfl rfl) rfl ?_
   refine HA.past (k := 27) rfl rfl (by kernel_rfl) (by kernel_rfl) (past_some rfl rfl) rfl ?_
   refine HA.val (k := 28) (v := .bool false) rfl rfl (by kernel_rfl) (by kernel_rfl) (want_none) rfl (fun _ ⟨c203, c202, c201⟩ => q_pick rfl rfl) ?_
   refine HA.val (k := 29) (v := .bool false) rfl rfl (by kernel_rfl) (by kernel_rfl) (want_none) rfl (fun _ ⟨c203, c202, c201⟩ => q_move rfl) ?_
   refine HA.past (k := 30) rfl rfl (by kernel_rfl) (by kernel_rfl) (past_some rfl rfl) rfl ?_
   refine HA.past (k := 31) rfl rfl (by kernel_rfl) (by kernel_rfl) (past_some rfl rfl) rfl ?_
   refine HA.one (k := 32) ⟨⟨(hS.own 0 rfl), (hS.box 1 rfl), (hS.box 2 rfl)⟩, (Go.Wk.at_nil _ _)⟩ (by kernel_rfl) ?_
   refine HS.past rfl (past_some rfl rfl) rfl ?_
   refine HA.past (k := 33) rfl rfl (by kernel_rfl) (by kernel_rfl) (past_some rfl rfl) rfl ?_
   refine HA.val (k := 34) (v := .bool false) rfl rfl (by kernel_rfl) (by kernel_rfl) (want_none) rfl (fun _ ⟨c203, c202, c201⟩ => q_pick rfl rfl) ?_
   refine HA.val (k := 35) (v := .bool false) rfl rfl (by kernel_rfl) (by kernel_rfl) (want_none) rfl (fun _ ⟨c203, c202, c201⟩ => q_move rfl) ?_
   refine HA.one (k := 36) ⟨⟨(hS.own 0 rfl), (hS.box 1 rfl), (hS.box 2 rfl)⟩, (Go.Wk.at_nil _ _)⟩ (by kernel_rfl) ?_
   refine HS.past rfl (past_some rfl rfl) rfl ?_
   refine HA.val (k := 37) (v := .bool false) rfl rfl (by kernel_rfl) (by kernel_rfl) (want_none) rfl (fun _ ⟨c203, c202, c201⟩ => q_pick rfl rfl) ?_
   refine HA.val (k := 38) (v := .bool false) rfl rfl (by kernel_rfl) (by kernel_rfl) (want_none) rfl (fun _ ⟨c203, c202, c201⟩ => q_assign rfl) ?_
   refine HA.nil ⟨⟨(hS.own 0 rfl), (hS.box 1 rfl), (hS.box 2 rfl)⟩, (Go.Wk.at_nil _ _)⟩ (by kernel_rfl) (thenQ_normal (?_))
   refine HW.ret (?_)
   refine ⟨.inr rfl, .bool false, res1 rfl (rt rfl), ?_⟩
   replace hS : St F_1 (fr) h_3 := hS.perm2 [] 3 rfl rfl
   exact ⟨F_1, false, rfl, hK, hS, hL_q_Sources, hN_q_Records, hL_q_Records, hM⟩
 ·
  replace hM := hM.2 (of_decide_eq_false c_1)
  refine HA.past (k := 4) rfl rfl (by kernel_rfl) (by kernel_rfl) (past_by rfl rfl c_1) rfl ?_
  refine HA.past (k := 5) rfl rfl (by kernel_rfl) (by kernel_rfl) (past_by rfl rfl c_1) rfl ?_
  refine HA.val (k := 6) (v := .bool false) rfl rfl (by kernel_rfl) (by kernel_rfl) (want_none) rfl (fun _ ⟨c203, c202, c201⟩ => q_pickK false rfl c_1 rfl) ?_
  refine HA.val (k := 7) (v := .bool false) rfl rfl (by kernel_rfl) (by kernel_rfl) (want_none) rfl (fun _ ⟨c203, c202, c201⟩ => q_move rfl) ?_
  refine HA.past (k := 8) rfl rfl (by kernel_rfl) (by kernel_rfl) (past_some rfl rfl) rfl ?_
  refine HA.past (k := 9) rfl rfl (by kernel_rfl) (by kernel_rfl) (past_some rfl rfl) rfl ?_
  refine HA.past (k := 11) rfl rfl (by kernel_rfl) (by kernel_rfl) (past_some rfl rfl) rfl ?_
  refine HA.one (k := 10) ⟨⟨(hS.own 0 rfl), (hS.box 1 rfl), (hS.box 2 rfl)⟩, (Go.Wk.at_nil _ _)⟩ (by kernel_rfl) ?_
  refine HS.past rfl (past_some rfl rfl) rfl ?_
  refine HA.one (k := 12) ⟨⟨(hS.own 0 rfl), (hS.box 1 rfl), (hS.box 2 rfl)⟩, (Go.Wk.at_nil _ _)⟩ (by kernel_rfl) ?_
  refine HS.past rfl (past_some rfl rfl) rfl ?_
  refine HA.one (k := 13) ⟨⟨(hS.own 0 rfl), (hS.box 1 rfl), (hS.box 2 rfl)⟩, (Go.Wk.at_nil _ _)⟩ (by kernel_rfl) ?_
  refine HS.past rfl (past_some rfl rfl) rfl ?_
  refine HA.past (k := 14) rfl rfl (by kernel_rfl) (by kernel_rfl) (past_some rfl rfl) rfl ?_
  refine HA.past (k := 15) rfl rfl (by kernel_rfl) (by kernel_rfl) (past_some rfl rfl) rfl ?_
  refine HA.val (k := 16) (v := .bool false) rfl rfl (by kernel_rfl) (by kernel_rfl) (want_none) rfl (fun _ ⟨c203, c202, c201⟩ => q_pick rfl rfl) ?_
  refine HA.val (k := 17) (v := .bool false) rfl rfl (by kernel_rfl) (by kernel_rfl) (want_none) rfl (fun _ ⟨c203, c202, c201⟩ => q_move rfl) ?_
  refine HA.past (k := 18) rfl rfl (by kernel_rfl) (by kernel_rfl) (past_some rfl rfl) rfl ?_
  refine HA.past (k := 19) rfl rfl (by kernel_rfl) (by kernel_rfl) (past_some rfl rfl) rfl ?_
  refine HA.one (k := 20) ⟨⟨(hS.own 0 rfl), (hS.box 1 rfl), (hS.box 2 rfl)⟩, (Go.Wk.at_nil _ _)⟩ (by kernel_rfl) ?_
  refine HS.past rfl (past_some rfl rfl) rfl ?_
  refine HA.one (k := 21) ⟨⟨(hS.own 0 rfl), (hS.box 1 rfl), (hS.box 2 rfl)⟩, (Go.Wk.at_nil _ _)⟩ (by kernel_rfl) ?_
  refine HS.past rfl (past_some rfl rfl) rfl ?_
  refine HA.val (k := 22) (v := .bool false) rfl rfl (by kernel_rfl) (by kernel_rfl) (want_none) rfl (fun _ ⟨c203, c202, c201⟩ => q_pick rfl rfl) ?_
  refine HA.val (k := 23) (v := .bool false) rfl rfl (by kernel_rfl) (by kernel_rfl) (want_none) rfl (fun _ ⟨c203, c202, c201⟩ => q_move rfl) ?_
  refine HA.past (k := 24) rfl rfl (by kernel_rfl) (by kernel_rfl) (past_some rfl rfl) rfl ?_
  refine HA.one (k := 25) ⟨⟨(hS.own 0 rfl), (hS.box 1 rfl), (hS.box 2 rfl)⟩, (Go.Wk.at_nil _ _)⟩ (by kernel_rfl) ?_
  refine HS.past rfl (past_some rfl rfl) rfl ?_
  refine HA.past (k := 26) rfl rfl (by kernel_rfl) (by kernel_rfl) (past_some rfl rfl) rfl ?_
  refine HA.past (k := 27) rfl rfl (by kernel_rfl) (by kernel_rfl) (past_some rfl rfl) rfl ?_
  refine HA.val (k := 28) (v := .bool false) rfl rfl (by kernel_rfl) (by kernel_rfl) (want_none) rfl (fun _ ⟨c203, c202, c201⟩ => q_pick rfl rfl) ?_
  refine HA.val (k := 29) (v := .bool false) rfl rfl (by kernel_rfl) (by kernel_rfl) (want_none) rfl (fun _ ⟨c203, c202, c201⟩ => q_move rfl) ?_
  refine HA.past (k := 30) rfl rfl (by kernel_rfl) (by kernel_rfl) (past_some rfl rfl) rfl ?_
  refine HA.past (k := 31) rfl rfl (by kernel_rfl) (by kernel_rfl) (past_some rfl rfl) rfl ?_
  refine HA.one (k := 32) ⟨⟨(hS.own 0 rfl), (hS.box 1 rfl), (hS.box 2 rfl)⟩, (Go.Wk.at_nil _ _)⟩ (by kernel_rfl) ?_
  refine HS.past rfl (past_some rfl rfl) rfl ?_
  refine HA.past (k := 33) rfl rfl (by kernel_rfl) (by kernel_rfl) (past_some rfl rfl) rfl ?_
  refine HA.val (k := 34) (v := .bool false) rfl rfl (by kernel_rfl) (by kernel_rfl) (want_none) rfl (fun _ ⟨c203, c202, c201⟩ => q_pick rfl rfl) ?_
  refine HA.val (k := 35) (v := .bool false) rfl rfl (by kernel_rfl) (by kernel_rfl) (want_none) rfl (fun _ ⟨c203, c202, c201⟩ => q_move rfl) ?_
  refine HA.one (k := 36) ⟨⟨(hS.own 0 rfl), (hS.box 1 rfl), (hS.box 2 rfl)⟩, (Go.Wk.at_nil _ _)⟩ (by kernel_rfl) ?_
  refine HS.past rfl (past_some rfl rfl) rfl ?_
  refine HA.val (k := 37) (v := .bool false) rfl rfl (by kernel_rfl) (by kernel_rfl) (want_none) rfl (fun _ ⟨c203, c202, c201⟩ => q_pick rfl rfl) ?_
  refine HA.val (k := 38) (v := .bool false) rfl rfl (by kernel_rfl) (by kernel_rfl) (want_none) rfl (fun _ ⟨c203, c202, c201⟩ => q_assign rfl) ?_
  refine HA.nil ⟨⟨(hS.own 0 rfl), (hS.box 1 rfl), (hS.box 2 rfl)⟩, (Go.Wk.at_nil _ _)⟩ (by kernel_rfl) (thenQ_normal (?_))
  refine HW.ret (?_)
  refine ⟨.inr rfl, .bool false, res1 rfl (rt rfl), ?_⟩
  replace hS : St F_1 (fr) h_3 := hS.perm2 [] 3 rfl rfl
  exact ⟨F_1, false, rfl, hK, hS, hL_q_Sources, hN_q_Records, hL_q_Records, hM⟩
end Go.Wk
