/- Walks of Host and Proxy. -/
import Derived.Test.YtmbkoonblmfdpaaGreatHzW2
set_option linter.unusedSimpArgs false
set_option linter.unusedVariables false
set_option linter.unusedSectionVars false
set_option maxHeartbeats 40000000
set_option maxRecDepth 100000
namespace Go.Wk
open Go.HL
open Go.Proofs hiding encI
variable [DM]
def srcs_walk_api_Addr_l3 (second : Bool) (Q : (List T_api_Addr) → Prop) (b_2 : List T_api_Addr) (K_3 : (List T_api_Addr) → Int → Prop) (out_0_3 : List T_api_Addr) (n_2 : Int) : Prop :=
 (n_2 < (b_2.length : Int) → ((0 : Int) ≤ n_2 ∧ n_2 < (b_2.length : Int)) ∧ (srcs_walk_1_api_Addr_W (gi b_2 n_2) second out_0_3 (fun a2_0_5 => (I64 (n_2 + 1)) ∧ (K_3 a2_0_5 (n_2 + 1))))) ∧ (¬ (n_2 < (b_2.length : Int)) → Q out_0_3)
def srcs_walk_api_Addr_l2 (first : Bool) (second : Bool) (Q : (List T_api_Addr) → Prop) (a_1 : List T_api_Addr) (b_2 : List T_api_Addr) (K_2 : (List T_api_Addr) → Int → Prop) (out_0_2 : List T_api_Addr) (n_1 : Int) : Prop :=
 (n_1 < (a_1.length : Int) → ((0 : Int) ≤ n_1 ∧ n_1 < (a_1.length : Int)) ∧ (srcs_walk_1_api_Addr_W (gi a_1 n_1) first out_0_2 (fun a2_0_4 => (I64 (n_1 + 1)) ∧ (K_2 a2_0_4 (n_1 + 1))))) ∧ (¬ (n_1 < (a_1.length : Int)) → loopW (fun (K_3 : (List T_api_Addr × Int) → Prop) (s : List T_api_Addr × Int) => srcs_walk_api_Addr_l3 second Q b_2 (fun out_0_3 n_2 => K_3 (out_0_3, n_2)) s.1 s.2) (out_0_2, 0))
def srcs_walk_api_Addr_j1 (cf_order : T_api_Addr → T_api_Addr → Int) (first : Bool) (both : Bool) (second : Bool) (Q : (List T_api_Addr) → Prop) (a_1 : List T_api_Addr) (b_2 : List T_api_Addr) (out_0_1 : List T_api_Addr) (K_1 : (List T_api_Addr) → (List T_api_Addr) → (List T_api_Addr) → Prop) (b_3 : Bool) : Prop :=
 (b_3 = true → ((0 : Int) ≤ 0 ∧ 0 < (a_1.length : Int)) ∧ (((0 : Int) ≤ 0 ∧ 0 < (b_2.length : Int)) ∧ (((cf_order (gi a_1 0) (gi b_2 0)) < 0 → srcs_walk_1_api_Addr_W (gi a_1 0) first out_0_1 (fun a2_0_1 => ((0 : Int) ≤ 1 ∧ 1 ≤ (a_1.length : Int)) ∧ (K_1 (cut a_1 1 (a_1.length : Int)) b_2 a2_0_1))) ∧ (¬ ((cf_order (gi a_1 0) (gi b_2 0)) < 0) → (0 < (cf_order (gi a_1 0) (gi b_2 0)) → srcs_walk_1_api_Addr_W (gi b_2 0) second out_0_1 (fun a2_0_2 => ((0 : Int) ≤ 1 ∧ 1 ≤ (b_2.length : Int)) ∧ (K_1 a_1 (cut b_2 1 (b_2.length : Int)) a2_0_2))) ∧ (¬ (0 < (cf_order (gi a_1 0) (gi b_2 0))) → srcs_walk_1_api_Addr_W (gi a_1 0) both out_0_1 (fun a2_0_3 => ((0 : Int) ≤ 1 ∧ 1 ≤ (a_1.length : Int)) ∧ (((0 : Int) ≤ 1 ∧ 1 ≤ (b_2.length : Int)) ∧ (K_1 (cut a_1 1 (a_1.length : Int)) (cut b_2 1 (b_2.length : Int)) a2_0_3)))))))) ∧ (b_3 = false → loopW (fun (K_2 : (List T_api_Addr × Int) → Prop) (s : List T_api_Addr × Int) => srcs_walk_api_Addr_l2 first second Q a_1 b_2 (fun out_0_2 n_1 => K_2 (out_0_2, n_1)) s.1 s.2) (out_0_1, 0))
def srcs_walk_api_Addr_l1 (cf_order : T_api_Addr → T_api_Addr → Int) (first : Bool) (both : Bool) (second : Bool) (Q : (List T_api_Addr) → Prop) (K_1 : (List T_api_Addr) → (List T_api_Addr) → (List T_api_Addr) → Prop) (a_1 : List T_api_Addr) (b_2 : List T_api_Addr) (out_0_1 : List T_api_Addr) : Prop :=
 (0 < (a_1.length : Int) → srcs_walk_api_Addr_j1 cf_order first both second Q a_1 b_2 out_0_1 K_1 (decide (0 < (b_2.length : Int)))) ∧ (¬ (0 < (a_1.length : Int)) → srcs_walk_api_Addr_j1 cf_order first both second Q a_1 b_2 out_0_1 K_1 false)
def srcs_walk_api_Addr_W (a : List T_api_Addr) (b : List T_api_Addr) (cf_order : T_api_Addr → T_api_Addr → Int) (first : Bool) (both : Bool) (second : Bool) (Q : (List T_api_Addr) → Prop) : Prop :=
 loopW (fun (K_1 : (List T_api_Addr × List T_api_Addr × List T_api_Addr) → Prop) (s : List T_api_Addr × List T_api_Addr × List T_api_Addr) => srcs_walk_api_Addr_l1 cf_order first both second Q (fun a_1 b_2 out_0_1 => K_1 (a_1, b_2, out_0_1)) s.1 s.2.1 s.2.2) (a, b, [])
theorem srcs_walk_api_Addr_walk {F : Fz} {fr : List Ow} {h0 : Heap} (a : List T_api_Addr) (b : List T_api_Addr) (cf_order : T_api_Addr → T_api_Addr → Int) (first : Bool) (both : Bool) (second : Bool) (va : Value) (vb : Value) (g_order : Nat) (fs_order : Array Value) (cs_order : Array Value) (hS : St F (fr) h0) (hL_a : SliceF F h0 17 e_api_Addr va a) (hL_b : SliceF F h0 17 e_api_Addr vb b) (hF_cf_order : FnP Tryz.prog F h0 g_order fs_order cs_order (fun x : T_api_Addr × T_api_Addr => [.agg (e_api_Addr x.1).toArray, .agg (e_api_Addr x.2).toArray]) (fun x => .int .i64 (cf_order x.1 x.2))) {Q : (List T_api_Addr) → Prop} (hM : srcs_walk_api_Addr_W a b cf_order first both second Q) :
  HC Tryz.prog 165 #[va, vb, .func (.func g_order) fs_order cs_order, .bool first, .bool both, .bool second] h0 fun u h' => ∃ (F' : Fz) (r_1 : List T_api_Addr) (vr_1 : Value), u = vr_1 ∧ Kp F h0 F' h' ∧ St F' (Ow.own 28 17 e_api_Addr vr_1 r_1 :: fr) h' ∧ (SliceF F' h' 17 e_api_Addr va a) ∧ (SliceF F' h' 17 e_api_Addr vb b) ∧ (FnP Tryz.prog F' h' g_order fs_order cs_order (fun x : T_api_Addr × T_api_Addr => [.agg (e_api_Addr x.1).toArray, .agg (e_api_Addr x.2).toArray]) (fun x => .int .i64 (cf_order x.1 x.2))) ∧ Q r_1 := by
 unfold srcs_walk_api_Addr_W at hM
 have hK := Kp.refl F h0
 refine HC.of_HW (n := 92) Tryz.func165 rfl rfl (Nat.le_of_ble_eq_true rfl) ?_
 refine HW.seq ?_
 refine HW.region ?_
 refine oA (.slice none 0 0) rfl rfl ?_
 refine HO.nil (thenQ_normal (?_))
 refine HW.seq ?_
 refine HW.region ?_
 refine HO.eff (want_none) rfl (st_alloc (c := #[.slice none 0 0]) hS tz_29 rfl) ?_
 rintro _ h_1 ⟨b_1, rfl, hS, hk⟩
 replace hK := hK.trans hk
 replace hL_a := hL_a.kp hk
 replace hL_b := hL_b.kp hk
 replace hF_cf_order := hF_cf_order.kp hk
 refine HO.nil (thenQ_normal (?_))
 refine HW.seq ?_
 refine HW.region ?_
 refine oV (.func (.func 178) #[] #[.pointer (some ⟨b_1, 0, none⟩)]) (q_makeFunc rfl rfl) rfl ?_
 refine oA (.func (.func 178) #[] #[.pointer (some ⟨b_1, 0, none⟩)]) rfl rfl ?_
 refine HO.nil (thenQ_normal (?_))
 refine HW.seq ?_
 refine HW.block ?_
 obtain ⟨I_1, m_1, hI_1, hR_1⟩ := hM
 replace hS := hS.nilOwn 28 17 e_api_Addr
 replace hS : St F (Ow.box b_1 29 #[.slice none 0 0] :: Ow.own 28 17 e_api_Addr (.slice none 0 0) ([] : List T_api_Addr) :: fr) h_1 := hS.perm2 [1, 0] 2 rfl rfl
 refine HW.loop (S := List T_api_Addr × List T_api_Addr × List T_api_Addr) (fun s f h => match s with | (a_1, b_2, out_0_1) => ∃ (F' : Fz) (va_1 : Value) (vb_1 : Value) (vout_0_1 : Value), f 0 = va_1 ∧ f 1 = vb_1 ∧ f 2 = .func (.func g_order) fs_order cs_order ∧ f 3 = .bool first ∧ f 4 = .bool both ∧ f 5 = .bool second ∧ f 12 = .slice none 0 0 ∧ f 13 = .pointer (some ⟨b_1, 0, none⟩) ∧ f 14 = .func (.func 178) #[] #[.pointer (some ⟨b_1, 0, none⟩)] ∧ Kp F h0 F' h ∧ St F' (Ow.box b_1 29 #[vout_0_1] :: Ow.own 28 17 e_api_Addr vout_0_1 out_0_1 :: fr) h ∧ (SliceF F' h 17 e_api_Addr va a) ∧ (SliceF F' h 17 e_api_Addr vb b) ∧ (FnP Tryz.prog F' h g_order fs_order cs_order (fun x : T_api_Addr × T_api_Addr => [.agg (e_api_Addr x.1).toArray, .agg (e_api_Addr x.2).toArray]) (fun x => .int .i64 (cf_order x.1 x.2))) ∧ (SliceF F' h 17 e_api_Addr va_1 a_1) ∧ (SliceF F' h 17 e_api_Addr vb_1 b_2) ∧ I_1 (a_1, b_2, out_0_1)) m_1 (a, b, []) ⟨F, va, vb, .slice none 0 0, rfl, rfl, rfl, rfl, rfl, rfl, rfl, rfl, rfl, hK, hS, hL_a, hL_b, hF_cf_order, hL_a, hL_b, hI_1⟩ ?_
 rintro ⟨a_1, b_2, out_0_1⟩ f_1 h_2 ⟨F_1, va_1, vb_1, vout_0_1, e0, e1, e2, e3, e4, e5, e12, e13, e14, hK, hS, hL_a, hL_b, hF_cf_order, hL_1, hL_2, hI0⟩
 obtain ⟨K_1, hKe_1⟩ : ∃ K : (List T_api_Addr) → (List T_api_Addr) → (List T_api_Addr) → Prop, K = fun a_1' b_2' out_0_1' => I_1 (a_1', b_2', out_0_1') ∧ m_1 (a_1', b_2', out_0_1') < m_1 (a_1, b_2, out_0_1) := ⟨_, rfl⟩
 have hM : srcs_walk_api_Addr_l1 cf_order first both second Q K_1 a_1 b_2 out_0_1 := by rw [hKe_1]; exact hR_1 (a_1, b_2, out_0_1) hI0
 unfold srcs_walk_api_Addr_l1 at hM
 refine HW.fr [(0, va_1), (1, vb_1), (2, .func (.func g_order) fs_order cs_order), (3, .bool first), (4, .bool both), (5, .bool second), (12, .slice none 0 0), (13, .pointer (some ⟨b_1, 0, none⟩)), (14, .func (.func 178) #[] #[.pointer (some ⟨b_1, 0, none⟩)])] ⟨e0, e1, e2, e3, e4, e5, e12, e13, e14, trivial⟩ ?_
 refine HW.seq ?_
 refine HW.seq_mid (fun f h => ∃ (F' : Fz) (b_3 : Bool), f 0 = va_1 ∧ f 1 = vb_1 ∧ f 2 = .func (.func g_order) fs_order cs_order ∧ f 3 = .bool first ∧ f 4 = .bool both ∧ f 5 = .bool second ∧ f 12 = .slice none 0 0 ∧ f 13 = .pointer (some ⟨b_1, 0, none⟩) ∧ f 14 = .func (.func 178) #[] #[.pointer (some ⟨b_1, 0, none⟩)] ∧ f 28 = .bool b_3 ∧ Kp F h0 F' h ∧ St F' (Ow.box b_1 29 #[vout_0_1] :: Ow.own 28 17 e_api_Addr vout_0_1 out_0_1 :: fr) h ∧ (SliceF F' h 17 e_api_Addr va a) ∧ (SliceF F' h 17 e_api_Addr vb b) ∧ (FnP Tryz.prog F' h g_order fs_order cs_order (fun x : T_api_Addr × T_api_Addr => [.agg (e_api_Addr x.1).toArray, .agg (e_api_Addr x.2).toArray]) (fun x => .int .i64 (cf_order x.1 x.2))) ∧ (SliceF F' h 17 e_api_Addr va_1 a_1) ∧ (SliceF F' h 17 e_api_Addr vb_1 b_2) ∧ srcs_walk_api_Addr_j1 cf_order first both second Q a_1 b_2 out_0_1 K_1 b_3) ?_ ?_
 ·
  refine HW.region ?_
  refine oM (va_1) rfl rfl ?_
  refine oV (.int .i64 (a_1.length : Int)) (q_len ts_29 (shp hL_1.is) rfl rfl) rfl ?_
  refine oV (.bool (decide (0 < (a_1.length : Int)))) (q_gtr rfl rfl) rfl ?_
  refine oM (.bool (decide (0 < (a_1.length : Int)))) rfl rfl ?_
  rcases Bool.eq_false_or_eq_true (decide (0 < (a_1.length : Int))) with c_1 | c_1
  ·
   replace hM := hM.1 (of_decide_eq_true c_1)
   refine HO.val (v := vb_1) (want_by rfl rfl c_1) rfl (q_move rfl) ?_
   refine HO.val (v := .int .i64 (b_2.length : Int)) (want_by rfl rfl c_1) rfl (q_len ts_29 (shp hL_2.is) rfl rfl) ?_
   refine HO.val (v := .bool (decide (0 < (b_2.length : Int)))) (want_by rfl rfl c_1) rfl (q_gtr rfl rfl) ?_
   refine oV (.bool (decide (0 < (b_2.length : Int)))) (q_pickK true rfl c_1 rfl) rfl ?_
   refine HO.nil (thenQ_normal (?_))
   exact ⟨F_1, decide (0 < (b_2.length : Int)), rfl, rfl, rfl, rfl, rfl, rfl, rfl, rfl, rfl, rfl, hK, hS, hL_a, hL_b, hF_cf_order, hL_1, hL_2, hM⟩
  ·
   replace hM := hM.2 (of_decide_eq_false c_1)
   refine HO.past (past_by rfl rfl c_1) rfl ?_
   refine HO.past (past_by rfl rfl c_1) rfl ?_
   refine HO.past (past_by rfl rfl c_1) rfl ?_
   refine oV (.bool false) (q_pickK false rfl c_1 rfl) rfl ?_
   refine HO.nil (thenQ_normal (?_))
   exact ⟨F_1, false, rfl, rfl, rfl, rfl, rfl, rfl, rfl, rfl, rfl, rfl, hK, hS, hL_a, hL_b, hF_cf_order, hL_1, hL_2, hM⟩
 ·
  rintro f_2 h_3 ⟨F_2, b_3, e0, e1, e2, e3, e4, e5, e12, e13, e14, e28, hK, hS, hL_a, hL_b, hF_cf_order, hL_1, hL_2, hM⟩
  unfold srcs_walk_api_Addr_j1 at hM
  refine HW.fr [(0, va_1), (1, vb_1), (2, .func (.func g_order) fs_order cs_order), (3, .bool first), (4, .bool both), (5, .bool second), (12, .slice none 0 0), (13, .pointer (some ⟨b_1, 0, none⟩)), (14, .func (.func 178) #[] #[.pointer (some ⟨b_1, 0, none⟩)]), (28, .bool b_3)] ⟨e0, e1, e2, e3, e4, e5, e12, e13, e14, e28, trivial⟩ ?_
  refine HW.cond b_3 rfl (fun c_2 => ?_) (fun c_2 => ?_)
  ·
   replace hM := hM.1 c_2
   refine HW.skip (thenQ_normal (?_))
   refine HW.block ?_
   refine HW.seq ?_
   refine HW.regionA 9 mixed (fun h => (SliceIs h 17 e_api_Addr va_1 a_1) ∧ (SliceIs h 17 e_api_Addr vb_1 b_2)) [] (by kernel_rfl) ?_
   refine HA.val (k := 0) (v := .func (.func g_order) fs_order cs_order) rfl rfl (by kernel_rfl) (by kernel_rfl) (want_none) rfl (fun _ ⟨hL_1, hL_2⟩ => q_move rfl) ?_
   refine HA.val (k := 1) (v := va_1) rfl rfl (by kernel_rfl) (by kernel_rfl) (want_none) rfl (fun _ ⟨hL_1, hL_2⟩ => q_move rfl) ?_
   obtain ⟨ho_1, hM⟩ := hM
   refine HA.val (k := 2) (v := elemPtr 17 va_1 (0 : Int).toNat) rfl rfl (by kernel_rfl) (by kernel_rfl) (want_none) rfl (fun _ ⟨hL_1, hL_2⟩ => q_idx ts_29 hL_1 rfl rfl ho_1) ?_
   refine HA.val (k := 3) (v := .agg (e_api_Addr (gi a_1 0)).toArray) rfl rfl (by kernel_rfl) (by kernel_rfl) (want_none) rfl (fun _ ⟨hL_1, hL_2⟩ => q_ldElemAgg (cs := (e_api_Addr (gi a_1 0))) ta_28 hL_1 rfl ho_1 rfl) ?_
   refine HA.val (k := 4) (v := vb_1) rfl rfl (by kernel_rfl) (by kernel_rfl) (want_none) rfl (fun _ ⟨hL_1, hL_2⟩ => q_move rfl) ?_
   obtain ⟨ho_2, hM⟩ := hM
   refine HA.val (k := 5) (v := elemPtr 17 vb_1 (0 : Int).toNat) rfl rfl (by kernel_rfl) (by kernel_rfl) (want_none) rfl (fun _ ⟨hL_1, hL_2⟩ => q_idx ts_29 hL_2 rfl rfl ho_2) ?_
   refine HA.val (k := 6) (v := .agg (e_api_Addr (gi b_2 0)).toArray) rfl rfl (by kernel_rfl) (by kernel_rfl) (want_none) rfl (fun _ ⟨hL_1, hL_2⟩ => q_ldElemAgg (cs := (e_api_Addr (gi b_2 0))) ta_28 hL_2 rfl ho_2 rfl) ?_
   refine HA.one (k := 7) ⟨⟨hL_1.is, hL_2.is⟩, (Go.Wk.at_nil _ _)⟩ (by kernel_rfl) ?_
   refine HS.call rfl (want_none) rfl (hF_cf_order.ec ((gi a_1 0), (gi b_2 0)) rfl rfl) (hF_cf_order.hc ((gi a_1 0), (gi b_2 0)) hS) ?_
   rintro _ h_4 ⟨rfl, hS, hk⟩
   replace hK := hK.trans hk
   replace hL_a := hL_a.kp hk
   replace hL_b := hL_b.kp hk
   replace hF_cf_order := hF_cf_order.kp hk
   replace hL_1 := hL_1.kp hk
   replace hL_2 := hL_2.kp hk
   refine HA.val (k := 8) (v := .int .i64 (cf_order (gi a_1 0) (gi b_2 0))) rfl rfl (by kernel_rfl) (by kernel_rfl) (want_none) rfl (fun _ ⟨hL_1, hL_2⟩ => q_assign rfl) ?_
   refine HA.nil ⟨⟨hL_1.is, hL_2.is⟩, (Go.Wk.at_nil _ _)⟩ (by kernel_rfl) (thenQ_normal (?_))
   refine HW.block ?_
   refine HW.seq ?_
   refine HW.region ?_
   refine oM (.int .i64 (cf_order (gi a_1 0) (gi b_2 0))) rfl rfl ?_
   refine oV (.bool (decide ((cf_order (gi a_1 0) (gi b_2 0)) < 0))) (q_lss rfl rfl) rfl ?_
   refine oA (.bool (decide ((cf_order (gi a_1 0) (gi b_2 0)) < 0))) rfl rfl ?_
   refine HO.nil (thenQ_normal (?_))
   refine HW.cond (decide ((cf_order (gi a_1 0) (gi b_2 0)) < 0)) rfl (fun c_3 => ?_) (fun c_3 => ?_)
   ·
    replace hM := hM.1 (of_decide_eq_true c_3)
    refine HW.seq ?_
    refine HW.region ?_
    refine oM (.func (.func 178) #[] #[.pointer (some ⟨b_1, 0, none⟩)]) rfl rfl ?_
    refine oM (va_1) rfl rfl ?_
    refine oV (elemPtr 17 va_1 (0 : Int).toNat) (q_idx ts_29 hL_1.is rfl rfl ho_1) rfl ?_
    refine oV (.agg (e_api_Addr (gi a_1 0)).toArray) (q_ldElemAgg (cs := (e_api_Addr (gi a_1 0))) ta_28 hL_1.is rfl ho_1 rfl) rfl ?_
    refine oM (.bool first) rfl rfl ?_
    refine HO.call (want_none) rfl (ec en_178 rfl rfl) (srcs_walk_1_api_Addr_walk (fr := (fr)) (gi a_1 0) first out_0_1 b_1 vout_0_1 hS hM) ?_
    rintro _ h_5 ⟨F_3, a2_0_1, v_1, rfl, hk, hS, hM⟩
    replace hK := hK.trans hk
    replace hL_a := hL_a.kp hk
    replace hL_b := hL_b.kp hk
    replace hF_cf_order := hF_cf_order.kp hk
    replace hL_1 := hL_1.kp hk
    replace hL_2 := hL_2.kp hk
    refine HO.nil (thenQ_normal (?_))
    refine HW.region ?_
    refine oM (va_1) rfl rfl ?_
    obtain ⟨ho_3, hM⟩ := hM
    refine oV (cutV 17 va_1 (1 : Int).toNat ((a_1.length : Int)).toNat) (q_slL ts_29 hL_1.is rfl rfl ho_3) rfl ?_
    refine oA (cutV 17 va_1 (1 : Int).toNat ((a_1.length : Int)).toNat) rfl rfl ?_
    refine HO.nil (blockQ_normal (blockQ_normal (thenQ_normal (?_))))
    rw [hKe_1] at hM
    exact ⟨(cut a_1 1 (a_1.length : Int), b_2, a2_0_1), ⟨F_3, cutV 17 va_1 (1 : Int).toNat ((a_1.length : Int)).toNat, vb_1, v_1, rfl, rfl, rfl, rfl, rfl, rfl, rfl, rfl, rfl, hK, hS, hL_a, hL_b, hF_cf_order, (cutF hL_1 1 (a_1.length : Int) ho_3.1 ho_3.2 (Int.le_refl _)), hL_2, hM.1⟩, hM.2⟩
   ·
    replace hM := hM.2 (of_decide_eq_false c_3)
    refine HW.seq ?_
    refine HW.region ?_
    refine oM (.int .i64 (cf_order (gi a_1 0) (gi b_2 0))) rfl rfl ?_
    refine oV (.bool (decide (0 < (cf_order (gi a_1 0) (gi b_2 0))))) (q_gtr rfl rfl) rfl ?_
    refine oA (.bool (decide (0 < (cf_order (gi a_1 0) (gi b_2 0))))) rfl rfl ?_
    refine HO.nil (thenQ_normal (?_))
    refine HW.cond (decide (0 < (cf_order (gi a_1 0) (gi b_2 0)))) rfl (fun c_4 => ?_) (fun c_4 => ?_)
    ·
     replace hM := hM.1 (of_decide_eq_true c_4)
     refine HW.seq ?_
     refine HW.region ?_
     refine oM (.func (.func 178) #[] #[.pointer (some ⟨b_1, 0, none⟩)]) rfl rfl ?_
     refine oM (vb_1) rfl rfl ?_
     refine oV (elemPtr 17 vb_1 (0 : Int).toNat) (q_idx ts_29 hL_2.is rfl rfl ho_2) rfl ?_
     refine oV (.agg (e_api_Addr (gi b_2 0)).toArray) (q_ldElemAgg (cs := (e_api_Addr (gi b_2 0))) ta_28 hL_2.is rfl ho_2 rfl) rfl ?_
     refine oM (.bool second) rfl rfl ?_
     refine HO.call (want_none) rfl (ec en_178 rfl rfl) (srcs_walk_1_api_Addr_walk (fr := (fr)) (gi b_2 0) second out_0_1 b_1 vout_0_1 hS hM) ?_
     rintro _ h_6 ⟨F_4, a2_0_2, v_2, rfl, hk, hS, hM⟩
     replace hK := hK.trans hk
     replace hL_a := hL_a.kp hk
     replace hL_b := hL_b.kp hk
     replace hF_cf_order := hF_cf_order.kp hk
     replace hL_1 := hL_1.kp hk
     replace hL_2 := hL_2.kp hk
     refine HO.nil (thenQ_normal (?_))
     refine HW.region ?_
     refine oM (vb_1) rfl rfl ?_
     obtain ⟨ho_4, hM⟩ := hM
     refine oV (cutV 17 vb_1 (1 : Int).toNat ((b_2.length : Int)).toNat) (q_slL ts_29 hL_2.is rfl rfl ho_4) rfl ?_
     refine oA (cutV 17 vb_1 (1 : Int).toNat ((b_2.length : Int)).toNat) rfl rfl ?_
     refine HO.nil (blockQ_normal (blockQ_normal (thenQ_normal (?_))))
     rw [hKe_1] at hM
     exact ⟨(a_1, cut b_2 1 (b_2.length : Int), a2_0_2), ⟨F_4, va_1, cutV 17 vb_1 (1 : Int).toNat ((b_2.length : Int)).toNat, v_2, rfl, rfl, rfl, rfl, rfl, rfl, rfl, rfl, rfl, hK, hS, hL_a, hL_b, hF_cf_order, hL_1, (cutF hL_2 1 (b_2.length : Int) ho_4.1 ho_4.2 (Int.le_refl _)), hM.1⟩, hM.2⟩
    ·
     replace hM := hM.2 (of_decide_eq_false c_4)
     refine HW.seq ?_
     refine HW.region ?_
     refine oM (.func (.func 178) #[] #[.pointer (some ⟨b_1, 0, none⟩)]) rfl rfl ?_
     refine oM (va_1) rfl rfl ?_
     refine oV (elemPtr 17 va_1 (0 : Int).toNat) (q_idx ts_29 hL_1.is rfl rfl ho_1) rfl ?_
     refine oV (.agg (e_api_Addr (gi a_1 0)).toArray) (q_ldElemAgg (cs := (e_api_Addr (gi a_1 0))) ta_28 hL_1.is rfl ho_1 rfl) rfl ?_
     refine oM (.bool both) rfl rfl ?_
     refine HO.call (want_none) rfl (ec en_178 rfl rfl) (srcs_walk_1_api_Addr_walk (fr := (fr)) (gi a_1 0) both out_0_1 b_1 vout_0_1 hS hM) ?_
     rintro _ h_7 ⟨F_5, a2_0_3, v_3, rfl, hk, hS, hM⟩
     replace hK := hK.trans hk
     replace hL_a := hL_a.kp hk
     replace hL_b := hL_b.kp hk
     replace hF_cf_order := hF_cf_order.kp hk
     replace hL_1 := hL_1.kp hk
     replace hL_2 := hL_2.kp hk
     refine HO.nil (thenQ_normal (?_))
     refine HW.regionA 6 mixed (fun h => (SliceIs h 17 e_api_Addr va a) ∧ (SliceIs h 17 e_api_Addr vb b) ∧ (True) ∧ (SliceIs h 17 e_api_Addr va_1 a_1) ∧ (SliceIs h 17 e_api_Addr vb_1 b_2) ∧ (Blk h b_1 (.cells #[v_3] 29 (0, 0))) ∧ (OwnIs h 0 28 17 e_api_Addr v_3 a2_0_3)) [] (by kernel_rfl) ?_
     refine HA.val (k := 0) (v := va_1) rfl rfl (by kernel_rfl) (by kernel_rfl) (want_none) rfl (fun _ ⟨hL_a, hL_b, hF_cf_order, hL_1, hL_2, c356, c357⟩ => q_move rfl) ?_
     obtain ⟨ho_5, hM⟩ := hM
     refine HA.val (k := 1) (v := cutV 17 va_1 (1 : Int).toNat ((a_1.length : Int)).toNat) rfl rfl (by kernel_rfl) (by kernel_rfl) (want_none) rfl (fun _ ⟨hL_a, hL_b, hF_cf_order, hL_1, hL_2, c356, c357⟩ => q_slL ts_29 hL_1 rfl rfl ho_5) ?_
     refine HA.val (k := 2) (v := vb_1) rfl rfl (by kernel_rfl) (by kernel_rfl) (want_none) rfl (fun _ ⟨hL_a, hL_b, hF_cf_order, hL_1, hL_2, c356, c357⟩ => q_move rfl) ?_
     obtain ⟨ho_6, hM⟩ := hM
     refine HA.val (k := 3) (v := cutV 17 vb_1 (1 : Int).toNat ((b_2.length : Int)).toNat) rfl rfl (by kernel_rfl) (by kernel_rfl) (want_none) rfl (fun _ ⟨hL_a, hL_b, hF_cf_order, hL_1, hL_2, c356, c357⟩ => q_slL ts_29 hL_2 rfl rfl ho_6) ?_
     refine HA.val (k := 4) (v := cutV 17 va_1 (1 : Int).toNat ((a_1.length : Int)).toNat) rfl rfl (by kernel_rfl) (by kernel_rfl) (want_none) rfl (fun _ ⟨hL_a, hL_b, hF_cf_order, hL_1, hL_2, c356, c357⟩ => q_assign rfl) ?_
     refine HA.val (k := 5) (v := cutV 17 vb_1 (1 : Int).toNat ((b_2.length : Int)).toNat) rfl rfl (by kernel_rfl) (by kernel_rfl) (want_none) rfl (fun _ ⟨hL_a, hL_b, hF_cf_order, hL_1, hL_2, c356, c357⟩ => q_assign rfl) ?_
     refine HA.nil ⟨⟨hL_a.is, hL_b.is, trivial, hL_1.is, hL_2.is, (hS.box 0 rfl), (hS.own 1 rfl)⟩, (Go.Wk.at_nil _ _)⟩ (by kernel_rfl) (blockQ_normal (blockQ_normal (thenQ_normal (?_))))
     rw [hKe_1] at hM
     exact ⟨(cut a_1 1 (a_1.length : Int), cut b_2 1 (b_2.length : Int), a2_0_3), ⟨F_5, cutV 17 va_1 (1 : Int).toNat ((a_1.length : Int)).toNat, cutV 17 vb_1 (1 : Int).toNat ((b_2.length : Int)).toNat, v_3, rfl, rfl, rfl, rfl, rfl, rfl, rfl, rfl, rfl, hK, hS, hL_a, hL_b, hF_cf_order, (cutF hL_1 1 (a_1.length : Int) ho_5.1 ho_5.2 (Int.le_refl _)), (cutF hL_2 1 (b_2.length : Int) ho_6.1 ho_6.2 (Int.le_refl _)), hM.1⟩, hM.2⟩
  ·
   replace hM := hM.2 c_2
   refine HW.exit (thenQ_exit (thenQ_exit (blockQ_exit (thenQ_normal (?_)))))
   refine HW.seq ?_
   refine HW.seq ?_
   refine HW.region ?_
   refine oM (va_1) rfl rfl ?_
   refine oV (.int .i64 (a_1.length : Int)) (q_len ts_29 (shp hL_1.is) rfl rfl) rfl ?_
   refine oM (.int .i64 0) rfl rfl ?_
   refine HO.nil (thenQ_normal (?_))
   refine HW.block ?_
   obtain ⟨I_2, m_2, hI_2, hR_2⟩ := hM
   refine HW.loop (S := List T_api_Addr × Int) (fun s f h => match s with | (out_0_2, n_1) => ∃ (F' : Fz) (vout_0_2 : Value), f 1 = vb_1 ∧ f 3 = .bool first ∧ f 5 = .bool second ∧ f 12 = .slice none 0 0 ∧ f 13 = .pointer (some ⟨b_1, 0, none⟩) ∧ f 14 = .func (.func 178) #[] #[.pointer (some ⟨b_1, 0, none⟩)] ∧ f 69 = va_1 ∧ f 70 = .int .i64 (a_1.length : Int) ∧ f 71 = .int .i64 n_1 ∧ Kp F h0 F' h ∧ St F' (Ow.box b_1 29 #[vout_0_2] :: Ow.own 28 17 e_api_Addr vout_0_2 out_0_2 :: fr) h ∧ (SliceF F' h 17 e_api_Addr va a) ∧ (SliceF F' h 17 e_api_Addr vb b) ∧ (FnP Tryz.prog F' h g_order fs_order cs_order (fun x : T_api_Addr × T_api_Addr => [.agg (e_api_Addr x.1).toArray, .agg (e_api_Addr x.2).toArray]) (fun x => .int .i64 (cf_order x.1 x.2))) ∧ (SliceF F' h 17 e_api_Addr va_1 a_1) ∧ (SliceF F' h 17 e_api_Addr vb_1 b_2) ∧ I_2 (out_0_2, n_1)) m_2 (out_0_1, 0) ⟨F_2, vout_0_1, rfl, rfl, rfl, rfl, rfl, rfl, rfl, rfl, rfl, hK, hS, hL_a, hL_b, hF_cf_order, hL_1, hL_2, hI_2⟩ ?_
   rintro ⟨out_0_2, n_1⟩ f_3 h_8 ⟨F_6, vout_0_2, e1, e3, e5, e12, e13, e14, e69, e70, e71, hK, hS, hL_a, hL_b, hF_cf_order, hL_1, hL_2, hI0⟩
   obtain ⟨K_2, hKe_2⟩ : ∃ K : (List T_api_Addr) → Int → Prop, K = fun out_0_2' n_1' => I_2 (out_0_2', n_1') ∧ m_2 (out_0_2', n_1') < m_2 (out_0_2, n_1) := ⟨_, rfl⟩
   have hM : srcs_walk_api_Addr_l2 first second Q a_1 b_2 K_2 out_0_2 n_1 := by rw [hKe_2]; exact hR_2 (out_0_2, n_1) hI0
   unfold srcs_walk_api_Addr_l2 at hM
   refine HW.fr [(1, vb_1), (3, .bool first), (5, .bool second), (12, .slice none 0 0), (13, .pointer (some ⟨b_1, 0, none⟩)), (14, .func (.func 178) #[] #[.pointer (some ⟨b_1, 0, none⟩)]), (69, va_1), (70, .int .i64 (a_1.length : Int)), (71, .int .i64 n_1)] ⟨e1, e3, e5, e12, e13, e14, e69, e70, e71, trivial⟩ ?_
   refine HW.seq ?_
   refine HW.region ?_
   refine oV (.bool (decide (n_1 < (a_1.length : Int)))) (q_lss rfl rfl) rfl ?_
   refine HO.nil (thenQ_normal (?_))
   refine HW.seq ?_
   refine HW.cond (decide (n_1 < (a_1.length : Int))) rfl (fun c_5 => ?_) (fun c_5 => ?_)
   ·
    replace hM := hM.1 (of_decide_eq_true c_5)
    refine HW.skip (thenQ_normal (?_))
    refine HW.seq ?_
    refine HW.block ?_
    refine HW.seq ?_
    refine HW.region ?_
    obtain ⟨ho_7, hM⟩ := hM
    refine oV (elemPtr 17 va_1 (n_1).toNat) (q_idx ts_29 hL_1.is rfl rfl ho_7) rfl ?_
    refine oV (.agg (e_api_Addr (gi a_1 n_1)).toArray) (q_ldElemAgg (cs := (e_api_Addr (gi a_1 n_1))) ta_28 hL_1.is rfl ho_7 rfl) rfl ?_
    refine HO.eff (want_none) rfl (st_alloc (c := (e_api_Addr (false, (default : Ba 16))).toArray) hS tz_28 rfl) ?_
    rintro _ h_9 ⟨b_4, rfl, hS, hk⟩
    replace hK := hK.trans hk
    replace hL_a := hL_a.kp hk
    replace hL_b := hL_b.kp hk
    replace hF_cf_order := hF_cf_order.kp hk
    replace hL_1 := hL_1.kp hk
    replace hL_2 := hL_2.kp hk
    refine HO.sto (want_none) rfl (st_storeAgg (c' := (e_api_Addr (gi a_1 n_1)).toArray) hS (i := 0) rfl ta_28 rfl rfl rfl (one_e_api_Addr _) (Nat.le_of_ble_eq_true rfl) rfl) ?_
    rintro h_10 ⟨hS, hk⟩
    replace hK := hK.trans hk
    replace hL_a := hL_a.kp hk
    replace hL_b := hL_b.kp hk
    replace hF_cf_order := hF_cf_order.kp hk
    replace hL_1 := hL_1.kp hk
    replace hL_2 := hL_2.kp hk
    refine HO.nil (thenQ_normal (?_))
    refine HW.region ?_
    refine oM (.func (.func 178) #[] #[.pointer (some ⟨b_1, 0, none⟩)]) rfl rfl ?_
    refine oV (.agg (e_api_Addr (gi a_1 n_1)).toArray) (q_loadAgg (cs := (e_api_Addr (gi a_1 n_1))) ta_28 rfl rfl (Blk.cells (k := 17) (hS.box 0 rfl) rfl)) rfl ?_
    refine oM (.bool first) rfl rfl ?_
    replace hS : St F_6 (Ow.box b_1 29 #[vout_0_2] :: Ow.own 28 17 e_api_Addr vout_0_2 out_0_2 :: Ow.box b_4 28 (e_api_Addr (gi a_1 n_1)).toArray :: fr) h_10 := hS.perm2 [1, 2, 0] 3 rfl rfl
    refine HO.call (want_none) rfl (ec en_178 rfl rfl) (srcs_walk_1_api_Addr_walk (fr := (Ow.box b_4 28 (e_api_Addr (gi a_1 n_1)).toArray :: fr)) (gi a_1 n_1) first out_0_2 b_1 vout_0_2 hS hM) ?_
    rintro _ h_11 ⟨F_7, a2_0_4, v_4, rfl, hk, hS, hM⟩
    replace hK := hK.trans hk
    replace hL_a := hL_a.kp hk
    replace hL_b := hL_b.kp hk
    replace hF_cf_order := hF_cf_order.kp hk
    replace hL_1 := hL_1.kp hk
    replace hL_2 := hL_2.kp hk
    refine HO.nil (blockQ_normal (thenQ_normal (?_)))
    refine HW.region ?_
    obtain ⟨ho_8, hM⟩ := hM
    refine oV (.int .i64 (n_1 + 1)) (q_addN _ rfl rfl rfl ho_8.1 ho_8.2) rfl ?_
    refine oM (.int .i64 (n_1 + 1)) rfl rfl ?_
    refine HO.nil (thenQ_normal (?_))
    replace hS : St F_7 (Ow.box b_1 29 #[v_4] :: Ow.own 28 17 e_api_Addr v_4 a2_0_4 :: fr) h_11 := hS.perm2 [0, 1] 3 rfl rfl
    rw [hKe_2] at hM
    exact ⟨(a2_0_4, n_1 + 1), ⟨F_7, v_4, rfl, rfl, rfl, rfl, rfl, rfl, rfl, rfl, rfl, hK, hS, hL_a, hL_b, hF_cf_order, hL_1, hL_2, hM.1⟩, hM.2⟩
   ·
    replace hM := hM.2 (of_decide_eq_false c_5)
    refine HW.exit (thenQ_exit (thenQ_exit (blockQ_exit (thenQ_normal (?_)))))
    refine HW.seq ?_
    refine HW.seq ?_
    refine HW.region ?_
    refine oM (vb_1) rfl rfl ?_
    refine oV (.int .i64 (b_2.length : Int)) (q_len ts_29 (shp hL_2.is) rfl rfl) rfl ?_
    refine oM (.int .i64 0) rfl rfl ?_
    refine HO.nil (thenQ_normal (?_))
    refine HW.block ?_
    obtain ⟨I_3, m_3, hI_3, hR_3⟩ := hM
    refine HW.loop (S := List T_api_Addr × Int) (fun s f h => match s with | (out_0_3, n_2) => ∃ (F' : Fz) (vout_0_3 : Value), f 5 = .bool second ∧ f 12 = .slice none 0 0 ∧ f 13 = .pointer (some ⟨b_1, 0, none⟩) ∧ f 14 = .func (.func 178) #[] #[.pointer (some ⟨b_1, 0, none⟩)] ∧ f 80 = vb_1 ∧ f 81 = .int .i64 (b_2.length : Int) ∧ f 82 = .int .i64 n_2 ∧ Kp F h0 F' h ∧ St F' (Ow.box b_1 29 #[vout_0_3] :: Ow.own 28 17 e_api_Addr vout_0_3 out_0_3 :: fr) h ∧ (SliceF F' h 17 e_api_Addr va a) ∧ (SliceF F' h 17 e_api_Addr vb b) ∧ (FnP Tryz.prog F' h g_order fs_order cs_order (fun x : T_api_Addr × T_api_Addr => [.agg (e_api_Addr x.1).toArray, .agg (e_api_Addr x.2).toArray]) (fun x => .int .i64 (cf_order x.1 x.2))) ∧ (SliceF F' h 17 e_api_Addr va_1 a_1) ∧ (SliceF F' h 17 e_api_Addr vb_1 b_2) ∧ I_3 (out_0_3, n_2)) m_3 (out_0_2, 0) ⟨F_6, vout_0_2, rfl, rfl, rfl, rfl, rfl, rfl, rfl, hK, hS, hL_a, hL_b, hF_cf_order, hL_1, hL_2, hI_3⟩ ?_
    rintro ⟨out_0_3, n_2⟩ f_4 h_12 ⟨F_8, vout_0_3, e5, e12, e13, e14, e80, e81, e82, hK, hS, hL_a, hL_b, hF_cf_order, hL_1, hL_2, hI0⟩
    obtain ⟨K_3, hKe_3⟩ : ∃ K : (List T_api_Addr) → Int → Prop, K = fun out_0_3' n_2' => I_3 (out_0_3', n_2') ∧ m_3 (out_0_3', n_2') < m_3 (out_0_3, n_2) := ⟨_, rfl⟩
    have hM : srcs_walk_api_Addr_l3 second Q b_2 K_3 out_0_3 n_2 := by rw [hKe_3]; exact hR_3 (out_0_3, n_2) hI0
    unfold srcs_walk_api_Addr_l3 at hM
    refine HW.fr [(5, .bool second), (12, .slice none 0 0), (13, .pointer (some ⟨b_1, 0, none⟩)), (14, .func (.func 178) #[] #[.pointer (some ⟨b_1, 0, none⟩)]), (80, vb_1), (81, .int .i64 (b_2.length : Int)), (82, .int .i64 n_2)] ⟨e5, e12, e13, e14, e80, e81, e82, trivial⟩ ?_
    refine HW.seq ?_
    refine HW.region ?_
    refine oV (.bool (decide (n_2 < (b_2.length : Int)))) (q_lss rfl rfl) rfl ?_
    refine HO.nil (thenQ_normal (?_))
    refine HW.seq ?_
    refine HW.cond (decide (n_2 < (b_2.length : Int))) rfl (fun c_6 => ?_) (fun c_6 => ?_)
    ·
     replace hM := hM.1 (of_decide_eq_true c_6)
     refine HW.skip (thenQ_normal (?_))
     refine HW.seq ?_
     refine HW.block ?_
     refine HW.seq ?_
     refine HW.region ?_
     obtain ⟨ho_9, hM⟩ := hM
     refine oV (elemPtr 17 vb_1 (n_2).toNat) (q_idx ts_29 hL_2.is rfl rfl ho_9) rfl ?_
     refine oV (.agg (e_api_Addr (gi b_2 n_2)).toArray) (q_ldElemAgg (cs := (e_api_Addr (gi b_2 n_2))) ta_28 hL_2.is rfl ho_9 rfl) rfl ?_
     refine HO.eff (want_none) rfl (st_alloc (c := (e_api_Addr (false, (default : Ba 16))).toArray) hS tz_28 rfl) ?_
     rintro _ h_13 ⟨b_5, rfl, hS, hk⟩
     replace hK := hK.trans hk
     replace hL_a := hL_a.kp hk
     replace hL_b := hL_b.kp hk
     replace hF_cf_order := hF_cf_order.kp hk
     replace hL_1 := hL_1.kp hk
     replace hL_2 := hL_2.kp hk
     refine HO.sto (want_none) rfl (st_storeAgg (c' := (e_api_Addr (gi b_2 n_2)).toArray) hS (i := 0) rfl ta_28 rfl rfl rfl (one_e_api_Addr _) (Nat.le_of_ble_eq_true rfl) rfl) ?_
     rintro h_14 ⟨hS, hk⟩
     replace hK := hK.trans hk
     replace hL_a := hL_a.kp hk
     replace hL_b := hL_b.kp hk
     replace hF_cf_order := hF_cf_order.kp hk
     replace hL_1 := hL_1.kp hk
     replace hL_2 := hL_2.kp hk
     refine HO.nil (thenQ_normal (?_))
     refine HW.region ?_
     refine oM (.func (.func 178) #[] #[.pointer (some ⟨b_1, 0, none⟩)]) rfl rfl ?_
     refine oV (.agg (e_api_Addr (gi b_2 n_2)).toArray) (q_loadAgg (cs := (e_api_Addr (gi b_2 n_2))) ta_28 rfl rfl (Blk.cells (k := 17) (hS.box 0 rfl) rfl)) rfl ?_
     refine oM (.bool second) rfl rfl ?_
     replace hS : St F_8 (Ow.box b_1 29 #[vout_0_3] :: Ow.own 28 17 e_api_Addr vout_0_3 out_0_3 :: Ow.box b_5 28 (e_api_Addr (gi b_2 n_2)).toArray :: fr) h_14 := hS.perm2 [1, 2, 0] 3 rfl rfl
     refine HO.call (want_none) rfl (ec en_178 rfl rfl) (srcs_walk_1_api_Addr_walk (fr := (Ow.box b_5 28 (e_api_Addr (gi b_2 n_2)).toArray :: fr)) (gi b_2 n_2) second out_0_3 b_1 vout_0_3 hS hM) ?_
     rintro _ h_15 ⟨F_9, a2_0_5, v_5, rfl, hk, hS, hM⟩
     replace hK := hK.trans hk
     replace hL_a := hL_a.kp hk
     replace hL_b := hL_b.kp hk
     replace hF_cf_order := hF_cf_order.kp hk
     replace hL_1 := hL_1.kp hk
     replace hL_2 := hL_2.kp hk
     refine HO.nil (blockQ_normal (thenQ_normal (?_)))
     refine HW.region ?_
     obtain ⟨ho_10, hM⟩ := hM
     refine oV (.int .i64 (n_2 + 1)) (q_addN _ rfl rfl rfl ho_10.1 ho_10.2) rfl ?_
     refine oM (.int .i64 (n_2 + 1)) rfl rfl ?_
     refine HO.nil (thenQ_normal (?_))
     replace hS : St F_9 (Ow.box b_1 29 #[v_5] :: Ow.own 28 17 e_api_Addr v_5 a2_0_5 :: fr) h_15 := hS.perm2 [0, 1] 3 rfl rfl
     rw [hKe_3] at hM
     exact ⟨(a2_0_5, n_2 + 1), ⟨F_9, v_5, rfl, rfl, rfl, rfl, rfl, rfl, rfl, hK, hS, hL_a, hL_b, hF_cf_order, hL_1, hL_2, hM.1⟩, hM.2⟩
    ·
     replace hM := hM.2 (of_decide_eq_false c_6)
     refine HW.exit (thenQ_exit (thenQ_exit (blockQ_exit (thenQ_normal (?_)))))
     refine HW.seq ?_
     refine HW.region ?_
     refine oV (vout_0_3) (q_load to_29 rfl (Blk.cell (hS.box 0 rfl) rfl)) rfl ?_
     refine oA (vout_0_3) rfl rfl ?_
     refine HO.nil (thenQ_normal (?_))
     refine HW.ret (?_)
     refine ⟨.inr rfl, vout_0_3, res1 rfl (rt rfl), ?_⟩
     replace hS : St F_8 (Ow.own 28 17 e_api_Addr vout_0_3 out_0_3 :: fr) h_12 := hS.perm2 [1] 2 rfl rfl
     exact ⟨F_8, out_0_3, vout_0_3, rfl, hK, hS, hL_a, hL_b, hF_cf_order, hM⟩
def srcs_minus_W (a : List T_api_Addr) (b : List T_api_Addr) (Q : (List T_api_Addr) → Prop) : Prop :=
 ∃ cf_1 : T_api_Addr → T_api_Addr → Int, (∀ x0 x1, addr_Cmp_W x0 x1 (fun r => r = cf_1 x0 x1)) ∧ (srcs_walk_api_Addr_W a b cf_1 true false false (fun r_2 => Q r_2))
theorem srcs_minus_walk {F : Fz} {fr : List Ow} {h0 : Heap} (a : List T_api_Addr) (b : List T_api_Addr) (va : Value) (vb : Value) (hS : St F (fr) h0) (hL_a : SliceF F h0 17 e_api_Addr va a) (hL_b : SliceF F h0 17 e_api_Addr vb b) {Q : (List T_api_Addr) → Prop} (hM : srcs_minus_W a b Q) :
  HC Tryz.prog 158 #[va, vb] h0 fun u h' => ∃ (F' : Fz) (r_1 : List T_api_Addr) (vr_1 : Value), u = vr_1 ∧ Kp F h0 F' h' ∧ St F' (Ow.own 28 17 e_api_Addr vr_1 r_1 :: fr) h' ∧ (SliceF F' h' 17 e_api_Addr va a) ∧ (SliceF F' h' 17 e_api_Addr vb b) ∧ Q r_1 := by
 unfold srcs_minus_W at hM
 have hK := Kp.refl F h0
 refine HC.of_HW (n := 8) Tryz.func158 rfl rfl (Nat.le_of_ble_eq_true rfl) ?_
 refine HW.seq ?_
 refine HW.region ?_
 refine oA (.slice none 0 0) rfl rfl ?_
 refine HO.nil (thenQ_normal (?_))
 refine HW.seq ?_
 refine HW.region ?_
 refine oM (va) rfl rfl ?_
 refine oM (vb) rfl rfl ?_
 obtain ⟨cf_1, hc_1, hM⟩ := hM
 have hF_1 : FnP Tryz.prog F h0 106 #[] #[] (fun x : T_api_Addr × T_api_Addr => [.agg (e_api_Addr x.1).toArray, .agg (e_api_Addr x.2).toArray]) (fun x => .int .i64 (cf_1 x.1 x.2)) := FnP.of en_106 (fun x h' hk_ => @HC.mono ⟨true⟩ _ _ _ _ _ _ (@addr_Cmp_walk ⟨true⟩ (allF h') [] h' x.1 x.2  (St.init h')  (fun r => r = cf_1 x.1 x.2) (hc_1 x.1 x.2)) (fun u h'' ⟨F', r, hu, k_, _, hr⟩ => ⟨by rw [hu, hr], F', k_⟩))
 refine HO.call (want_none) rfl (ec en_165 rfl rfl) (srcs_walk_api_Addr_walk (fr := (fr)) a b cf_1 true false false va vb 106 (#[]) (#[]) hS hL_a hL_b hF_1 hM) ?_
 rintro vr_2 h_1 ⟨F_1, r_2, _, rfl, hk, hS, _, _, _, hM⟩
 replace hK := hK.trans hk
 replace hL_a := hL_a.kp hk
 replace hL_b := hL_b.kp hk
 refine oA (vr_2) rfl rfl ?_
 refine HO.nil (thenQ_normal (?_))
 refine HW.ret (?_)
 refine ⟨.inr rfl, vr_2, res1 rfl (rt rfl), ?_⟩
 exact ⟨F_1, r_2, vr_2, rfl, hK, hS, hL_a, hL_b, hM⟩
def srcs_Minus_W (a : List T_api_Addr) (b : List T_api_Addr) (Q : (List T_api_Addr) → Prop) : Prop :=
 srcs_minus_W a b (fun r_2 => Q r_2)
theorem srcs_Minus_walk {F : Fz} {fr : List Ow} {h0 : Heap} (a : List T_api_Addr) (b : List T_api_Addr) (va : Value) (vb : Value) (hS : St F (fr) h0) (hL_a : SliceF F h0 17 e_api_Addr va a) (hL_b : SliceF F h0 17 e_api_Addr vb b) {Q : (List T_api_Addr) → Prop} (hM : srcs_Minus_W a b Q) :
  HC Tryz.prog 142 #[va, vb] h0 fun u h' => ∃ (F' : Fz) (r_1 : List T_api_Addr) (vr_1 : Value), u = vr_1 ∧ Kp F h0 F' h' ∧ St F' (Ow.own 28 17 e_api_Addr vr_1 r_1 :: fr) h' ∧ (SliceF F' h' 17 e_api_Addr va a) ∧ (SliceF F' h' 17 e_api_Addr vb b) ∧ Q r_1 := by
 unfold srcs_Minus_W at hM
 have hK := Kp.refl F h0
 refine HC.of_HW (n := 8) Tryz.func142 rfl rfl (Nat.le_of_ble_eq_true rfl) ?_
 refine HW.seq ?_
 refine HW.region ?_
 refine oA (.slice none 0 0) rfl rfl ?_
 refine HO.nil (thenQ_normal (?_))
 refine HW.seq ?_
 refine HW.region ?_
 refine oM (va) rfl rfl ?_
 refine oM (vb) rfl rfl ?_
 refine HO.call (want_none) rfl (ec en_158 rfl rfl) (srcs_minus_walk (fr := (fr)) a b va vb hS hL_a hL_b hM) ?_
 rintro vr_2 h_1 ⟨F_1, r_2, _, rfl, hk, hS, _, _, hM⟩
 replace hK := hK.trans hk
 replace hL_a := hL_a.kp hk
 replace hL_b := hL_b.kp hk
 refine oA (vr_2) rfl rfl ?_
 refine HO.nil (thenQ_normal (?_))
 refine HW.ret (?_)
 refine ⟨.inr rfl, vr_2, res1 rfl (rt rfl), ?_⟩
 exact ⟨F_1, r_2, vr_2, rfl, hK, hS, hL_a, hL_b, hM⟩
def merge_Change_j1 (g : T_api_Addr) (next_Sources : List T_api_Addr) (Q : (List T_api_Record) → Prop) (kind_1 : Int) : Prop :=
 slices_Clone_s_api_Addr_api_Addr_W next_Sources (fun r_2 => ∀ vr_2 : Value, (Q ([(kind_1, g, (vr_2, r_2))] : List T_api_Record)))
def merge_Change_j3 (g : T_api_Addr) (Q : (List T_api_Record) → Prop) (less_1 : List T_api_Addr) (out_1 : List T_api_Record) : Prop :=
 (0 < (less_1.length : Int) → ∀ vless_1 : Value, (((out_1.length + ([(6, g, (vless_1, less_1))] : List T_api_Record).length) * 56 ≤ 140737488355328) ∧ (Q (out_1 ++ ([(6, g, (vless_1, less_1))] : List T_api_Record))))) ∧ (¬ (0 < (less_1.length : Int)) → Q out_1)
def merge_Change_j2 (g : T_api_Addr) (Q : (List T_api_Record) → Prop) (more_1 : List T_api_Addr) (less_1 : List T_api_Addr) : Prop :=
 (0 < (more_1.length : Int) → ∀ vmore_1 : Value, (((([(5, g, (vmore_1, more_1))] : List T_api_Record)).length * 56 ≤ 140737488355328) ∧ (merge_Change_j3 g Q less_1 ([(5, g, (vmore_1, more_1))] : List T_api_Record)))) ∧ (¬ (0 < (more_1.length : Int)) → merge_Change_j3 g Q less_1 [])
def merge_Change_W (g : T_api_Addr) (old_Exclude : Bool) (old_Sources : List T_api_Addr) (next_Exclude : Bool) (next_Sources : List T_api_Addr) (Q : (List T_api_Record) → Prop) : Prop :=
 ((!(old_Exclude == next_Exclude)) = true → (next_Exclude = true → merge_Change_j1 g next_Sources Q 4) ∧ (next_Exclude = false → merge_Change_j1 g next_Sources Q 3)) ∧ ((!(old_Exclude == next_Exclude)) = false → srcs_Minus_W next_Sources old_Sources (fun r_3 => srcs_Minus_W old_Sources next_Sources (fun r_4 => (old_Exclude = true → merge_Change_j2 g Q r_4 r_3) ∧ (old_Exclude = false → merge_Change_j2 g Q r_3 r_4))))
theorem merge_Change_walk {F : Fz} {fr : List Ow} {h0 : Heap} (g : T_api_Addr) (old_Exclude : Bool) (old_Sources : List T_api_Addr) (next_Exclude : Bool) (next_Sources : List T_api_Addr) (vold_Sources : Value) (vnext_Sources : Value) (hS : St F (fr) h0) (hL_old_Sources : SliceF F h0 17 e_api_Addr vold_Sources old_Sources) (hL_next_Sources : SliceF F h0 17 e_api_Addr vnext_Sources next_Sources) {Q : (List T_api_Record) → Prop} (hM : merge_Change_W g old_Exclude old_Sources next_Exclude next_Sources Q) :
  HC Tryz.prog 108 #[.agg (e_api_Addr g).toArray, .agg #[.bool old_Exclude, vold_Sources], .agg #[.bool next_Exclude, vnext_Sources]] h0 fun u h' => ∃ (F' : Fz) (r_1 : List T_api_Record) (vr_1 : Value), u = vr_1 ∧ Kp F h0 F' h' ∧ St F' (Ow.own 89 19 e_api_Record vr_1 r_1 :: fr) h' ∧ (SliceF F' h' 17 e_api_Addr vold_Sources old_Sources) ∧ (SliceF F' h' 17 e_api_Addr vnext_Sources next_Sources) ∧ (NfL nf_api_Record F' h' r_1) ∧ Q r_1 := by
 unfold merge_Change_W at hM
 have hK := Kp.refl F h0
 refine HC.of_HW (n := 58) Tryz.func108 rfl rfl (Nat.le_of_ble_eq_true rfl) ?_
 refine HW.seq ?_
 refine HW.region ?_
 refine HO.eff (want_none) rfl (st_box (c := (e_api_Addr g).toArray) (k' := 17) hS rfl rfl) ?_
 rintro _ h_1 ⟨b_1, rfl, hS, hk⟩
 replace hK := hK.trans hk
 replace hL_old_Sources := hL_old_Sources.kp hk
 replace hL_next_Sources := hL_next_Sources.kp hk
 refine HO.eff (want_none) rfl (st_box (c := #[.bool old_Exclude, vold_Sources]) (k' := 2) hS rfl rfl) ?_
 rintro _ h_2 ⟨b_2, rfl, hS, hk⟩
 replace hK := hK.trans hk
 replace hL_old_Sources := hL_old_Sources.kp hk
 replace hL_next_Sources := hL_next_Sources.kp hk
 refine HO.eff (want_none) rfl (st_box (c := #[.bool next_Exclude, vnext_Sources]) (k' := 2) hS rfl rfl) ?_
 rintro _ h_3 ⟨b_3, rfl, hS, hk⟩
 replace hK := hK.trans hk
 replace hL_old_Sources := hL_old_Sources.kp hk
 replace hL_next_Sources := hL_next_Sources.kp hk
 refine oA (.slice none 0 0) rfl rfl ?_
 refine HO.nil (thenQ_normal (?_))
 refine HW.seq ?_
 refine HW.region ?_
 refine oA (.slice none 0 0) rfl rfl ?_
 refine HO.nil (thenQ_normal (?_))
 refine HW.seq ?_
 refine HW.seq ?_
 refine HW.region ?_
 refine oV (.pointer (some ⟨b_2, 0, none⟩)) (q_fieldAddr fa_50_0 rfl rfl) rfl ?_
 refine oV (.bool old_Exclude) (q_load to_4 rfl (Blk.cell (hS.box 1 rfl) rfl)) rfl ?_
 refine oV (.pointer (some ⟨b_3, 0, none⟩)) (q_fieldAddr fa_50_0 rfl rfl) rfl ?_
 refine oV (.bool next_Exclude) (q_load to_4 rfl (Blk.cell (hS.box 0 rfl) rfl)) rfl ?_
 refine oV (.bool (!(old_Exclude == next_Exclude))) (q_neqB Tryz.underlying4 rfl rfl) rfl ?_
 refine HO.nil (thenQ_normal (?_))
 refine HW.cond (!(old_Exclude == next_Exclude)) rfl (fun c_1 => ?_) (fun c_1 => ?_)
 ·
  replace hM := hM.1 c_1
  refine HW.seq ?_
  refine HW.region ?_
  refine oA (.int .i64 3) rfl rfl ?_
  refine HO.nil (thenQ_normal (?_))
  refine HW.seq_mid (fun f h => ∃ (F' : Fz) (kind_1 : Int), f 3 = .pointer (some ⟨b_1, 0, none⟩) ∧ f 4 = .pointer (some ⟨b_2, 0, none⟩) ∧ f 5 = .pointer (some ⟨b_3, 0, none⟩) ∧ f 6 = .slice none 0 0 ∧ f 7 = .slice none 0 0 ∧ f 8 = .int .i64 kind_1 ∧ Kp F h0 F' h ∧ St F' (Ow.box b_1 28 (e_api_Addr g).toArray :: Ow.box b_2 50 #[.bool old_Exclude, vold_Sources] :: Ow.box b_3 50 #[.bool next_Exclude, vnext_Sources] :: fr) h ∧ (SliceF F' h 17 e_api_Addr vold_Sources old_Sources) ∧ (SliceF F' h 17 e_api_Addr vnext_Sources next_Sources) ∧ merge_Change_j1 g next_Sources Q kind_1) ?_ ?_
  ·
   refine HW.seq ?_
   refine HW.region ?_
   refine oV (.pointer (some ⟨b_3, 0, none⟩)) (q_fieldAddr fa_50_0 rfl rfl) rfl ?_
   refine oV (.bool next_Exclude) (q_load to_4 rfl (Blk.cell (hS.box 0 rfl) rfl)) rfl ?_
   refine HO.nil (thenQ_normal (?_))
   refine HW.cond next_Exclude rfl (fun c_2 => ?_) (fun c_2 => ?_)
   ·
    replace hM := hM.1 c_2
    refine HW.region ?_
    refine oA (.int .i64 4) rfl rfl ?_
    refine HO.nil (thenQ_normal (?_))
    replace hS : St F (Ow.box b_1 28 (e_api_Addr g).toArray :: Ow.box b_2 50 #[.bool old_Exclude, vold_Sources] :: Ow.box b_3 50 #[.bool next_Exclude, vnext_Sources] :: fr) h_3 := hS.perm2 [2, 1, 0] 3 rfl rfl
    exact ⟨F, 4, rfl, rfl, rfl, rfl, rfl, rfl, hK, hS, hL_old_Sources, hL_next_Sources, hM⟩
   ·
    replace hM := hM.2 c_2
    refine HW.skip (thenQ_normal (?_))
    replace hS : St F (Ow.box b_1 28 (e_api_Addr g).toArray :: Ow.box b_2 50 #[.bool old_Exclude, vold_Sources] :: Ow.box b_3 50 #[.bool next_Exclude, vnext_Sources] :: fr) h_3 := hS.perm2 [2, 1, 0] 3 rfl rfl
    exact ⟨F, 3, rfl, rfl, rfl, rfl, rfl, rfl, hK, hS, hL_old_Sources, hL_next_Sources, hM⟩
  ·
   rintro f_1 h_4 ⟨F_1, kind_1, e3, e4, e5, e6, e7, e8, hK, hS, hL_old_Sources, hL_next_Sources, hM⟩
   unfold merge_Change_j1 at hM
   refine HW.fr [(3, .pointer (some ⟨b_1, 0, none⟩)), (4, .pointer (some ⟨b_2, 0, none⟩)), (5, .pointer (some ⟨b_3, 0, none⟩)), (6, .slice none 0 0), (7, .slice none 0 0), (8, .int .i64 kind_1)] ⟨e3, e4, e5, e6, e7, e8, trivial⟩ ?_
   refine HW.seq ?_
   refine HW.regionA 8 mixed (fun h => (Blk h b_1 (.cells (e_api_Addr g).toArray 28 (0, 0))) ∧ (Blk h b_3 (.cells #[.bool next_Exclude, vnext_Sources] 50 (0, 0)))) [] (by kernel_rfl) ?_
   refine HA.val (k := 0) (v := .int .i64 kind_1) rfl rfl (by kernel_rfl) (by kernel_rfl) (want_none) rfl (fun _ ⟨c205, c207⟩ => q_move rfl) ?_
   refine HA.val (k := 1) (v := .agg (e_api_Addr g).toArray) rfl rfl (by kernel_rfl) (by kernel_rfl) (want_none) rfl (fun _ ⟨c205, c207⟩ => q_loadAgg (cs := (e_api_Addr g)) ta_28 rfl rfl (Blk.cells (k := 17) c205 rfl)) ?_
   refine HA.val (k := 2) (v := .pointer (some ⟨b_3, 1, none⟩)) rfl rfl (by kernel_rfl) (by kernel_rfl) (want_none) rfl (fun _ ⟨c205, c207⟩ => q_fieldAddr fa_50_1 rfl rfl) ?_
   refine HA.val (k := 3) (v := vnext_Sources) rfl rfl (by kernel_rfl) (by kernel_rfl) (want_none) rfl (fun _ ⟨c205, c207⟩ => q_load to_29 rfl (Blk.cell c207 rfl)) ?_
   refine HA.one (k := 4) ⟨⟨(hS.box 0 rfl), (hS.box 2 rfl)⟩, (Go.Wk.at_nil _ _)⟩ (by kernel_rfl) ?_
   refine HS.call rfl (want_none) rfl (ec en_100 rfl rfl) (slices_Clone_s_api_Addr_api_Addr_walk (fr := (Ow.box b_1 28 (e_api_Addr g).toArray :: Ow.box b_2 50 #[.bool old_Exclude, vold_Sources] :: Ow.box b_3 50 #[.bool next_Exclude, vnext_Sources] :: fr)) next_Sources vnext_Sources hS hL_next_Sources hM) ?_
   rintro vr_2 h_5 ⟨F_2, r_2, _, rfl, hk, hS, _, hM⟩
   replace hK := hK.trans hk
   replace hL_old_Sources := hL_old_Sources.kp hk
   replace hL_next_Sources := hL_next_Sources.kp hk
   refine Go.Wk.HA.re (fun h => (Blk h b_1 (.cells (e_api_Addr g).toArray 28 (0, 0))) ∧ (Blk h b_3 (.cells #[.bool next_Exclude, vnext_Sources] 50 (0, 0)))) [(6, fun h => (OwnIs h 0 28 17 e_api_Addr vr_2 r_2))] (fun L_ h_ hL_ ⟨c205, c207⟩ hs_ => ⟨⟨c205, c207⟩, (Go.Wk.at_nil _ _)⟩) ?_
   refine Go.Wk.HA.valN (k := 5) (v := .agg (c_api_Record (.int .i64 kind_1) g vr_2).toArray) 0 6 (fun h => (OwnIs h 0 28 17 e_api_Addr vr_2 r_2)) rfl rfl (by kernel_rfl) (by kernel_rfl) (want_none) rfl rfl (by kernel_rfl) (fun _ ⟨c205, c207⟩ c232 => q_build tp_89 (fill_cons (cs' := (c_api_Record (.int .i64 kind_1) (false, (default : Ba 16)) (.slice none 0 0)).toArray) (vc := #[.int .i64 kind_1]) rfl rfl rfl (Nat.le_of_ble_eq_true rfl) rfl (fill_cons (cs' := (c_api_Record (.int .i64 kind_1) g (.slice none 0 0)).toArray) (vc := (e_api_Addr g).toArray) rfl rfl rfl (Nat.le_of_ble_eq_true rfl) rfl (fill_cons (cs' := (c_api_Record (.int .i64 kind_1) g vr_2).toArray) (vc := #[vr_2]) rfl (shp c232.slice).cells rfl (Nat.le_of_ble_eq_true rfl) rfl rfl)))) ?_
   refine HA.one (k := 6) ⟨⟨(hS.box 1 rfl), (hS.box 3 rfl)⟩, (at_now (hS.own 0 rfl) (Go.Wk.at_nil _ _))⟩ (by kernel_rfl) ?_
   obtain ⟨F_3, hS, hk, hL_1⟩ := hS.freezeOwn
   replace hK := hK.trans hk
   replace hL_old_Sources := hL_old_Sources.kp hk
   replace hL_next_Sources := hL_next_Sources.kp hk
   replace hM := hM vr_2
   refine HS.eff rfl (want_none) rfl (st_lit (enc := e_api_Record) (cells := #[.int .i64 kind_1, .bool g.1, .int .u8 (b8 g.2 0), .int .u8 (b8 g.2 1), .int .u8 (b8 g.2 2), .int .u8 (b8 g.2 3), .int .u8 (b8 g.2 4), .int .u8 (b8 g.2 5), .int .u8 (b8 g.2 6), .int .u8 (b8 g.2 7), .int .u8 (b8 g.2 8), .int .u8 (b8 g.2 9), .int .u8 (b8 g.2 10), .int .u8 (b8 g.2 11), .int .u8 (b8 g.2 12), .int .u8 (b8 g.2 13), .int .u8 (b8 g.2 14), .int .u8 (b8 g.2 15), vr_2]) #[.int .i64 0, .bool false, .int .u8 0, .int .u8 0, .int .u8 0, .int .u8 0, .int .u8 0, .int .u8 0, .int .u8 0, .int .u8 0, .int .u8 0, .int .u8 0, .int .u8 0, .int .u8 0, .int .u8 0, .int .u8 0, .int .u8 0, .int .u8 0, .slice none 0 0] ([(kind_1, g, (vr_2, r_2))] : List T_api_Record) hS tl_22 (by decide) (by decide) (by kernel_rfl) (by kernel_rfl) rfl (by intro x hx; rfl) rfl) ?_
   rintro _ h_6 ⟨b_4, rfl, hS, hk⟩
   replace hK := hK.trans hk
   replace hL_old_Sources := hL_old_Sources.kp hk
   replace hL_next_Sources := hL_next_Sources.kp hk
   replace hL_1 := hL_1.kp hk
   have hN_2 : NfL nf_api_Record F_3 h_6 ([(kind_1, g, (vr_2, r_2))] : List T_api_Record) := (NfL.cons (nfm_api_Record (kind_1, g, (vr_2, r_2)) hL_1) (NfL.nil _ _ _))
   refine HA.val (k := 7) (v := .slice (some ⟨b_4, 0, none⟩) 1 1) rfl rfl (by kernel_rfl) (by kernel_rfl) (want_none) rfl (fun _ ⟨c205, c207⟩ => q_assign rfl) ?_
   refine HA.nil ⟨⟨(hS.box 1 rfl), (hS.box 3 rfl)⟩, (at_done (by kernel_rfl) (Go.Wk.at_nil _ _))⟩ (by kernel_rfl) (thenQ_normal (?_))
   refine HW.ret (thenQ_ret (?_))
   refine ⟨.inr rfl, .slice (some ⟨b_4, 0, none⟩) 1 1, res1 rfl (rt rfl), ?_⟩
   replace hS : St F_3 (Ow.own 89 19 e_api_Record (.slice (some ⟨b_4, 0, none⟩) 1 1) ([(kind_1, g, (vr_2, r_2))] : List T_api_Record) :: fr) h_6 := hS.perm2 [0] 4 rfl rfl
   exact ⟨F_3, ([(kind_1, g, (vr_2, r_2))] : List T_api_Record), .slice (some ⟨b_4, 0, none⟩) 1 1, rfl, hK, hS, hL_old_Sources, hL_next_Sources, hN_2, hM⟩
 ·
  replace hM := hM.2 c_1
  refine HW.skip (thenQ_normal (?_))
  refine HW.seq ?_
  refine HW.regionA 12 mixed (fun h => (Blk h b_3 (.cells #[.bool next_Exclude, vnext_Sources] 50 (0, 0))) ∧ (Blk h b_2 (.cells #[.bool old_Exclude, vold_Sources] 50 (0, 0)))) [] (by kernel_rfl) ?_
  refine HA.val (k := 0) (v := .pointer (some ⟨b_3, 1, none⟩)) rfl rfl (by kernel_rfl) (by kernel_rfl) (want_none) rfl (fun _ ⟨c204, c203⟩ => q_fieldAddr fa_50_1 rfl rfl) ?_
  refine HA.val (k := 1) (v := vnext_Sources) rfl rfl (by kernel_rfl) (by kernel_rfl) (want_none) rfl (fun _ ⟨c204, c203⟩ => q_load to_29 rfl (Blk.cell c204 rfl)) ?_
  refine HA.val (k := 2) (v := .pointer (some ⟨b_2, 1, none⟩)) rfl rfl (by kernel_rfl) (by kernel_rfl) (want_none) rfl (fun _ ⟨c204, c203⟩ => q_fieldAddr fa_50_1 rfl rfl) ?_
  refine HA.val (k := 3) (v := vold_Sources) rfl rfl (by kernel_rfl) (by kernel_rfl) (want_none) rfl (fun _ ⟨c204, c203⟩ => q_load to_29 rfl (Blk.cell c203 rfl)) ?_
  refine HA.val (k := 5) (v := .pointer (some ⟨b_2, 1, none⟩)) rfl rfl (by kernel_rfl) (by kernel_rfl) (want_none) rfl (fun _ ⟨c204, c203⟩ => q_fieldAddr fa_50_1 rfl rfl) ?_
  refine HA.val (k := 6) (v := vold_Sources) rfl rfl (by kernel_rfl) (by kernel_rfl) (want_none) rfl (fun _ ⟨c204, c203⟩ => q_load to_29 rfl (Blk.cell c203 rfl)) ?_
  refine HA.val (k := 7) (v := .pointer (some ⟨b_3, 1, none⟩)) rfl rfl (by kernel_rfl) (by kernel_rfl) (want_none) rfl (fun _ ⟨c204, c203⟩ => q_fieldAddr fa_50_1 rfl rfl) ?_
  refine HA.val (k := 8) (v := vnext_Sources) rfl rfl (by kernel_rfl) (by kernel_rfl) (want_none) rfl (fun _ ⟨c204, c203⟩ => q_load to_29 rfl (Blk.cell c204 rfl)) ?_
  refine HA.one (k := 4) ⟨⟨(hS.box 0 rfl), (hS.box 1 rfl)⟩, (Go.Wk.at_nil _ _)⟩ (by kernel_rfl) ?_
  refine HS.call rfl (want_none) rfl (ec en_142 rfl rfl) (srcs_Minus_walk (fr := (Ow.box b_3 50 #[.bool next_Exclude, vnext_Sources] :: Ow.box b_2 50 #[.bool old_Exclude, vold_Sources] :: Ow.box b_1 28 (e_api_Addr g).toArray :: fr)) next_Sources old_Sources vnext_Sources vold_Sources hS hL_next_Sources hL_old_Sources hM) ?_
  rintro vr_3 h_7 ⟨F_4, r_3, _, rfl, hk, hS, _, _, hM⟩
  replace hK := hK.trans hk
  replace hL_old_Sources := hL_old_Sources.kp hk
  replace hL_next_Sources := hL_next_Sources.kp hk
  refine HA.one (k := 9) ⟨⟨(hS.box 1 rfl), (hS.box 2 rfl)⟩, (Go.Wk.at_nil _ _)⟩ (by kernel_rfl) ?_
  refine HS.call rfl (want_none) rfl (ec en_142 rfl rfl) (srcs_Minus_walk (fr := (Ow.own 28 17 e_api_Addr vr_3 r_3 :: Ow.box b_3 50 #[.bool next_Exclude, vnext_Sources] :: Ow.box b_2 50 #[.bool old_Exclude, vold_Sources] :: Ow.box b_1 28 (e_api_Addr g).toArray :: fr)) old_Sources next_Sources vold_Sources vnext_Sources hS hL_old_Sources hL_next_Sources hM) ?_
  rintro vr_4 h_8 ⟨F_5, r_4, _, rfl, hk, hS, _, _, hM⟩
  replace hK := hK.trans hk
  replace hL_old_Sources := hL_old_Sources.kp hk
  replace hL_next_Sources := hL_next_Sources.kp hk
  refine HA.val (k := 10) (v := vr_3) rfl rfl (by kernel_rfl) (by kernel_rfl) (want_none) rfl (fun _ ⟨c204, c203⟩ => q_assign rfl) ?_
  refine HA.val (k := 11) (v := vr_4) rfl rfl (by kernel_rfl) (by kernel_rfl) (want_none) rfl (fun _ ⟨c204, c203⟩ => q_assign rfl) ?_
  refine HA.nil ⟨⟨(hS.box 2 rfl), (hS.box 3 rfl)⟩, (Go.Wk.at_nil _ _)⟩ (by kernel_rfl) (thenQ_normal (?_))
  refine HW.seq_mid (fun f h => ∃ (F' : Fz) (more_1 : List T_api_Addr) (less_1 : List T_api_Addr) (vmore_1 : Value) (vless_1 : Value), f 3 = .pointer (some ⟨b_1, 0, none⟩) ∧ f 6 = .slice none 0 0 ∧ f 7 = .slice none 0 0 ∧ f 9 = vmore_1 ∧ f 10 = vless_1 ∧ Kp F h0 F' h ∧ St F' (Ow.box b_1 28 (e_api_Addr g).toArray :: Ow.own 28 17 e_api_Addr vmore_1 more_1 :: Ow.own 28 17 e_api_Addr vless_1 less_1 :: fr) h ∧ (SliceF F' h 17 e_api_Addr vold_Sources old_Sources) ∧ (SliceF F' h 17 e_api_Addr vnext_Sources next_Sources) ∧ merge_Change_j2 g Q more_1 less_1) ?_ ?_
  ·
   refine HW.seq ?_
   refine HW.region ?_
   refine oV (.pointer (some ⟨b_2, 0, none⟩)) (q_fieldAddr fa_50_0 rfl rfl) rfl ?_
   refine oV (.bool old_Exclude) (q_load to_4 rfl (Blk.cell (hS.box 3 rfl) rfl)) rfl ?_
   refine HO.nil (thenQ_normal (?_))
   refine HW.cond old_Exclude rfl (fun c_3 => ?_) (fun c_3 => ?_)
   ·
    replace hM := hM.1 c_3
    refine HW.region ?_
    refine oM (vr_4) rfl rfl ?_
    refine oM (vr_3) rfl rfl ?_
    refine oA (vr_4) rfl rfl ?_
    refine oA (vr_3) rfl rfl ?_
    refine HO.nil (thenQ_normal (?_))
    replace hS : St F_5 (Ow.box b_1 28 (e_api_Addr g).toArray :: Ow.own 28 17 e_api_Addr vr_4 r_4 :: Ow.own 28 17 e_api_Addr vr_3 r_3 :: fr) h_8 := hS.perm2 [4, 0, 1] 5 rfl rfl
    exact ⟨F_5, r_4, r_3, vr_4, vr_3, rfl, rfl, rfl, rfl, rfl, hK, hS, hL_old_Sources, hL_next_Sources, hM⟩
   ·
    replace hM := hM.2 c_3
    refine HW.skip (thenQ_normal (?_))
    replace hS : St F_5 (Ow.box b_1 28 (e_api_Addr g).toArray :: Ow.own 28 17 e_api_Addr vr_3 r_3 :: Ow.own 28 17 e_api_Addr vr_4 r_4 :: fr) h_8 := hS.perm2 [4, 1, 0] 5 rfl rfl
    exact ⟨F_5, r_3, r_4, vr_3, vr_4, rfl, rfl, rfl, rfl, rfl, hK, hS, hL_old_Sources, hL_next_Sources, hM⟩
  ·
   rintro f_2 h_9 ⟨F_6, more_1, less_1, vmore_1, vless_1, e3, e6, e7, e9, e10, hK, hS, hL_old_Sources, hL_next_Sources, hM⟩
   unfold merge_Change_j2 at hM
   refine HW.fr [(3, .pointer (some ⟨b_1, 0, none⟩)), (6, .slice none 0 0), (7, .slice none 0 0), (9, vmore_1), (10, vless_1)] ⟨e3, e6, e7, e9, e10, trivial⟩ ?_
   refine HW.seq_mid (fun f h => ∃ (F' : Fz) (out_1 : List T_api_Record) (vout_1 : Value), f 3 = .pointer (some ⟨b_1, 0, none⟩) ∧ f 6 = .slice none 0 0 ∧ f 7 = vout_1 ∧ f 10 = vless_1 ∧ Kp F h0 F' h ∧ St F' (Ow.box b_1 28 (e_api_Addr g).toArray :: Ow.own 89 19 e_api_Record vout_1 out_1 :: Ow.own 28 17 e_api_Addr vless_1 less_1 :: fr) h ∧ (SliceF F' h 17 e_api_Addr vold_Sources old_Sources) ∧ (SliceF F' h 17 e_api_Addr vnext_Sources next_Sources) ∧ (NfL nf_api_Record F' h out_1) ∧ merge_Change_j3 g Q less_1 out_1) ?_ ?_
   ·
    refine HW.seq ?_
    refine HW.region ?_
    refine oM (vmore_1) rfl rfl ?_
    refine oV (.int .i64 (more_1.length : Int)) (q_len ts_29 (shp (hS.own 1 rfl).slice) rfl rfl) rfl ?_
    refine oV (.bool (decide (0 < (more_1.length : Int)))) (q_gtr rfl rfl) rfl ?_
    refine HO.nil (thenQ_normal (?_))
    refine HW.cond (decide (0 < (more_1.length : Int))) rfl (fun c_4 => ?_) (fun c_4 => ?_)
    ·
     replace hM := hM.1 (of_decide_eq_true c_4)
     refine HW.region ?_
     refine oM (.slice none 0 0) rfl rfl ?_
     refine oV (.agg (e_api_Addr g).toArray) (q_loadAgg (cs := (e_api_Addr g)) ta_28 rfl rfl (Blk.cells (k := 17) (hS.box 0 rfl) rfl)) rfl ?_
     refine oM (vmore_1) rfl rfl ?_
     refine oV (.agg (c_api_Record (.int .i64 5) g vmore_1).toArray) (q_build tp_89 (fill_cons (cs' := (c_api_Record (.int .i64 5) (false, (default : Ba 16)) (.slice none 0 0)).toArray) (vc := #[.int .i64 5]) rfl rfl rfl (Nat.le_of_ble_eq_true rfl) rfl (fill_cons (cs' := (c_api_Record (.int .i64 5) g (.slice none 0 0)).toArray) (vc := (e_api_Addr g).toArray) rfl rfl rfl (Nat.le_of_ble_eq_true rfl) rfl (fill_cons (cs' := (c_api_Record (.int .i64 5) g vmore_1).toArray) (vc := #[vmore_1]) rfl (shp (hS.own 1 rfl).slice).cells rfl (Nat.le_of_ble_eq_true rfl) rfl rfl)))) rfl ?_
     replace hS : St F_6 (Ow.own 28 17 e_api_Addr vmore_1 more_1 :: Ow.box b_1 28 (e_api_Addr g).toArray :: Ow.own 28 17 e_api_Addr vless_1 less_1 :: fr) h_9 := hS.perm2 [1, 0, 2] 3 rfl rfl
     obtain ⟨F_7, hS, hk, hL_2⟩ := hS.freezeOwn
     replace hK := hK.trans hk
     replace hL_old_Sources := hL_old_Sources.kp hk
     replace hL_next_Sources := hL_next_Sources.kp hk
     replace hM := hM vmore_1
     refine HO.eff (want_none) rfl (st_lit (enc := e_api_Record) (cells := #[.int .i64 5, .bool g.1, .int .u8 (b8 g.2 0), .int .u8 (b8 g.2 1), .int .u8 (b8 g.2 2), .int .u8 (b8 g.2 3), .int .u8 (b8 g.2 4), .int .u8 (b8 g.2 5), .int .u8 (b8 g.2 6), .int .u8 (b8 g.2 7), .int .u8 (b8 g.2 8), .int .u8 (b8 g.2 9), .int .u8 (b8 g.2 10), .int .u8 (b8 g.2 11), .int .u8 (b8 g.2 12), .int .u8 (b8 g.2 13), .int .u8 (b8 g.2 14), .int .u8 (b8 g.2 15), vmore_1]) #[.int .i64 0, .bool false, .int .u8 0, .int .u8 0, .int .u8 0, .int .u8 0, .int .u8 0, .int .u8 0, .int .u8 0, .int .u8 0, .int .u8 0, .int .u8 0, .int .u8 0, .int .u8 0, .int .u8 0, .int .u8 0, .int .u8 0, .int .u8 0, .slice none 0 0] ([(5, g, (vmore_1, more_1))] : List T_api_Record) hS tl_22 (by decide) (by decide) (by kernel_rfl) (by kernel_rfl) rfl (by intro x hx; rfl) rfl) ?_
     rintro _ h_10 ⟨b_5, rfl, hS, hk⟩
     replace hK := hK.trans hk
     replace hL_old_Sources := hL_old_Sources.kp hk
     replace hL_next_Sources := hL_next_Sources.kp hk
     replace hL_2 := hL_2.kp hk
     have hN_4 : NfL nf_api_Record F_7 h_10 ([(5, g, (vmore_1, more_1))] : List T_api_Record) := (NfL.cons (nfm_api_Record (5, g, (vmore_1, more_1)) hL_2) (NfL.nil _ _ _))
     obtain ⟨ho_1, hM⟩ := hM
     refine HO.eff (want_none) rfl (st_appendNil te_22 hS (hS.own 0 rfl).slice rfl rfl rfl (fun a_ ha_ => nfo_api_Record (hN_4.is.all a_ ha_)) ho_1 (by omega)) ?_
     rintro v_1 h_11 ⟨hS, hk⟩
     replace hK := hK.trans hk
     replace hL_old_Sources := hL_old_Sources.kp hk
     replace hL_next_Sources := hL_next_Sources.kp hk
     replace hN_4 := hN_4.kp hk
     refine oA (v_1) rfl rfl ?_
     refine HO.nil (thenQ_normal (?_))
     replace hS : St F_7 (Ow.box b_1 28 (e_api_Addr g).toArray :: Ow.own 89 19 e_api_Record v_1 ([(5, g, (vmore_1, more_1))] : List T_api_Record) :: Ow.own 28 17 e_api_Addr vless_1 less_1 :: fr) h_11 := hS.perm2 [2, 0, 3] 4 rfl rfl
     exact ⟨F_7, ([(5, g, (vmore_1, more_1))] : List T_api_Record), v_1, rfl, rfl, rfl, rfl, hK, hS, hL_old_Sources, hL_next_Sources, hN_4, hM⟩
    ·
     replace hM := hM.2 (of_decide_eq_false c_4)
     refine HW.skip (thenQ_normal (?_))
     replace hS := hS.nilOwn 89 19 e_api_Record
     have hN_5 : NfL nf_api_Record F_6 h_9 ([] : List T_api_Record) := NfL.nil _ _ _
     replace hS : St F_6 (Ow.box b_1 28 (e_api_Addr g).toArray :: Ow.own 89 19 e_api_Record (.slice none 0 0) ([] : List T_api_Record) :: Ow.own 28 17 e_api_Addr vless_1 less_1 :: fr) h_9 := hS.perm2 [1, 0, 3] 4 rfl rfl
     exact ⟨F_6, [], .slice none 0 0, rfl, rfl, rfl, rfl, hK, hS, hL_old_Sources, hL_next_Sources, hN_5, hM⟩
   ·
    rintro f_3 h_12 ⟨F_8, out_1, vout_1, e3, e6, e7, e10, hK, hS, hL_old_Sources, hL_next_Sources, hN_3, hM⟩
    unfold merge_Change_j3 at hM
    refine HW.fr [(3, .pointer (some ⟨b_1, 0, none⟩)), (6, .slice none 0 0), (7, vout_1), (10, vless_1)] ⟨e3, e6, e7, e10, trivial⟩ ?_
    refine HW.seq ?_
    refine HW.seq ?_
    refine HW.region ?_
    refine oM (vless_1) rfl rfl ?_
    refine oV (.int .i64 (less_1.length : Int)) (q_len ts_29 (shp (hS.own 2 rfl).slice) rfl rfl) rfl ?_
    refine oV (.bool (decide (0 < (less_1.length : Int)))) (q_gtr rfl rfl) rfl ?_
    refine HO.nil (thenQ_normal (?_))
    refine HW.cond (decide (0 < (less_1.length : Int))) rfl (fun c_5 => ?_) (fun c_5 => ?_)
    ·
     replace hM := hM.1 (of_decide_eq_true c_5)
     refine HW.region ?_
     refine oM (vout_1) rfl rfl ?_
     refine oV (.agg (e_api_Addr g).toArray) (q_loadAgg (cs := (e_api_Addr g)) ta_28 rfl rfl (Blk.cells (k := 17) (hS.box 0 rfl) rfl)) rfl ?_
     refine oM (vless_1) rfl rfl ?_
     refine oV (.agg (c_api_Record (.int .i64 6) g vless_1).toArray) (q_build tp_89 (fill_cons (cs' := (c_api_Record (.int .i64 6) (false, (default : Ba 16)) (.slice none 0 0)).toArray) (vc := #[.int .i64 6]) rfl rfl rfl (Nat.le_of_ble_eq_true rfl) rfl (fill_cons (cs' := (c_api_Record (.int .i64 6) g (.slice none 0 0)).toArray) (vc := (e_api_Addr g).toArray) rfl rfl rfl (Nat.le_of_ble_eq_true rfl) rfl (fill_cons (cs' := (c_api_Record (.int .i64 6) g vless_1).toArray) (vc := #[vless_1]) rfl (shp (hS.own 2 rfl).slice).cells rfl (Nat.le_of_ble_eq_true rfl) rfl rfl)))) rfl ?_
     replace hS : St F_8 (Ow.own 28 17 e_api_Addr vless_1 less_1 :: Ow.box b_1 28 (e_api_Addr g).toArray :: Ow.own 89 19 e_api_Record vout_1 out_1 :: fr) h_12 := hS.perm2 [2, 0, 1] 3 rfl rfl
     obtain ⟨F_9, hS, hk, hL_3⟩ := hS.freezeOwn
     replace hK := hK.trans hk
     replace hL_old_Sources := hL_old_Sources.kp hk
     replace hL_next_Sources := hL_next_Sources.kp hk
     replace hN_3 := hN_3.kp hk
     replace hM := hM vless_1
     refine HO.eff (want_none) rfl (st_lit (enc := e_api_Record) (cells := #[.int .i64 6, .bool g.1, .int .u8 (b8 g.2 0), .int .u8 (b8 g.2 1), .int .u8 (b8 g.2 2), .int .u8 (b8 g.2 3), .int .u8 (b8 g.2 4), .int .u8 (b8 g.2 5), .int .u8 (b8 g.2 6), .int .u8 (b8 g.2 7), .int .u8 (b8 g.2 8), .int .u8 (b8 g.2 9), .int .u8 (b8 g.2 10), .int .u8 (b8 g.2 11), .int .u8 (b8 g.2 12), .int .u8 (b8 g.2 13), .int .u8 (b8 g.2 14), .int .u8 (b8 g.2 15), vless_1]) #[.int .i64 0, .bool false, .int .u8 0, .int .u8 0, .int .u8 0, .int .u8 0, .int .u8 0, .int .u8 0, .int .u8 0, .int .u8 0, .int .u8 0, .int .u8 0, .int .u8 0, .int .u8 0, .int .u8 0, .int .u8 0, .int .u8 0, .int .u8 0, .slice none 0 0] ([(6, g, (vless_1, less_1))] : List T_api_Record) hS tl_22 (by decide) (by decide) (by kernel_rfl) (by kernel_rfl) rfl (by intro x hx; rfl) rfl) ?_
     rintro _ h_13 ⟨b_6, rfl, hS, hk⟩
     replace hK := hK.trans hk
     replace hL_old_Sources := hL_old_Sources.kp hk
     replace hL_next_Sources := hL_next_Sources.kp hk
     replace hN_3 := hN_3.kp hk
     replace hL_3 := hL_3.kp hk
     have hN_6 : NfL nf_api_Record F_9 h_13 ([(6, g, (vless_1, less_1))] : List T_api_Record) := (NfL.cons (nfm_api_Record (6, g, (vless_1, less_1)) hL_3) (NfL.nil _ _ _))
     obtain ⟨ho_2, hM⟩ := hM
     refine HO.eff (want_none) rfl (st_append te_22 hS (i := 2) rfl (hS.own 0 rfl).slice rfl rfl rfl (fun a_ ha_ => nfo_api_Record (hN_6.is.all a_ ha_)) ho_2 (by omega)) ?_
     rintro v_2 h_14 ⟨hS, hk⟩
     replace hK := hK.trans hk
     replace hL_old_Sources := hL_old_Sources.kp hk
     replace hL_next_Sources := hL_next_Sources.kp hk
     replace hN_3 := hN_3.kp hk
     replace hN_6 := hN_6.kp hk
     have hN_7 : NfL nf_api_Record F_9 h_14 (out_1 ++ ([(6, g, (vless_1, less_1))] : List T_api_Record)) := NfL.app hN_3 hN_6
     refine oA (v_2) rfl rfl ?_
     refine HO.nil (thenQ_normal (?_))
     refine HW.seq ?_
     refine HW.region ?_
     refine oM (v_2) rfl rfl ?_
     refine oA (v_2) rfl rfl ?_
     refine HO.nil (thenQ_normal (?_))
     refine HW.ret (?_)
     refine ⟨.inr rfl, v_2, res1 rfl (rt rfl), ?_⟩
     replace hS : St F_9 (Ow.own 89 19 e_api_Record v_2 (out_1 ++ ([(6, g, (vless_1, less_1))] : List T_api_Record)) :: fr) h_14 := hS.perm2 [2] 3 rfl rfl
     exact ⟨F_9, out_1 ++ ([(6, g, (vless_1, less_1))] : List T_api_Record), v_2, rfl, hK, hS, hL_old_Sources, hL_next_Sources, hN_7, hM⟩
    ·
     replace hM := hM.2 (of_decide_eq_false c_5)
     refine HW.skip (thenQ_normal (?_))
     refine HW.seq ?_
     refine HW.region ?_
     refine oM (vout_1) rfl rfl ?_
     refine oA (vout_1) rfl rfl ?_
     refine HO.nil (thenQ_normal (?_))
     refine HW.ret (?_)
     refine ⟨.inr rfl, vout_1, res1 rfl (rt rfl), ?_⟩
     replace hS : St F_8 (Ow.own 89 19 e_api_Record vout_1 out_1 :: fr) h_12 := hS.perm2 [1] 3 rfl rfl
     exact ⟨F_8, out_1, vout_1, rfl, hK, hS, hL_old_Sources, hL_next_Sources, hN_3, hM⟩
def host_size_W (v6 : Bool) (r_Kind : Int) (r_Group : T_api_Addr) (r_Sources : List T_api_Addr) (Q : Int → Prop) : Prop :=
 (v6 = true → (I64 (16 * (r_Sources.length : Int))) ∧ ((I64 (20 + (16 * (r_Sources.length : Int)))) ∧ (Q (20 + (16 * (r_Sources.length : Int)))))) ∧ (v6 = false → (I64 (4 * (r_Sources.length : Int))) ∧ ((I64 (8 + (4 * (r_Sources.length : Int)))) ∧ (Q (8 + (4 * (r_Sources.length : Int))))))
theorem host_size_walk {F : Fz} {fr : List Ow} {h0 : Heap} (v6 : Bool) (r_Kind : Int) (r_Group : T_api_Addr) (r_Sources : List T_api_Addr) (vr_Sources : Value) (hS : St F (fr) h0) (hL_r_Sources : SliceF F h0 17 e_api_Addr vr_Sources r_Sources) {Q : Int → Prop} (hM : host_size_W v6 r_Kind r_Group r_Sources Q) :
  HC Tryz.prog 99 #[.bool v6, .agg (c_api_Record (.int .i64 r_Kind) r_Group vr_Sources).toArray] h0 fun u h' => ∃ (F' : Fz) (r_1 : Int), u = .int .i64 r_1 ∧ Kp F h0 F' h' ∧ St F' (fr) h' ∧ (SliceF F' h' 17 e_api_Addr vr_Sources r_Sources) ∧ Q r_1 := by
 unfold host_size_W at hM
 have hK := Kp.refl F h0
 refine HC.of_HW (n := 16) Tryz.func99 rfl rfl (Nat.le_of_ble_eq_true rfl) ?_
 refine HW.seq ?_
 refine HW.region ?_
 refine HO.eff (want_none) rfl (st_box (c := (c_api_Record (.int .i64 r_Kind) r_Group vr_Sources).toArray) (k' := 19) hS rfl rfl) ?_
 rintro _ h_1 ⟨b_1, rfl, hS, hk⟩
 replace hK := hK.trans hk
 replace hL_r_Sources := hL_r_Sources.kp hk
 refine oA (.int .i64 0) rfl rfl ?_
 refine HO.nil (thenQ_normal (?_))
 refine HW.seq ?_
 refine HW.seq ?_
 refine HW.region ?_
 refine oM (.bool v6) rfl rfl ?_
 refine HO.nil (thenQ_normal (?_))
 refine HW.cond v6 rfl (fun c_1 => ?_) (fun c_1 => ?_)
 ·
  replace hM := hM.1 c_1
  refine HW.seq ?_
  refine HW.region ?_
  refine oV (.pointer (some ⟨b_1, 18, none⟩)) (q_fieldAddr fa_89_2 rfl rfl) rfl ?_
  refine oV (vr_Sources) (q_load to_29 rfl (Blk.cell (hS.box 0 rfl) rfl)) rfl ?_
  refine oV (.int .i64 (r_Sources.length : Int)) (q_len ts_29 (shp hL_r_Sources.is) rfl rfl) rfl ?_
  obtain ⟨ho_1, hM⟩ := hM
  refine oV (.int .i64 (16 * (r_Sources.length : Int))) (q_mulN _ rfl rfl rfl ho_1.1 ho_1.2) rfl ?_
  obtain ⟨ho_2, hM⟩ := hM
  refine oV (.int .i64 (20 + (16 * (r_Sources.length : Int)))) (q_addN _ rfl rfl rfl ho_2.1 ho_2.2) rfl ?_
  refine oA (.int .i64 (20 + (16 * (r_Sources.length : Int)))) rfl rfl ?_
  refine HO.nil (thenQ_normal (?_))
  refine HW.ret (thenQ_ret (?_))
  refine ⟨.inr rfl, .int .i64 (20 + (16 * (r_Sources.length : Int))), res1 rfl (rt rfl), ?_⟩
  replace hS : St F (fr) h_1 := hS.perm2 [] 1 rfl rfl
  exact ⟨F, 20 + (16 * (r_Sources.length : Int)), rfl, hK, hS, hL_r_Sources, hM⟩
 ·
  replace hM := hM.2 c_1
  refine HW.skip (thenQ_normal (?_))
  refine HW.seq ?_
  refine HW.region ?_
  refine oV (.pointer (some ⟨b_1, 18, none⟩)) (q_fieldAddr fa_89_2 rfl rfl) rfl ?_
  refine oV (vr_Sources) (q_load to_29 rfl (Blk.cell (hS.box 0 rfl) rfl)) rfl ?_
  refine oV (.int .i64 (r_Sources.length : Int)) (q_len ts_29 (shp hL_r_Sources.is) rfl rfl) rfl ?_
  obtain ⟨ho_3, hM⟩ := hM
  refine oV (.int .i64 (4 * (r_Sources.length : Int))) (q_mulN _ rfl rfl rfl ho_3.1 ho_3.2) rfl ?_
  obtain ⟨ho_4, hM⟩ := hM
  refine oV (.int .i64 (8 + (4 * (r_Sources.length : Int)))) (q_addN _ rfl rfl rfl ho_4.1 ho_4.2) rfl ?_
  refine oA (.int .i64 (8 + (4 * (r_Sources.length : Int)))) rfl rfl ?_
  refine HO.nil (thenQ_normal (?_))
  refine HW.ret (?_)
  refine ⟨.inr rfl, .int .i64 (8 + (4 * (r_Sources.length : Int))), res1 rfl (rt rfl), ?_⟩
  replace hS : St F (fr) h_1 := hS.perm2 [] 1 rfl rfl
  exact ⟨F, 8 + (4 * (r_Sources.length : Int)), rfl, hK, hS, hL_r_Sources, hM⟩
def host_pack_j1 (l : List T_api_Record) (n_1 : Int) (K_1 : (List T_api_Talk) → Value → (List T_api_Record) → Int → Int → Prop) (r_2 : Int) (out_2 : List T_api_Talk) (v_2 : Value) (hot_2 : List T_api_Record) (room_2 : Int) (r_18_1 : List T_api_Addr) : Prop :=
 (I64 (room_2 - r_2)) ∧ (slices_Clone_s_api_Addr_api_Addr_W r_18_1 (fun r_4 => (I64 ((out_2.length : Int) - 1)) ∧ (((0 : Int) ≤ (out_2.length : Int) - 1 ∧ (out_2.length : Int) - 1 < (out_2.length : Int)) ∧ ((((gi out_2 ((out_2.length : Int) - 1)).2.2.2.2.2.2.2.2.2) = (v_2, hot_2)) ∧ (∀ vr_2 : Value, (((hot_2.length + ([((gi l n_1).1, ((gi l n_1).2.1), (vr_2, r_4))] : List T_api_Record).length) * 56 ≤ 140737488355328) ∧ (∀ v_5 : Value, (((out_2.length : Int) - 1 + 1 = (out_2.length : Int)) ∧ ((I64 (n_1 + 1)) ∧ (K_1 (out_2.set ((out_2.length : Int) - 1).toNat ((gi out_2 ((out_2.length : Int) - 1)).1, (gi out_2 ((out_2.length : Int) - 1)).2.1, (gi out_2 ((out_2.length : Int) - 1)).2.2.1, (gi out_2 ((out_2.length : Int) - 1)).2.2.2.1, (((gi out_2 ((out_2.length : Int) - 1)).2.2.2.2.1).1, (((gi out_2 ((out_2.length : Int) - 1)).2.2.2.2.1).2)), (gi out_2 ((out_2.length : Int) - 1)).2.2.2.2.2.1, (gi out_2 ((out_2.length : Int) - 1)).2.2.2.2.2.2.1, (gi out_2 ((out_2.length : Int) - 1)).2.2.2.2.2.2.2.1, ((gi out_2 ((out_2.length : Int) - 1)).2.2.2.2.2.2.2.2.1), (v_5, hot_2 ++ ([((gi l n_1).1, ((gi l n_1).2.1), (vr_2, r_4))] : List T_api_Record)))) v_5 (hot_2 ++ ([((gi l n_1).1, ((gi l n_1).2.1), (vr_2, r_4))] : List T_api_Record)) (room_2 - r_2) (n_1 + 1)))))))))))
def host_pack_j2 (v6 : Bool) (l : List T_api_Record) (out_1 : List T_api_Talk) (room_1 : Int) (n_1 : Int) (K_1 : (List T_api_Talk) → Value → (List T_api_Record) → Int → Int → Prop) (r_2 : Int) (v_3 : Value) (hot_3 : List T_api_Record) (r_18_2 : List T_api_Addr) (b_2 : Bool) : Prop :=
 (b_2 = true → compat_Last_W v6 (fun r_3 => (∀ x, out_1.getLast? = some x → x.2.2.2.2.2.2.2.2.2 = (v_3, hot_3)) ∧ (((out_1.length + ([(v6, r_3, 2, 0, (false, (default : Ba 16)), false, 0, 0, (.slice none 0 0, []), (.slice none 0 0, []))] : List T_api_Talk).length) * 120 ≤ 140737488355328) ∧ (host_pack_j1 l n_1 K_1 r_2 (out_1 ++ ([(v6, r_3, 2, 0, (false, (default : Ba 16)), false, 0, 0, (.slice none 0 0, []), (.slice none 0 0, []))] : List T_api_Talk)) (.slice none 0 0) [] 1392 r_18_2)))) ∧ (b_2 = false → host_pack_j1 l n_1 K_1 r_2 out_1 v_3 hot_3 room_1 r_18_2)
def host_pack_l1 (v6 : Bool) (l : List T_api_Record) (Q : (List T_api_Talk) → Prop) (K_1 : (List T_api_Talk) → Value → (List T_api_Record) → Int → Int → Prop) (out_1 : List T_api_Talk) (v_1 : Value) (hot_1 : List T_api_Record) (room_1 : Int) (n_1 : Int) : Prop :=
 (n_1 < (l.length : Int) → ((0 : Int) ≤ n_1 ∧ n_1 < (l.length : Int)) ∧ (host_size_W v6 ((gi l n_1).1) ((gi l n_1).2.1) (((gi l n_1).2.2).2) (fun r_2 => ((out_1.length : Int) = 0 → host_pack_j2 v6 l out_1 room_1 n_1 K_1 r_2 v_1 hot_1 (((gi l n_1).2.2).2) true) ∧ (¬ ((out_1.length : Int) = 0) → (room_1 < r_2 → host_pack_j2 v6 l out_1 room_1 n_1 K_1 r_2 v_1 hot_1 (((gi l n_1).2.2).2) true) ∧ (¬ (room_1 < r_2) → (I64 ((out_1.length : Int) - 1)) ∧ (((0 : Int) ≤ (out_1.length : Int) - 1 ∧ (out_1.length : Int) - 1 < (out_1.length : Int)) ∧ ((((gi out_1 ((out_1.length : Int) - 1)).2.2.2.2.2.2.2.2.2) = (v_1, hot_1)) ∧ (host_pack_j2 v6 l out_1 room_1 n_1 K_1 r_2 v_1 hot_1 (((gi l n_1).2.2).2) (decide ((hot_1.length : Int) = 64)))))))))) ∧ (¬ (n_1 < (l.length : Int)) → (∀ x, out_1.getLast? = some x → x.2.2.2.2.2.2.2.2.2 = (v_1, hot_1)) ∧ (Q out_1))
def host_pack_W (v6 : Bool) (l : List T_api_Record) (Q : (List T_api_Talk) → Prop) : Prop :=
 loopW (fun (K_1 : (List T_api_Talk × Value × List T_api_Record × Int × Int) → Prop) (s : List T_api_Talk × Value × List T_api_Record × Int × Int) => host_pack_l1 v6 l Q (fun out_1 v_1 hot_1 room_1 n_1 => K_1 (out_1, v_1, hot_1, room_1, n_1)) s.1 s.2.1 s.2.2.1 s.2.2.2.1 s.2.2.2.2) ([], .slice none 0 0, [], 0, 0)
theorem host_pack_walk {F : Fz} {fr : List Ow} {h0 : Heap} (v6 : Bool) (l : List T_api_Record) (vl : Value) (hS : St F (fr) h0) (hN_l : NfL nf_api_Record F h0 l) (hL_l : SliceF F h0 19 e_api_Record vl l) {Q : (List T_api_Talk) → Prop} (hM : host_pack_W v6 l Q) :
  HC Tryz.prog 42 #[.bool v6, vl] h0 fun u h' => ∃ (F' : Fz) (r_1 : List T_api_Talk) (vr_1 : Value), u = vr_1 ∧ Kp F h0 F' h' ∧ St F' (Ow.own 31 26 e_api_Talk vr_1 r_1 :: fr) h' ∧ (NfL nf_api_Record F' h' l) ∧ (SliceF F' h' 19 e_api_Record vl l) ∧ (NfL nf_api_Talk F' h' r_1) ∧ Q r_1 := by
 unfold host_pack_W at hM
 have hK := Kp.refl F h0
 refine HC.of_HW (n := 70) Tryz.func42 rfl rfl (Nat.le_of_ble_eq_true rfl) ?_
 refine HW.seq ?_
 refine HW.region ?_
 refine oA (.slice none 0 0) rfl rfl ?_
 refine HO.nil (thenQ_normal (?_))
 refine HW.seq ?_
 refine HW.region ?_
 refine oA (.slice none 0 0) rfl rfl ?_
 refine HO.nil (thenQ_normal (?_))
 refine HW.seq ?_
 refine HW.region ?_
 refine oA (.int .i64 0) rfl rfl ?_
 refine HO.nil (thenQ_normal (?_))
 refine HW.seq ?_
 refine HW.seq ?_
 refine HW.region ?_
 refine oM (vl) rfl rfl ?_
 refine oV (.int .i64 (l.length : Int)) (q_len ts_22 (shp hL_l.is) rfl rfl) rfl ?_
 refine oM (.int .i64 0) rfl rfl ?_
 refine HO.nil (thenQ_normal (?_))
 refine HW.block ?_
 obtain ⟨I_1, m_1, hI_1, hR_1⟩ := hM
 replace hS := hS.nilOwn 31 26 e_api_Talk
 have hN_4 : NfL nf_api_Talk F h0 ([] : List T_api_Talk) := NfL.nil _ _ _
 replace hS := hS.nilOwn 89 19 e_api_Record
 have hN_5 : NfL nf_api_Record F h0 ([] : List T_api_Record) := NfL.nil _ _ _
 have hN_6 : NfL nf_api_Talk F h0 (hotL hz_api_Talk ([] : List T_api_Talk)) := NfL.hot (fun x hp => nfm_api_Talk (hz_api_Talk x) (nff_api_Talk_24 (x := x) hp) (SliceF.nil _ _ _ _) (NfL.nil _ _ _)) hN_4
 replace hS : St F (Ow.own 31 26 e_api_Talk (.slice none 0 0) ([] : List T_api_Talk) :: Ow.own 89 19 e_api_Record (.slice none 0 0) ([] : List T_api_Record) :: fr) h0 := hS.perm2 [1, 0] 2 rfl rfl
 refine HW.loop (S := List T_api_Talk × Value × List T_api_Record × Int × Int) (fun s f h => match s with | (out_1, v_1, hot_1, room_1, n_1) => ∃ (F' : Fz) (vout_1 : Value), f 0 = .bool v6 ∧ f 4 = .slice none 0 0 ∧ f 5 = vout_1 ∧ f 6 = .int .i64 room_1 ∧ f 11 = vl ∧ f 12 = .int .i64 (l.length : Int) ∧ f 13 = .int .i64 n_1 ∧ Kp F h0 F' h ∧ St F' (Ow.own 31 26 e_api_Talk vout_1 out_1 :: Ow.own 89 19 e_api_Record v_1 hot_1 :: fr) h ∧ (NfL nf_api_Record F' h l) ∧ (SliceF F' h 19 e_api_Record vl l) ∧ (NfL nf_api_Record F' h hot_1) ∧ (NfL nf_api_Talk F' h (hotL hz_api_Talk out_1)) ∧ I_1 (out_1, v_1, hot_1, room_1, n_1)) m_1 ([], .slice none 0 0, [], 0, 0) ⟨F, .slice none 0 0, rfl, rfl, rfl, rfl, rfl, rfl, rfl, hK, hS, hN_l, hL_l, hN_5, hN_6, hI_1⟩ ?_
 rintro ⟨out_1, v_1, hot_1, room_1, n_1⟩ f_1 h_1 ⟨F_1, vout_1, e0, e4, e5, e6, e11, e12, e13, hK, hS, hN_l, hL_l, hN_2, hN_3, hI0⟩
 obtain ⟨K_1, hKe_1⟩ : ∃ K : (List T_api_Talk) → Value → (List T_api_Record) → Int → Int → Prop, K = fun out_1' v_1' hot_1' room_1' n_1' => I_1 (out_1', v_1', hot_1', room_1', n_1') ∧ m_1 (out_1', v_1', hot_1', room_1', n_1') < m_1 (out_1, v_1, hot_1, room_1, n_1) := ⟨_, rfl⟩
 have hM : host_pack_l1 v6 l Q K_1 out_1 v_1 hot_1 room_1 n_1 := by rw [hKe_1]; exact hR_1 (out_1, v_1, hot_1, room_1, n_1) hI0
 unfold host_pack_l1 at hM
 refine HW.fr [(0, .bool v6), (4, .slice none 0 0), (5, vout_1), (6, .int .i64 room_1), (11, vl), (12, .int .i64 (l.length : Int)), (13, .int .i64 n_1)] ⟨e0, e4, e5, e6, e11, e12, e13, trivial⟩ ?_
 refine HW.seq ?_
 refine HW.region ?_
 refine oV (.bool (decide (n_1 < (l.length : Int)))) (q_lss rfl rfl) rfl ?_
 refine HO.nil (thenQ_normal (?_))
 refine HW.seq ?_
 refine HW.cond (decide (n_1 < (l.length : Int))) rfl (fun c_1 => ?_) (fun c_1 => ?_)
 ·
  replace hM := hM.1 (of_decide_eq_true c_1)
  refine HW.skip (thenQ_normal (?_))
  refine HW.seq ?_
  refine HW.block ?_
  refine HW.seq ?_
  refine HW.region ?_
  obtain ⟨ho_1, hM⟩ := hM
  refine oV (elemPtr 19 vl (n_1).toNat) (q_idx ts_22 hL_l.is rfl rfl ho_1) rfl ?_
  refine oV (.agg (c_api_Record (.int .i64 ((gi l n_1).1)) ((gi l n_1).2.1) (((gi l n_1).2.2).1)).toArray) (q_ldElemAgg (cs := (c_api_Record (.int .i64 ((gi l n_1).1)) ((gi l n_1).2.1) (((gi l n_1).2.2).1))) ta_89 hL_l.is rfl ho_1 rfl) rfl ?_
  refine HO.eff (want_none) rfl (st_alloc (c := (c_api_Record (.int .i64 0) (false, (default : Ba 16)) (.slice none 0 0)).toArray) hS tz_89 rfl) ?_
  rintro _ h_2 ⟨b_1, rfl, hS, hk⟩
  replace hK := hK.trans hk
  replace hN_l := hN_l.kp hk
  replace hL_l := hL_l.kp hk
  replace hN_2 := hN_2.kp hk
  replace hN_3 := hN_3.kp hk
  refine HO.sto (want_none) rfl (st_storeAgg (c' := (c_api_Record (.int .i64 ((gi l n_1).1)) ((gi l n_1).2.1) (((gi l n_1).2.2).1)).toArray) hS (i := 0) rfl ta_89 rfl rfl rfl (List.forall_mem_cons.2 ⟨rfl, (List.forall_mem_cons.2 ⟨rfl, (List.forall_mem_cons.2 ⟨rfl, (List.forall_mem_cons.2 ⟨rfl, (List.forall_mem_cons.2 ⟨rfl, (List.forall_mem_cons.2 ⟨rfl, (List.forall_mem_cons.2 ⟨rfl, (List.forall_mem_cons.2 ⟨rfl, (List.forall_mem_cons.2 ⟨rfl, (List.forall_mem_cons.2 ⟨rfl, (List.forall_mem_cons.2 ⟨rfl, (List.forall_mem_cons.2 ⟨rfl, (List.forall_mem_cons.2 ⟨rfl, (List.forall_mem_cons.2 ⟨rfl, (List.forall_mem_cons.2 ⟨rfl, (List.forall_mem_cons.2 ⟨rfl, (List.forall_mem_cons.2 ⟨rfl, (List.forall_mem_cons.2 ⟨rfl, (List.forall_mem_cons.2 ⟨(shp (nfi_api_Record_18 (NfI.at hN_l.is ho_1))).one, (fun _ h => by cases h)⟩)⟩)⟩)⟩)⟩)⟩)⟩)⟩)⟩)⟩)⟩)⟩)⟩)⟩)⟩)⟩)⟩)⟩)⟩) (Nat.le_of_ble_eq_true rfl) rfl) ?_
  rintro h_3 ⟨hS, hk⟩
  replace hK := hK.trans hk
  replace hN_l := hN_l.kp hk
  replace hL_l := hL_l.kp hk
  replace hN_2 := hN_2.kp hk
  replace hN_3 := hN_3.kp hk
  refine HO.nil (thenQ_normal (?_))
  refine HW.seq ?_
  refine HW.region ?_
  refine oM (.bool v6) rfl rfl ?_
  refine oV (.agg (c_api_Record (.int .i64 ((gi l n_1).1)) ((gi l n_1).2.1) (((gi l n_1).2.2).1)).toArray) (q_loadAgg (cs := (c_api_Record (.int .i64 ((gi l n_1).1)) ((gi l n_1).2.1) (((gi l n_1).2.2).1))) ta_89 rfl rfl (Blk.cells (k := 19) (hS.box 0 rfl) rfl)) rfl ?_
  refine HO.call (want_none) rfl (ec en_99 rfl rfl) (host_size_walk (fr := (Ow.box b_1 89 (c_api_Record (.int .i64 ((gi l n_1).1)) ((gi l n_1).2.1) (((gi l n_1).2.2).1)).toArray :: Ow.own 31 26 e_api_Talk vout_1 out_1 :: Ow.own 89 19 e_api_Record v_1 hot_1 :: fr)) v6 ((gi l n_1).1) ((gi l n_1).2.1) (((gi l n_1).2.2).2) (((gi l n_1).2.2).1) hS (nff_api_Record_18 (NfL.at hN_l ho_1)) hM) ?_
  rintro _ h_4 ⟨F_2, r_2, rfl, hk, hS, _, hM⟩
  replace hK := hK.trans hk
  replace hN_l := hN_l.kp hk
  replace hL_l := hL_l.kp hk
  replace hN_2 := hN_2.kp hk
  replace hN_3 := hN_3.kp hk
  refine oA (.int .i64 r_2) rfl rfl ?_
  refine HO.nil (thenQ_normal (?_))
  refine HW.seq_mid (fun f h => ∃ (F' : Fz) (out_2 : List T_api_Talk) (v_2 : Value) (hot_2 : List T_api_Record) (room_2 : Int) (r_18_1 : List T_api_Addr) (vout_2 : Value) (vr_18_1 : Value), f 0 = .bool v6 ∧ f 4 = .slice none 0 0 ∧ f 5 = vout_2 ∧ f 6 = .int .i64 room_2 ∧ f 8 = .pointer (some ⟨b_1, 0, none⟩) ∧ f 9 = .int .i64 r_2 ∧ f 11 = vl ∧ f 12 = .int .i64 (l.length : Int) ∧ f 13 = .int .i64 n_1 ∧ Kp F h0 F' h ∧ St F' (Ow.own 31 26 e_api_Talk vout_2 out_2 :: Ow.own 89 19 e_api_Record v_2 hot_2 :: Ow.box b_1 89 (c_api_Record (.int .i64 ((gi l n_1).1)) ((gi l n_1).2.1) vr_18_1).toArray :: fr) h ∧ (NfL nf_api_Record F' h l) ∧ (SliceF F' h 19 e_api_Record vl l) ∧ (NfL nf_api_Record F' h hot_1) ∧ (NfL nf_api_Talk F' h (hotL hz_api_Talk out_1)) ∧ (NfL nf_api_Record F' h hot_2) ∧ (NfL nf_api_Talk F' h (hotL hz_api_Talk out_2)) ∧ (SliceF F' h 17 e_api_Addr vr_18_1 r_18_1) ∧ host_pack_j1 l n_1 K_1 r_2 out_2 v_2 hot_2 room_2 r_18_1) ?_ ?_
  ·
   refine HW.seq_mid (fun f h => ∃ (F' : Fz) (v_3 : Value) (hot_3 : List T_api_Record) (r_18_2 : List T_api_Addr) (b_2 : Bool) (vr_18_2 : Value), f 0 = .bool v6 ∧ f 4 = .slice none 0 0 ∧ f 5 = vout_1 ∧ f 6 = .int .i64 room_1 ∧ f 8 = .pointer (some ⟨b_1, 0, none⟩) ∧ f 9 = .int .i64 r_2 ∧ f 11 = vl ∧ f 12 = .int .i64 (l.length : Int) ∧ f 13 = .int .i64 n_1 ∧ f 38 = .bool b_2 ∧ Kp F h0 F' h ∧ St F' (Ow.own 31 26 e_api_Talk vout_1 out_1 :: Ow.own 89 19 e_api_Record v_3 hot_3 :: Ow.box b_1 89 (c_api_Record (.int .i64 ((gi l n_1).1)) ((gi l n_1).2.1) vr_18_2).toArray :: fr) h ∧ (NfL nf_api_Record F' h l) ∧ (SliceF F' h 19 e_api_Record vl l) ∧ (NfL nf_api_Record F' h hot_1) ∧ (NfL nf_api_Talk F' h (hotL hz_api_Talk out_1)) ∧ (NfL nf_api_Record F' h hot_3) ∧ (SliceF F' h 17 e_api_Addr vr_18_2 r_18_2) ∧ host_pack_j2 v6 l out_1 room_1 n_1 K_1 r_2 v_3 hot_3 r_18_2 b_2) ?_ ?_
   ·
    refine HW.region ?_
    refine oM (vout_1) rfl rfl ?_
    refine oV (.int .i64 (out_1.length : Int)) (q_len ts_33 (shp (hS.own 1 rfl).slice) rfl rfl) rfl ?_
    refine oV (.bool (decide ((out_1.length : Int) = 0))) (q_eql rfl rfl) rfl ?_
    refine oM (.bool (decide ((out_1.length : Int) = 0))) rfl rfl ?_
    rcases Bool.eq_false_or_eq_true (decide ((out_1.length : Int) = 0)) with c_2 | c_2
    ·
     replace hM := hM.1 (of_decide_eq_true c_2)
     refine HO.past (past_by rfl rfl c_2) rfl ?_
     refine HO.past (past_by rfl rfl c_2) rfl ?_
     refine HO.past (past_by rfl rfl c_2) rfl ?_
     refine oV (.bool true) (q_pickK true rfl c_2 rfl) rfl ?_
     refine oM (.bool true) rfl rfl ?_
     refine HO.past (past_some rfl rfl) rfl ?_
     refine HO.past (past_some rfl rfl) rfl ?_
     refine HO.past (past_some rfl rfl) rfl ?_
     refine HO.past (past_some rfl rfl) rfl ?_
     refine HO.past (past_some rfl rfl) rfl ?_
     refine HO.past (past_some rfl rfl) rfl ?_
     refine HO.past (past_some rfl rfl) rfl ?_
     refine HO.past (past_some rfl rfl) rfl ?_
     refine HO.past (past_some rfl rfl) rfl ?_
     refine oV (.bool true) (q_pick rfl rfl) rfl ?_
     refine HO.nil (thenQ_normal (?_))
     replace hS : St F_2 (Ow.own 31 26 e_api_Talk vout_1 out_1 :: Ow.own 89 19 e_api_Record v_1 hot_1 :: Ow.box b_1 89 (c_api_Record (.int .i64 ((gi l n_1).1)) ((gi l n_1).2.1) (((gi l n_1).2.2).1)).toArray :: fr) h_4 := hS.perm2 [1, 2, 0] 3 rfl rfl
     exact ⟨F_2, v_1, hot_1, ((gi l n_1).2.2).2, true, ((gi l n_1).2.2).1, rfl, rfl, rfl, rfl, rfl, rfl, rfl, rfl, rfl, rfl, hK, hS, hN_l, hL_l, hN_2, hN_3, hN_2, (nff_api_Record_18 (NfL.at hN_l ho_1)), hM⟩
    ·
     replace hM := hM.2 (of_decide_eq_false c_2)
     refine HO.val (v := .int .i64 r_2) (want_by rfl rfl c_2) rfl (q_move rfl) ?_
     refine HO.val (v := .int .i64 room_1) (want_by rfl rfl c_2) rfl (q_move rfl) ?_
     refine HO.val (v := .bool (decide (room_1 < r_2))) (want_by rfl rfl c_2) rfl (q_gtr rfl rfl) ?_
     refine oV (.bool (decide (room_1 < r_2))) (q_pickK false rfl c_2 rfl) rfl ?_
     refine oM (.bool (decide (room_1 < r_2))) rfl rfl ?_
     rcases Bool.eq_false_or_eq_true (decide (room_1 < r_2)) with c_3 | c_3
     ·
      replace hM := hM.1 (of_decide_eq_true c_3)
      refine HO.past (past_by rfl rfl c_3) rfl ?_
      refine HO.past (past_by rfl rfl c_3) rfl ?_
      refine HO.past (past_by rfl rfl c_3) rfl ?_
      refine HO.past (past_by rfl rfl c_3) rfl ?_
      refine HO.past (past_by rfl rfl c_3) rfl ?_
      refine HO.past (past_by rfl rfl c_3) rfl ?_
      refine HO.past (past_by rfl rfl c_3) rfl ?_
      refine HO.past (past_by rfl rfl c_3) rfl ?_
      refine HO.past (past_by rfl rfl c_3) rfl ?_
      refine oV (.bool true) (q_pickK true rfl c_3 rfl) rfl ?_
      refine HO.nil (thenQ_normal (?_))
      replace hS : St F_2 (Ow.own 31 26 e_api_Talk vout_1 out_1 :: Ow.own 89 19 e_api_Record v_1 hot_1 :: Ow.box b_1 89 (c_api_Record (.int .i64 ((gi l n_1).1)) ((gi l n_1).2.1) (((gi l n_1).2.2).1)).toArray :: fr) h_4 := hS.perm2 [1, 2, 0] 3 rfl rfl
      exact ⟨F_2, v_1, hot_1, ((gi l n_1).2.2).2, true, ((gi l n_1).2.2).1, rfl, rfl, rfl, rfl, rfl, rfl, rfl, rfl, rfl, rfl, hK, hS, hN_l, hL_l, hN_2, hN_3, hN_2, (nff_api_Record_18 (NfL.at hN_l ho_1)), hM⟩
     ·
      replace hM := hM.2 (of_decide_eq_false c_3)
      refine HO.val (v := vout_1) (want_by rfl rfl c_3) rfl (q_move rfl) ?_
      refine HO.val (v := vout_1) (want_by rfl rfl c_3) rfl (q_move rfl) ?_
      refine HO.val (v := .int .i64 (out_1.length : Int)) (want_by rfl rfl c_3) rfl (q_len ts_33 (shp (hS.own 1 rfl).slice) rfl rfl) ?_
      obtain ⟨ho_2, hM⟩ := hM
      refine HO.val (v := .int .i64 ((out_1.length : Int) - 1)) (want_by rfl rfl c_3) rfl (q_subN _ rfl rfl rfl ho_2.1 ho_2.2) ?_
      obtain ⟨ho_3, hM⟩ := hM
      refine HO.val (v := elemPtr 26 vout_1 ((out_1.length : Int) - 1).toNat) (want_by rfl rfl c_3) rfl (q_idx ts_33 (hS.own 1 rfl).slice rfl rfl ho_3) ?_
      refine HO.val (v := fieldPtr 26 vout_1 ((out_1.length : Int) - 1).toNat 25) (want_by rfl rfl c_3) rfl (q_fldElem fa_31_9 (hS.own 1 rfl).slice rfl ho_3) ?_
      obtain ⟨ho_4, hM⟩ := hM
      refine HO.val (v := v_1) (want_by rfl rfl c_3) rfl ((q_ldField to_22 (hS.own 1 rfl).slice rfl ho_3 (by decide) rfl).of_eq (congrArg Prod.fst ho_4)) ?_
      refine HO.val (v := .int .i64 (hot_1.length : Int)) (want_by rfl rfl c_3) rfl (q_len ts_22 (shp (hS.own 2 rfl).slice) rfl rfl) ?_
      refine HO.val (v := .bool (decide ((hot_1.length : Int) = 64))) (want_by rfl rfl c_3) rfl (q_eql rfl rfl) ?_
      refine oV (.bool (decide ((hot_1.length : Int) = 64))) (q_pickK false rfl c_3 rfl) rfl ?_
      refine HO.nil (thenQ_normal (?_))
      replace hS : St F_2 (Ow.own 31 26 e_api_Talk vout_1 out_1 :: Ow.own 89 19 e_api_Record v_1 hot_1 :: Ow.box b_1 89 (c_api_Record (.int .i64 ((gi l n_1).1)) ((gi l n_1).2.1) (((gi l n_1).2.2).1)).toArray :: fr) h_4 := hS.perm2 [1, 2, 0] 3 rfl rfl
      exact ⟨F_2, v_1, hot_1, ((gi l n_1).2.2).2, decide ((hot_1.length : Int) = 64), ((gi l n_1).2.2).1, rfl, rfl, rfl, rfl, rfl, rfl, rfl, rfl, rfl, rfl, hK, hS, hN_l, hL_l, hN_2, hN_3, hN_2, (nff_api_Record_18 (NfL.at hN_l ho_1)), hM⟩
   ·
    rintro f_2 h_5 ⟨F_3, v_3, hot_3, r_18_2, b_2, vr_18_2, e0, e4, e5, e6, e8, e9, e11, e12, e13, e38, hK, hS, hN_l, hL_l, hN_2, hN_3, hN_9, hL_2, hM⟩
    unfold host_pack_j2 at hM
    refine HW.fr [(0, .bool v6), (4, .slice none 0 0), (5, vout_1), (6, .int .i64 room_1), (8, .pointer (some ⟨b_1, 0, none⟩)), (9, .int .i64 r_2), (11, vl), (12, .int .i64 (l.length : Int)), (13, .int .i64 n_1), (38, .bool b_2)] ⟨e0, e4, e5, e6, e8, e9, e11, e12, e13, e38, trivial⟩ ?_
    refine HW.cond b_2 rfl (fun c_4 => ?_) (fun c_4 => ?_)
    ·
     replace hM := hM.1 c_4
     refine HW.seq ?_
     refine HW.region ?_
     refine oM (vout_1) rfl rfl ?_
     refine oM (.bool v6) rfl rfl ?_
     refine oM (.bool v6) rfl rfl ?_
     refine HO.call (want_none) rfl (ec en_61 rfl rfl) (compat_Last_walk (fr := (Ow.own 31 26 e_api_Talk vout_1 out_1 :: Ow.own 89 19 e_api_Record v_3 hot_3 :: Ow.box b_1 89 (c_api_Record (.int .i64 ((gi l n_1).1)) ((gi l n_1).2.1) vr_18_2).toArray :: fr)) v6 hS hM) ?_
     rintro _ h_6 ⟨F_4, r_3, rfl, hk, hS, hM⟩
     replace hK := hK.trans hk
     replace hN_l := hN_l.kp hk
     replace hL_l := hL_l.kp hk
     replace hN_2 := hN_2.kp hk
     replace hN_3 := hN_3.kp hk
     replace hN_9 := hN_9.kp hk
     replace hL_2 := hL_2.kp hk
     refine oV (.agg (c_api_Talk (.bool v6) (.int .i64 r_3) (.int .i64 2) (.int .i64 0) (false, (default : Ba 16)) (.bool false) (.int .i64 0) (.int .i64 0) (.slice none 0 0) (.slice none 0 0)).toArray) (q_build tp_31 rfl) rfl ?_
     refine HO.eff (want_none) rfl (st_lit (enc := e_api_Talk) (cells := #[.bool v6, .int .i64 r_3, .int .i64 2, .int .i64 0, .bool false, .int .u8 (b8 (default : Ba 16) 0), .int .u8 (b8 (default : Ba 16) 1), .int .u8 (b8 (default : Ba 16) 2), .int .u8 (b8 (default : Ba 16) 3), .int .u8 (b8 (default : Ba 16) 4), .int .u8 (b8 (default : Ba 16) 5), .int .u8 (b8 (default : Ba 16) 6), .int .u8 (b8 (default : Ba 16) 7), .int .u8 (b8 (default : Ba 16) 8), .int .u8 (b8 (default : Ba 16) 9), .int .u8 (b8 (default : Ba 16) 10), .int .u8 (b8 (default : Ba 16) 11), .int .u8 (b8 (default : Ba 16) 12), .int .u8 (b8 (default : Ba 16) 13), .int .u8 (b8 (default : Ba 16) 14), .int .u8 (b8 (default : Ba 16) 15), .bool false, .int .i64 0, .int .i64 0, .slice none 0 0, .slice none 0 0]) #[.bool false, .int .i64 0, .int .i64 0, .int .i64 0, .bool false, .int .u8 0, .int .u8 0, .int .u8 0, .int .u8 0, .int .u8 0, .int .u8 0, .int .u8 0, .int .u8 0, .int .u8 0, .int .u8 0, .int .u8 0, .int .u8 0, .int .u8 0, .int .u8 0, .int .u8 0, .int .u8 0, .bool false, .int .i64 0, .int .i64 0, .slice none 0 0, .slice none 0 0] ([(v6, r_3, 2, 0, (false, (default : Ba 16)), false, 0, 0, (.slice none 0 0, []), (.slice none 0 0, []))] : List T_api_Talk) hS tl_33 (by decide) (by decide) (by kernel_rfl) (by kernel_rfl) rfl (by intro x hx; rfl) rfl) ?_
     rintro _ h_7 ⟨b_3, rfl, hS, hk⟩
     replace hK := hK.trans hk
     replace hN_l := hN_l.kp hk
     replace hL_l := hL_l.kp hk
     replace hN_2 := hN_2.kp hk
     replace hN_3 := hN_3.kp hk
     replace hN_9 := hN_9.kp hk
     replace hL_2 := hL_2.kp hk
     have hN_10 : NfL nf_api_Talk F_4 h_7 ([(v6, r_3, 2, 0, (false, (default : Ba 16)), false, 0, 0, (.slice none 0 0, []), (.slice none 0 0, []))] : List T_api_Talk) := (NfL.cons (nfm_api_Talk (v6, r_3, 2, 0, (false, (default : Ba 16)), false, 0, 0, (.slice none 0 0, []), (.slice none 0 0, [])) (SliceF.nil _ _ _ _) (SliceF.nil _ _ _ _) (NfL.nil _ _ _)) (NfL.nil _ _ _))
     obtain ⟨ho_5, hM⟩ := hM
     replace hS : St F_4 (Ow.own 89 19 e_api_Record v_3 hot_3 :: Ow.own 31 26 e_api_Talk (.slice (some ⟨b_3, 0, none⟩) 1 1) ([(v6, r_3, 2, 0, (false, (default : Ba 16)), false, 0, 0, (.slice none 0 0, []), (.slice none 0 0, []))] : List T_api_Talk) :: Ow.own 31 26 e_api_Talk vout_1 out_1 :: Ow.box b_1 89 (c_api_Record (.int .i64 ((gi l n_1).1)) ((gi l n_1).2.1) vr_18_2).toArray :: fr) h_7 := hS.perm2 [2, 0, 1, 3] 4 rfl rfl
     obtain ⟨F_5, hS, hk, hL_3⟩ := hS.freezeOwn
     replace hK := hK.trans hk
     replace hN_l := hN_l.kp hk
     replace hL_l := hL_l.kp hk
     replace hN_2 := hN_2.kp hk
     replace hN_3 := hN_3.kp hk
     replace hN_9 := hN_9.kp hk
     replace hL_2 := hL_2.kp hk
     replace hN_10 := hN_10.kp hk
     have hN_11 : NfL nf_api_Talk F_5 h_7 out_1 := NfL.unhot (z := hz_api_Talk) (fun x hx hp => nfm_api_Talk x (nff_api_Talk_24 (x := hz_api_Talk x) hp) (by rw [ho_5 x hx]; exact hL_3) (by rw [ho_5 x hx]; exact hN_9)) hN_3
     obtain ⟨ho_6, hM⟩ := hM
     refine HO.eff (want_none) rfl (st_append te_33 hS (i := 1) rfl (hS.own 0 rfl).slice rfl rfl rfl (fun a_ ha_ => nfo_api_Talk (hN_10.is.all a_ ha_)) ho_6 (by omega)) ?_
     rintro v_4 h_8 ⟨hS, hk⟩
     replace hK := hK.trans hk
     replace hN_l := hN_l.kp hk
     replace hL_l := hL_l.kp hk
     replace hN_2 := hN_2.kp hk
     replace hN_3 := hN_3.kp hk
     replace hL_2 := hL_2.kp hk
     replace hN_10 := hN_10.kp hk
     replace hN_11 := hN_11.kp hk
     have hN_12 : NfL nf_api_Talk F_5 h_8 (out_1 ++ ([(v6, r_3, 2, 0, (false, (default : Ba 16)), false, 0, 0, (.slice none 0 0, []), (.slice none 0 0, []))] : List T_api_Talk)) := NfL.app hN_11 hN_10
     replace hS := hS.nilOwn 89 19 e_api_Record
     have hN_13 : NfL nf_api_Record F_5 h_8 ([] : List T_api_Record) := NfL.nil _ _ _
     have hN_14 : NfL nf_api_Talk F_5 h_8 (hotL hz_api_Talk (out_1 ++ ([(v6, r_3, 2, 0, (false, (default : Ba 16)), false, 0, 0, (.slice none 0 0, []), (.slice none 0 0, []))] : List T_api_Talk))) := NfL.hot (fun x hp => nfm_api_Talk (hz_api_Talk x) (nff_api_Talk_24 (x := x) hp) (SliceF.nil _ _ _ _) (NfL.nil _ _ _)) hN_12
     refine oA (v_4) rfl rfl ?_
     refine HO.nil (thenQ_normal (?_))
     refine HW.region ?_
     refine oA (.int .i64 1392) rfl rfl ?_
     refine HO.nil (thenQ_normal (?_))
     replace hS : St F_5 (Ow.own 31 26 e_api_Talk v_4 (out_1 ++ ([(v6, r_3, 2, 0, (false, (default : Ba 16)), false, 0, 0, (.slice none 0 0, []), (.slice none 0 0, []))] : List T_api_Talk)) :: Ow.own 89 19 e_api_Record (.slice none 0 0) ([] : List T_api_Record) :: Ow.box b_1 89 (c_api_Record (.int .i64 ((gi l n_1).1)) ((gi l n_1).2.1) vr_18_2).toArray :: fr) h_8 := hS.perm2 [2, 0, 3] 4 rfl rfl
     exact ⟨F_5, out_1 ++ ([(v6, r_3, 2, 0, (false, (default : Ba 16)), false, 0, 0, (.slice none 0 0, []), (.slice none 0 0, []))] : List T_api_Talk), .slice none 0 0, [], 1392, r_18_2, v_4, vr_18_2, rfl, rfl, rfl, rfl, rfl, rfl, rfl, rfl, rfl, hK, hS, hN_l, hL_l, hN_2, hN_3, hN_13, hN_14, hL_2, hM⟩
    ·
     replace hM := hM.2 c_4
     refine HW.skip (thenQ_normal (?_))
     exact ⟨F_3, out_1, v_3, hot_3, room_1, r_18_2, vout_1, vr_18_2, rfl, rfl, rfl, rfl, rfl, rfl, rfl, rfl, rfl, hK, hS, hN_l, hL_l, hN_2, hN_3, hN_9, hN_3, hL_2, hM⟩
  ·
   rintro f_3 h_9 ⟨F_6, out_2, v_2, hot_2, room_2, r_18_1, vout_2, vr_18_1, e0, e4, e5, e6, e8, e9, e11, e12, e13, hK, hS, hN_l, hL_l, hN_2, hN_3, hN_7, hN_8, hL_1, hM⟩
   unfold host_pack_j1 at hM
   refine HW.fr [(0, .bool v6), (4, .slice none 0 0), (5, vout_2), (6, .int .i64 room_2), (8, .pointer (some ⟨b_1, 0, none⟩)), (9, .int .i64 r_2), (11, vl), (12, .int .i64 (l.length : Int)), (13, .int .i64 n_1)] ⟨e0, e4, e5, e6, e8, e9, e11, e12, e13, trivial⟩ ?_
   refine HW.seq ?_
   refine HW.region ?_
   refine oM (.int .i64 room_2) rfl rfl ?_
   refine oM (.int .i64 r_2) rfl rfl ?_
   obtain ⟨ho_7, hM⟩ := hM
   refine oV (.int .i64 (room_2 - r_2)) (q_subN _ rfl rfl rfl ho_7.1 ho_7.2) rfl ?_
   refine oA (.int .i64 (room_2 - r_2)) rfl rfl ?_
   refine HO.nil (thenQ_normal (?_))
   refine HW.seq ?_
   refine HW.region ?_
   refine oV (.pointer (some ⟨b_1, 18, none⟩)) (q_fieldAddr fa_89_2 rfl rfl) rfl ?_
   refine oV (vr_18_1) (q_load to_29 rfl (Blk.cell (hS.box 2 rfl) rfl)) rfl ?_
   refine HO.call (want_none) rfl (ec en_100 rfl rfl) (slices_Clone_s_api_Addr_api_Addr_walk (fr := (Ow.own 31 26 e_api_Talk vout_2 out_2 :: Ow.own 89 19 e_api_Record v_2 hot_2 :: Ow.box b_1 89 (c_api_Record (.int .i64 ((gi l n_1).1)) ((gi l n_1).2.1) vr_18_1).toArray :: fr)) r_18_1 vr_18_1 hS hL_1 hM) ?_
   rintro vr_2 h_10 ⟨F_7, r_4, _, rfl, hk, hS, _, hM⟩
   replace hK := hK.trans hk
   replace hN_l := hN_l.kp hk
   replace hL_l := hL_l.kp hk
   replace hN_7 := hN_7.kp hk
   replace hN_8 := hN_8.kp hk
   refine oV (.pointer (some ⟨b_1, 18, none⟩)) (q_fieldAddr fa_89_2 rfl rfl) rfl ?_
   refine HO.sto (want_none) rfl (st_store (c' := (c_api_Record (.int .i64 ((gi l n_1).1)) ((gi l n_1).2.1) vr_2).toArray) hS (i := 3) rfl to_29 rfl rfl (shp (hS.own 0 rfl).slice).cells (shp (hS.own 0 rfl).slice).one (Nat.le_of_ble_eq_true rfl) rfl) ?_
   rintro h_11 ⟨hS, hk⟩
   replace hK := hK.trans hk
   replace hN_l := hN_l.kp hk
   replace hL_l := hL_l.kp hk
   replace hN_7 := hN_7.kp hk
   replace hN_8 := hN_8.kp hk
   refine HO.nil (thenQ_normal (?_))
   refine HW.seq ?_
   refine HW.region ?_
   refine oM (vout_2) rfl rfl ?_
   refine oM (vout_2) rfl rfl ?_
   refine oV (.int .i64 (out_2.length : Int)) (q_len ts_33 (shp (hS.own 1 rfl).slice) rfl rfl) rfl ?_
   obtain ⟨ho_8, hM⟩ := hM
   refine oV (.int .i64 ((out_2.length : Int) - 1)) (q_subN _ rfl rfl rfl ho_8.1 ho_8.2) rfl ?_
   obtain ⟨ho_9, hM⟩ := hM
   refine oV (elemPtr 26 vout_2 ((out_2.length : Int) - 1).toNat) (q_idx ts_33 (hS.own 1 rfl).slice rfl rfl ho_9) rfl ?_
   refine oA (elemPtr 26 vout_2 ((out_2.length : Int) - 1).toNat) rfl rfl ?_
   refine HO.nil (thenQ_normal (?_))
   refine HW.regionA 11 mixed (fun h => (Blk h b_1 (.cells (c_api_Record (.int .i64 ((gi l n_1).1)) ((gi l n_1).2.1) vr_2).toArray 89 (0, 0)))) [(10, fun h => (OwnIs h 0 31 26 e_api_Talk vout_2 out_2))] (by kernel_rfl) ?_
   refine HA.val (k := 0) (v := elemPtr 26 vout_2 ((out_2.length : Int) - 1).toNat) rfl rfl (by kernel_rfl) (by kernel_rfl) (want_none) rfl (fun _ c309 => q_move rfl) ?_
   refine HA.val (k := 1) (v := elemPtr 26 vout_2 ((out_2.length : Int) - 1).toNat) rfl rfl (by kernel_rfl) (by kernel_rfl) (want_none) rfl (fun _ c309 => q_move rfl) ?_
   refine Go.Wk.HA.valN (k := 2) (v := elemPtr 26 vout_2 ((out_2.length : Int) - 1).toNat) 0 10 (fun h => (OwnIs h 0 31 26 e_api_Talk vout_2 out_2)) rfl rfl (by kernel_rfl) (by kernel_rfl) (want_none) rfl rfl (by kernel_rfl) (fun _ c309 c307 => q_nilElem c307.slice rfl ho_9) ?_
   refine Go.Wk.HA.valN (k := 3) (v := fieldPtr 26 vout_2 ((out_2.length : Int) - 1).toNat 25) 0 10 (fun h => (OwnIs h 0 31 26 e_api_Talk vout_2 out_2)) rfl rfl (by kernel_rfl) (by kernel_rfl) (want_none) rfl rfl (by kernel_rfl) (fun _ c309 c307 => q_fldElem fa_31_9 c307.slice rfl ho_9) ?_
   obtain ⟨ho_10, hM⟩ := hM
   refine Go.Wk.HA.valN (k := 4) (v := v_2) 0 10 (fun h => (OwnIs h 0 31 26 e_api_Talk vout_2 out_2)) rfl rfl (by kernel_rfl) (by kernel_rfl) (want_none) rfl rfl (by kernel_rfl) (fun _ c309 c307 => (q_ldField to_22 c307.slice rfl ho_9 (by decide) rfl).of_eq (congrArg Prod.fst ho_10)) ?_
   refine HA.val (k := 5) (v := .agg (c_api_Record (.int .i64 ((gi l n_1).1)) ((gi l n_1).2.1) vr_2).toArray) rfl rfl (by kernel_rfl) (by kernel_rfl) (want_none) rfl (fun _ c309 => q_loadAgg (cs := (c_api_Record (.int .i64 ((gi l n_1).1)) ((gi l n_1).2.1) vr_2)) ta_89 rfl rfl (Blk.cells (k := 19) c309 rfl)) ?_
   refine HA.one (k := 6) ⟨(hS.box 3 rfl), (at_now (hS.own 1 rfl) (Go.Wk.at_nil _ _))⟩ (by kernel_rfl) ?_
   obtain ⟨F_8, hS, hk, hL_4⟩ := hS.freezeOwn
   replace hK := hK.trans hk
   replace hN_l := hN_l.kp hk
   replace hL_l := hL_l.kp hk
   replace hN_7 := hN_7.kp hk
   replace hN_8 := hN_8.kp hk
   replace hM := hM vr_2
   refine HS.eff rfl (want_none) rfl (st_lit (enc := e_api_Record) (cells := #[.int .i64 ((gi l n_1).1), .bool (((gi l n_1).2.1).1), .int .u8 (b8 (((gi l n_1).2.1).2) 0), .int .u8 (b8 (((gi l n_1).2.1).2) 1), .int .u8 (b8 (((gi l n_1).2.1).2) 2), .int .u8 (b8 (((gi l n_1).2.1).2) 3), .int .u8 (b8 (((gi l n_1).2.1).2) 4), .int .u8 (b8 (((gi l n_1).2.1).2) 5), .int .u8 (b8 (((gi l n_1).2.1).2) 6), .int .u8 (b8 (((gi l n_1).2.1).2) 7), .int .u8 (b8 (((gi l n_1).2.1).2) 8), .int .u8 (b8 (((gi l n_1).2.1).2) 9), .int .u8 (b8 (((gi l n_1).2.1).2) 10), .int .u8 (b8 (((gi l n_1).2.1).2) 11), .int .u8 (b8 (((gi l n_1).2.1).2) 12), .int .u8 (b8 (((gi l n_1).2.1).2) 13), .int .u8 (b8 (((gi l n_1).2.1).2) 14), .int .u8 (b8 (((gi l n_1).2.1).2) 15), vr_2]) #[.int .i64 0, .bool false, .int .u8 0, .int .u8 0, .int .u8 0, .int .u8 0, .int .u8 0, .int .u8 0, .int .u8 0, .int .u8 0, .int .u8 0, .int .u8 0, .int .u8 0, .int .u8 0, .int .u8 0, .int .u8 0, .int .u8 0, .int .u8 0, .slice none 0 0] ([((gi l n_1).1, ((gi l n_1).2.1), (vr_2, r_4))] : List T_api_Record) hS tl_22 (by decide) (by decide) (by kernel_rfl) (by kernel_rfl) rfl (by intro x hx; rfl) rfl) ?_
   rintro _ h_12 ⟨b_4, rfl, hS, hk⟩
   replace hK := hK.trans hk
   replace hN_l := hN_l.kp hk
   replace hL_l := hL_l.kp hk
   replace hN_7 := hN_7.kp hk
   replace hN_8 := hN_8.kp hk
   replace hL_4 := hL_4.kp hk
   have hN_15 : NfL nf_api_Record F_8 h_12 ([((gi l n_1).1, ((gi l n_1).2.1), (vr_2, r_4))] : List T_api_Record) := (NfL.cons (nfm_api_Record ((gi l n_1).1, ((gi l n_1).2.1), (vr_2, r_4)) hL_4) (NfL.nil _ _ _))
   refine HA.one (k := 7) ⟨(hS.box 3 rfl), (at_now (hS.own 1 rfl) (Go.Wk.at_nil _ _))⟩ (by kernel_rfl) ?_
   obtain ⟨ho_11, hM⟩ := hM
   refine HS.eff rfl (want_none) rfl (st_append te_22 hS (i := 2) rfl (hS.own 0 rfl).slice rfl rfl rfl (fun a_ ha_ => nfo_api_Record (hN_15.is.all a_ ha_)) ho_11 (by omega)) ?_
   rintro v_5 h_13 ⟨hS, hk⟩
   replace hK := hK.trans hk
   replace hN_l := hN_l.kp hk
   replace hL_l := hL_l.kp hk
   replace hN_7 := hN_7.kp hk
   replace hN_8 := hN_8.kp hk
   replace hN_15 := hN_15.kp hk
   have hN_16 : NfL nf_api_Record F_8 h_13 (hot_2 ++ ([((gi l n_1).1, ((gi l n_1).2.1), (vr_2, r_4))] : List T_api_Record)) := NfL.app hN_7 hN_15
   refine Go.Wk.HA.valN (k := 8) (v := elemPtr 26 vout_2 ((out_2.length : Int) - 1).toNat) 0 10 (fun h => (OwnIs h 0 31 26 e_api_Talk vout_2 out_2)) rfl rfl (by kernel_rfl) (by kernel_rfl) (want_none) rfl rfl (by kernel_rfl) (fun _ c309 c307 => q_nilElem c307.slice rfl ho_9) ?_
   refine Go.Wk.HA.valN (k := 9) (v := fieldPtr 26 vout_2 ((out_2.length : Int) - 1).toNat 25) 0 10 (fun h => (OwnIs h 0 31 26 e_api_Talk vout_2 out_2)) rfl rfl (by kernel_rfl) (by kernel_rfl) (want_none) rfl rfl (by kernel_rfl) (fun _ c309 c307 => q_fldElem fa_31_9 c307.slice rfl ho_9) ?_
   refine HA.one (k := 10) ⟨(hS.box 3 rfl), (at_now (hS.own 1 rfl) (Go.Wk.at_nil _ _))⟩ (by kernel_rfl) ?_
   replace hM := hM v_5
   obtain ⟨ho_12, hM⟩ := hM
   refine HS.sto rfl (want_none) rfl (st_storeField (a := ((gi out_2 ((out_2.length : Int) - 1)).1, (gi out_2 ((out_2.length : Int) - 1)).2.1, (gi out_2 ((out_2.length : Int) - 1)).2.2.1, (gi out_2 ((out_2.length : Int) - 1)).2.2.2.1, (((gi out_2 ((out_2.length : Int) - 1)).2.2.2.2.1).1, (((gi out_2 ((out_2.length : Int) - 1)).2.2.2.2.1).2)), (gi out_2 ((out_2.length : Int) - 1)).2.2.2.2.2.1, (gi out_2 ((out_2.length : Int) - 1)).2.2.2.2.2.2.1, (gi out_2 ((out_2.length : Int) - 1)).2.2.2.2.2.2.2.1, ((gi out_2 ((out_2.length : Int) - 1)).2.2.2.2.2.2.2.2.1), (v_5, hot_2 ++ ([((gi l n_1).1, ((gi l n_1).2.1), (vr_2, r_4))] : List T_api_Record)))) (n := ((out_2.length : Int) - 1).toNat) (j := 25) hS (i := 1) rfl to_22 rfl (by omega) (by decide) rfl (by rw [← gi_lt ho_9.1 ho_9.2]; rfl) (shp (hS.own 2 rfl).slice).cells (shp (hS.own 2 rfl).slice).one) ?_
   rintro h_14 ⟨hS, hk⟩
   have hN_17 : NfL nf_api_Talk F_8 h_13 (hotL hz_api_Talk (out_2.set ((out_2.length : Int) - 1).toNat ((gi out_2 ((out_2.length : Int) - 1)).1, (gi out_2 ((out_2.length : Int) - 1)).2.1, (gi out_2 ((out_2.length : Int) - 1)).2.2.1, (gi out_2 ((out_2.length : Int) - 1)).2.2.2.1, (((gi out_2 ((out_2.length : Int) - 1)).2.2.2.2.1).1, (((gi out_2 ((out_2.length : Int) - 1)).2.2.2.2.1).2)), (gi out_2 ((out_2.length : Int) - 1)).2.2.2.2.2.1, (gi out_2 ((out_2.length : Int) - 1)).2.2.2.2.2.2.1, (gi out_2 ((out_2.length : Int) - 1)).2.2.2.2.2.2.2.1, ((gi out_2 ((out_2.length : Int) - 1)).2.2.2.2.2.2.2.2.1), (v_5, hot_2 ++ ([((gi l n_1).1, ((gi l n_1).2.1), (vr_2, r_4))] : List T_api_Record))))) := NfL.hotSet hN_8 ho_12 rfl
   replace hK := hK.trans hk
   replace hN_l := hN_l.kp hk
   replace hL_l := hL_l.kp hk
   replace hN_16 := hN_16.kp hk
   replace hN_17 := hN_17.kp hk
   refine HA.nil ⟨(hS.box 3 rfl), (at_done (by kernel_rfl) (Go.Wk.at_nil _ _))⟩ (by kernel_rfl) (blockQ_normal (thenQ_normal (?_)))
   refine HW.region ?_
   obtain ⟨ho_13, hM⟩ := hM
   refine oV (.int .i64 (n_1 + 1)) (q_addN _ rfl rfl rfl ho_13.1 ho_13.2) rfl ?_
   refine oM (.int .i64 (n_1 + 1)) rfl rfl ?_
   refine HO.nil (thenQ_normal (?_))
   replace hS : St F_8 (Ow.own 31 26 e_api_Talk vout_2 (out_2.set ((out_2.length : Int) - 1).toNat ((gi out_2 ((out_2.length : Int) - 1)).1, (gi out_2 ((out_2.length : Int) - 1)).2.1, (gi out_2 ((out_2.length : Int) - 1)).2.2.1, (gi out_2 ((out_2.length : Int) - 1)).2.2.2.1, (((gi out_2 ((out_2.length : Int) - 1)).2.2.2.2.1).1, (((gi out_2 ((out_2.length : Int) - 1)).2.2.2.2.1).2)), (gi out_2 ((out_2.length : Int) - 1)).2.2.2.2.2.1, (gi out_2 ((out_2.length : Int) - 1)).2.2.2.2.2.2.1, (gi out_2 ((out_2.length : Int) - 1)).2.2.2.2.2.2.2.1, ((gi out_2 ((out_2.length : Int) - 1)).2.2.2.2.2.2.2.2.1), (v_5, hot_2 ++ ([((gi l n_1).1, ((gi l n_1).2.1), (vr_2, r_4))] : List T_api_Record)))) :: Ow.own 89 19 e_api_Record v_5 (hot_2 ++ ([((gi l n_1).1, ((gi l n_1).2.1), (vr_2, r_4))] : List T_api_Record)) :: fr) h_14 := hS.perm2 [1, 2] 4 rfl rfl
   rw [hKe_1] at hM
   exact ⟨(out_2.set ((out_2.length : Int) - 1).toNat ((gi out_2 ((out_2.length : Int) - 1)).1, (gi out_2 ((out_2.length : Int) - 1)).2.1, (gi out_2 ((out_2.length : Int) - 1)).2.2.1, (gi out_2 ((out_2.length : Int) - 1)).2.2.2.1, (((gi out_2 ((out_2.length : Int) - 1)).2.2.2.2.1).1, (((gi out_2 ((out_2.length : Int) - 1)).2.2.2.2.1).2)), (gi out_2 ((out_2.length : Int) - 1)).2.2.2.2.2.1, (gi out_2 ((out_2.length : Int) - 1)).2.2.2.2.2.2.1, (gi out_2 ((out_2.length : Int) - 1)).2.2.2.2.2.2.2.1, ((gi out_2 ((out_2.length : Int) - 1)).2.2.2.2.2.2.2.2.1), (v_5, hot_2 ++ ([((gi l n_1).1, ((gi l n_1).2.1), (vr_2, r_4))] : List T_api_Record))), v_5, hot_2 ++ ([((gi l n_1).1, ((gi l n_1).2.1), (vr_2, r_4))] : List T_api_Record), room_2 - r_2, n_1 + 1), ⟨F_8, vout_2, rfl, rfl, rfl, rfl, rfl, rfl, rfl, hK, hS, hN_l, hL_l, hN_16, hN_17, hM.1⟩, hM.2⟩
 ·
  replace hM := hM.2 (of_decide_eq_false c_1)
  refine HW.exit (thenQ_exit (thenQ_exit (blockQ_exit (thenQ_normal (?_)))))
  refine HW.seq ?_
  refine HW.region ?_
  refine oM (vout_1) rfl rfl ?_
  refine oA (vout_1) rfl rfl ?_
  refine HO.nil (thenQ_normal (?_))
  refine HW.ret (?_)
  obtain ⟨ho_14, hM⟩ := hM
  replace hS : St F_1 (Ow.own 89 19 e_api_Record v_1 hot_1 :: Ow.own 31 26 e_api_Talk vout_1 out_1 :: fr) h_1 := hS.perm2 [1, 0] 2 rfl rfl
  obtain ⟨F_9, hS, hk, hL_5⟩ := hS.freezeOwn
  replace hK := hK.trans hk
  replace hN_l := hN_l.kp hk
  replace hL_l := hL_l.kp hk
  replace hN_2 := hN_2.kp hk
  replace hN_3 := hN_3.kp hk
  have hN_18 : NfL nf_api_Talk F_9 h_1 out_1 := NfL.unhot (z := hz_api_Talk) (fun x hx hp => nfm_api_Talk x (nff_api_Talk_24 (x := hz_api_Talk x) hp) (by rw [ho_14 x hx]; exact hL_5) (by rw [ho_14 x hx]; exact hN_2)) hN_3
  refine ⟨.inr rfl, vout_1, res1 rfl (rt rfl), ?_⟩
  exact ⟨F_9, out_1, vout_1, rfl, hK, hS, hN_l, hL_l, hN_18, hM⟩
def host_Host_older_j2 (h_v6 : Bool) (h_now : Int) (h_want : List (T_api_Addr × T_api_Filter)) (h_one : Int) (h_two : Int) (g : T_api_Addr) (kind : Int) (Q : (List T_api_Talk) → Bool → Int → (List (T_api_Addr × T_api_Filter)) → Int → Int → Prop) (t_1_1 : Int) (b_4 : Bool) : Prop :=
 (b_4 = true → Q [] h_v6 h_now h_want h_one h_two) ∧ (b_4 = false → Q ([(h_v6, t_1_1, kind, 0, g, false, 0, 0, (.slice none 0 0, []), (.slice none 0 0, []))] : List T_api_Talk) h_v6 h_now h_want h_one h_two)
def host_Host_older_j1 (h_v6 : Bool) (h_now : Int) (h_want : List (T_api_Addr × T_api_Filter)) (h_one : Int) (h_two : Int) (g : T_api_Addr) (kind : Int) (Q : (List T_api_Talk) → Bool → Int → (List (T_api_Addr × T_api_Filter)) → Int → Int → Prop) (t_1_1 : Int) : Prop :=
 (kind = 3 → (t_1_1 = 1 → host_Host_older_j2 h_v6 h_now h_want h_one h_two g kind Q t_1_1 (!h_v6)) ∧ (¬ (t_1_1 = 1) → host_Host_older_j2 h_v6 h_now h_want h_one h_two g kind Q t_1_1 false)) ∧ (¬ (kind = 3) → host_Host_older_j2 h_v6 h_now h_want h_one h_two g kind Q t_1_1 false)
def host_Host_older_W (h_v6 : Bool) (h_now : Int) (h_want : List (T_api_Addr × T_api_Filter)) (h_one : Int) (h_two : Int) (g : T_api_Addr) (kind : Int) (Q : (List T_api_Talk) → Bool → Int → (List (T_api_Addr × T_api_Filter)) → Int → Int → Prop) : Prop :=
 host_Host_mode_W h_v6 h_now h_want h_one h_two (fun r_2 => host_Host_older_j1 h_v6 h_now h_want h_one h_two g kind Q r_2)
theorem host_Host_older_walk {F : Fz} {fr : List Ow} {h0 : Heap} (h_v6 : Bool) (h_now : Int) (h_want : List (T_api_Addr × T_api_Filter)) (h_one : Int) (h_two : Int) (g : T_api_Addr) (kind : Int) (bh : Nat) (rh_want : Nat) (hS : St F (Ow.box bh 97 #[.bool h_v6, .int .i64 h_now, .map (some rh_want), .int .i64 h_one, .int .i64 h_two] :: Ow.map rh_want (fun (x : T_api_Addr) => .agg (e_api_Addr x).toArray) (fun (x : T_api_Filter) => .agg #[.bool x.1, x.2.1]) h_want :: fr) h0) (hN_h_want : NfL nf_api_Filter F h0 (h_want.map (·.2))) {Q : (List T_api_Talk) → Bool → Int → (List (T_api_Addr × T_api_Filter)) → Int → Int → Prop} (hM : host_Host_older_W h_v6 h_now h_want h_one h_two g kind Q) :
  HC Tryz.prog 62 #[.pointer (some ⟨bh, 0, none⟩), .agg (e_api_Addr g).toArray, .int .i64 kind] h0 fun u h' => ∃ (F' : Fz) (r_1 : List T_api_Talk) (a0_v6_1 : Bool) (a0_now_1 : Int) (a0m_1 : List (T_api_Addr × T_api_Filter)) (a0_one_1 : Int) (a0_two_1 : Int) (vr_1 : Value), u = vr_1 ∧ Kp F h0 F' h' ∧ St F' (Ow.own 31 26 e_api_Talk vr_1 r_1 :: Ow.box bh 97 #[.bool a0_v6_1, .int .i64 a0_now_1, .map (some rh_want), .int .i64 a0_one_1, .int .i64 a0_two_1] :: Ow.map rh_want (fun (x : T_api_Addr) => .agg (e_api_Addr x).toArray) (fun (x : T_api_Filter) => .agg #[.bool x.1, x.2.1]) a0m_1 :: fr) h' ∧ (NfL nf_api_Filter F' h' (h_want.map (·.2))) ∧ (NfL nf_api_Talk F' h' r_1) ∧ (NfL nf_api_Filter F' h' (a0m_1.map (·.2))) ∧ Q r_1 a0_v6_1 a0_now_1 a0m_1 a0_one_1 a0_two_1 := by
 unfold host_Host_older_W at hM
 have hK := Kp.refl F h0
 refine HC.of_HW (n := 33) Tryz.func62 rfl rfl (Nat.le_of_ble_eq_true rfl) ?_
 refine HW.seq ?_
 refine HW.region ?_
 refine HO.eff (want_none) rfl (st_box (c := (e_api_Addr g).toArray) (k' := 17) hS rfl rfl) ?_
 rintro _ h_1 ⟨b_1, rfl, hS, hk⟩
 replace hK := hK.trans hk
 replace hN_h_want := hN_h_want.kp hk
 refine oA (.slice none 0 0) rfl rfl ?_
 refine HO.nil (thenQ_normal (?_))
 refine HW.seq_mid (fun f h => ∃ (F' : Fz) (t_1_1 : Int) (b_2 : Nat), f 0 = .pointer (some ⟨bh, 0, none⟩) ∧ f 2 = .int .i64 kind ∧ f 6 = .slice none 0 0 ∧ f 7 = .pointer (some ⟨b_2, 0, none⟩) ∧ Kp F h0 F' h ∧ St F' (Ow.box bh 97 #[.bool h_v6, .int .i64 h_now, .map (some rh_want), .int .i64 h_one, .int .i64 h_two] :: Ow.map rh_want (fun (x : T_api_Addr) => .agg (e_api_Addr x).toArray) (fun (x : T_api_Filter) => .agg #[.bool x.1, x.2.1]) h_want :: Ow.box b_2 31 (c_api_Talk (.bool h_v6) (.int .i64 t_1_1) (.int .i64 kind) (.int .i64 0) g (.bool false) (.int .i64 0) (.int .i64 0) (.slice none 0 0) (.slice none 0 0)).toArray :: fr) h ∧ (NfL nf_api_Filter F' h (h_want.map (·.2))) ∧ host_Host_older_j1 h_v6 h_now h_want h_one h_two g kind Q t_1_1) ?_ ?_
 ·
  refine HW.regionA 11 mixed (fun h => (Blk h b_1 (.cells (e_api_Addr g).toArray 28 (0, 0))) ∧ (Blk h bh (.cells #[.bool h_v6, .int .i64 h_now, .map (some rh_want), .int .i64 h_one, .int .i64 h_two] 97 (0, 0)))) [] (by kernel_rfl) ?_
  refine HA.val (k := 0) (v := .pointer (some ⟨bh, 0, none⟩)) rfl rfl (by kernel_rfl) (by kernel_rfl) (want_none) rfl (fun _ ⟨c208, c1⟩ => q_move rfl) ?_
  refine HA.val (k := 1) (v := .pointer (some ⟨bh, 0, none⟩)) rfl rfl (by kernel_rfl) (by kernel_rfl) (want_none) rfl (fun _ ⟨c208, c1⟩ => q_nilCheck rfl) ?_
  refine HA.val (k := 2) (v := .pointer (some ⟨bh, 0, none⟩)) rfl rfl (by kernel_rfl) (by kernel_rfl) (want_none) rfl (fun _ ⟨c208, c1⟩ => q_fieldAddr fa_97_0 rfl rfl) ?_
  refine HA.val (k := 3) (v := .bool h_v6) rfl rfl (by kernel_rfl) (by kernel_rfl) (want_none) rfl (fun _ ⟨c208, c1⟩ => q_load to_4 rfl (Blk.cell c1 rfl)) ?_
  refine HA.val (k := 4) (v := .pointer (some ⟨bh, 0, none⟩)) rfl rfl (by kernel_rfl) (by kernel_rfl) (want_none) rfl (fun _ ⟨c208, c1⟩ => q_move rfl) ?_
  refine HA.val (k := 6) (v := .int .i64 kind) rfl rfl (by kernel_rfl) (by kernel_rfl) (want_none) rfl (fun _ ⟨c208, c1⟩ => q_move rfl) ?_
  refine HA.val (k := 7) (v := .agg (e_api_Addr g).toArray) rfl rfl (by kernel_rfl) (by kernel_rfl) (want_none) rfl (fun _ ⟨c208, c1⟩ => q_loadAgg (cs := (e_api_Addr g)) ta_28 rfl rfl (Blk.cells (k := 17) c208 rfl)) ?_
  refine HA.two (k := 5) (k' := 9) ⟨⟨(hS.box 0 rfl), (hS.box 1 rfl)⟩, (Go.Wk.at_nil _ _)⟩ (by kernel_rfl) ?_ ?_
  ·
   replace hS : St F (Ow.box bh 97 #[.bool h_v6, .int .i64 h_now, .map (some rh_want), .int .i64 h_one, .int .i64 h_two] :: Ow.box b_1 28 (e_api_Addr g).toArray :: Ow.map rh_want (fun (x : T_api_Addr) => .agg (e_api_Addr x).toArray) (fun (x : T_api_Filter) => .agg #[.bool x.1, x.2.1]) h_want :: fr) h_1 := hS.perm2 [1, 0, 2] 3 rfl rfl
   have hZ_1 := hS
   have hkz_1 := (hS.freeze).2
   replace hS := hS.freeze.1
   have hL_1 := hZ_1.lent
   replace hS : St (fun bz_ => F bz_ ∨ (Ow.box bh 97 #[.bool h_v6, .int .i64 h_now, .map (some rh_want), .int .i64 h_one, .int .i64 h_two]).foot bz_) (Ow.map rh_want (fun (x : T_api_Addr) => .agg (e_api_Addr x).toArray) (fun (x : T_api_Filter) => .agg #[.bool x.1, x.2.1]) h_want :: Ow.box b_1 28 (e_api_Addr g).toArray :: fr) h_1 := hS.perm2 [1, 0] 2 rfl rfl
   have hZ_2 := hS
   have hkz_2 := (hS.freeze).2
   replace hS := hS.freeze.1
   have hL_2 := hZ_2.lent
   refine HS.call rfl (want_none) rfl (ec en_60 rfl rfl) (host_Host_mode_walk (fr := (Ow.box b_1 28 (e_api_Addr g).toArray :: fr)) h_v6 h_now h_want h_one h_two bh rh_want hS (NfL.kp (NfL.kp hN_h_want hkz_1) hkz_2) hL_2 (hL_1.kp hkz_2) hM) ?_
   rintro _ h_2 ⟨F_1, r_2, rfl, hk, hS, _, _, _, hM⟩
   obtain ⟨hS, hk⟩ := hZ_2.back hk hS
   obtain ⟨hS, hk⟩ := hZ_1.back hk hS
   generalize (fun bz_ => (fun bz_ => F_1 bz_ ∧ ¬ (Ow.map rh_want (fun (x : T_api_Addr) => .agg (e_api_Addr x).toArray) (fun (x : T_api_Filter) => .agg #[.bool x.1, x.2.1]) h_want).foot bz_) bz_ ∧ ¬ (Ow.box bh 97 #[.bool h_v6, .int .i64 h_now, .map (some rh_want), .int .i64 h_one, .int .i64 h_two]).foot bz_) = F_2 at hS hk
   replace hK := hK.trans hk
   replace hN_h_want := hN_h_want.kp hk
   refine HA.val (k := 8) (v := .agg (c_api_Talk (.bool h_v6) (.int .i64 r_2) (.int .i64 kind) (.int .i64 0) g (.bool false) (.int .i64 0) (.int .i64 0) (.slice none 0 0) (.slice none 0 0)).toArray) rfl rfl (by kernel_rfl) (by kernel_rfl) (want_none) rfl (fun _ ⟨c208, c1⟩ => q_build tp_31 (fill_cons (cs' := (c_api_Talk (.bool h_v6) (.int .i64 0) (.int .i64 0) (.int .i64 0) (false, (default : Ba 16)) (.bool false) (.int .i64 0) (.int .i64 0) (.slice none 0 0) (.slice none 0 0)).toArray) (vc := #[.bool h_v6]) rfl rfl rfl (Nat.le_of_ble_eq_true rfl) rfl (fill_cons (cs' := (c_api_Talk (.bool h_v6) (.int .i64 r_2) (.int .i64 0) (.int .i64 0) (false, (default : Ba 16)) (.bool false) (.int .i64 0) (.int .i64 0) (.slice none 0 0) (.slice none 0 0)).toArray) (vc := #[.int .i64 r_2]) rfl rfl rfl (Nat.le_of_ble_eq_true rfl) rfl (fill_cons (cs' := (c_api_Talk (.bool h_v6) (.int .i64 r_2) (.int .i64 kind) (.int .i64 0) (false, (default : Ba 16)) (.bool false) (.int .i64 0) (.int .i64 0) (.slice none 0 0) (.slice none 0 0)).toArray) (vc := #[.int .i64 kind]) rfl rfl rfl (Nat.le_of_ble_eq_true rfl) rfl (fill_cons (cs' := (c_api_Talk (.bool h_v6) (.int .i64 r_2) (.int .i64 kind) (.int .i64 0) g (.bool false) (.int .i64 0) (.int .i64 0) (.slice none 0 0) (.slice none 0 0)).toArray) (vc := (e_api_Addr g).toArray) rfl rfl rfl (Nat.le_of_ble_eq_true rfl) rfl rfl))))) ?_
   refine HA.one (k := 9) ⟨⟨(hS.box 2 rfl), (hS.box 0 rfl)⟩, (Go.Wk.at_nil _ _)⟩ (by kernel_rfl) ?_
   refine HS.eff rfl (want_none) rfl (st_alloc (c := (c_api_Talk (.bool false) (.int .i64 0) (.int .i64 0) (.int .i64 0) (false, (default : Ba 16)) (.bool false) (.int .i64 0) (.int .i64 0) (.slice none 0 0) (.slice none 0 0)).toArray) hS tz_31 rfl) ?_
   rintro _ h_3 ⟨b_3, rfl, hS, hk⟩
   replace hK := hK.trans hk
   replace hN_h_want := hN_h_want.kp hk
   refine HA.one (k := 10) ⟨⟨(hS.box 3 rfl), (hS.box 1 rfl)⟩, (Go.Wk.at_nil _ _)⟩ (by kernel_rfl) ?_
   refine HS.sto rfl (want_none) rfl (st_storeAgg (c' := (c_api_Talk (.bool h_v6) (.int .i64 r_2) (.int .i64 kind) (.int .i64 0) g (.bool false) (.int .i64 0) (.int .i64 0) (.slice none 0 0) (.slice none 0 0)).toArray) hS (i := 0) rfl ta_31 rfl rfl rfl (List.forall_mem_cons.2 ⟨rfl, (List.forall_mem_cons.2 ⟨rfl, (List.forall_mem_cons.2 ⟨rfl, (List.forall_mem_cons.2 ⟨rfl, (List.forall_mem_cons.2 ⟨rfl, (List.forall_mem_cons.2 ⟨rfl, (List.forall_mem_cons.2 ⟨rfl, (List.forall_mem_cons.2 ⟨rfl, (List.forall_mem_cons.2 ⟨rfl, (List.forall_mem_cons.2 ⟨rfl, (List.forall_mem_cons.2 ⟨rfl, (List.forall_mem_cons.2 ⟨rfl, (List.forall_mem_cons.2 ⟨rfl, (List.forall_mem_cons.2 ⟨rfl, (List.forall_mem_cons.2 ⟨rfl, (List.forall_mem_cons.2 ⟨rfl, (List.forall_mem_cons.2 ⟨rfl, (List.forall_mem_cons.2 ⟨rfl, (List.forall_mem_cons.2 ⟨rfl, (List.forall_mem_cons.2 ⟨rfl, (List.forall_mem_cons.2 ⟨rfl, (List.forall_mem_cons.2 ⟨rfl, (List.forall_mem_cons.2 ⟨rfl, (List.forall_mem_cons.2 ⟨rfl, (List.forall_mem_cons.2 ⟨rfl, (List.forall_mem_cons.2 ⟨rfl, (fun _ h => by cases h)⟩)⟩)⟩)⟩)⟩)⟩)⟩)⟩)⟩)⟩)⟩)⟩)⟩)⟩)⟩)⟩)⟩)⟩)⟩)⟩)⟩)⟩)⟩)⟩)⟩)⟩) (Nat.le_of_ble_eq_true rfl) rfl) ?_
   rintro h_4 ⟨hS, hk⟩
   replace hK := hK.trans hk
   replace hN_h_want := hN_h_want.kp hk
   refine HA.nil ⟨⟨(hS.box 3 rfl), (hS.box 1 rfl)⟩, (Go.Wk.at_nil _ _)⟩ (by kernel_rfl) (thenQ_normal (?_))
   replace hS : St F_2 (Ow.box bh 97 #[.bool h_v6, .int .i64 h_now, .map (some rh_want), .int .i64 h_one, .int .i64 h_two] :: Ow.map rh_want (fun (x : T_api_Addr) => .agg (e_api_Addr x).toArray) (fun (x : T_api_Filter) => .agg #[.bool x.1, x.2.1]) h_want :: Ow.box b_3 31 (c_api_Talk (.bool h_v6) (.int .i64 r_2) (.int .i64 kind) (.int .i64 0) g (.bool false) (.int .i64 0) (.int .i64 0) (.slice none 0 0) (.slice none 0 0)).toArray :: fr) h_4 := hS.perm2 [1, 2, 0] 4 rfl rfl
   exact ⟨F_2, r_2, b_3, rfl, rfl, rfl, rfl, hK, hS, hN_h_want, hM⟩
  ·
   refine HS.eff rfl (want_none) rfl (st_alloc (c := (c_api_Talk (.bool false) (.int .i64 0) (.int .i64 0) (.int .i64 0) (false, (default : Ba 16)) (.bool false) (.int .i64 0) (.int .i64 0) (.slice none 0 0) (.slice none 0 0)).toArray) hS tz_31 rfl) ?_
   rintro _ h_2 ⟨b_3, rfl, hS, hk⟩
   replace hK := hK.trans hk
   replace hN_h_want := hN_h_want.kp hk
   refine HA.one (k := 5) ⟨⟨(hS.box 1 rfl), (hS.box 2 rfl)⟩, (Go.Wk.at_nil _ _)⟩ (by kernel_rfl) ?_
   replace hS : St F (Ow.box bh 97 #[.bool h_v6, .int .i64 h_now, .map (some rh_want), .int .i64 h_one, .int .i64 h_two] :: Ow.box b_3 31 (c_api_Talk (.bool false) (.int .i64 0) (.int .i64 0) (.int .i64 0) (false, (default : Ba 16)) (.bool false) (.int .i64 0) (.int .i64 0) (.slice none 0 0) (.slice none 0 0)).toArray :: Ow.box b_1 28 (e_api_Addr g).toArray :: Ow.map rh_want (fun (x : T_api_Addr) => .agg (e_api_Addr x).toArray) (fun (x : T_api_Filter) => .agg #[.bool x.1, x.2.1]) h_want :: fr) h_2 := hS.perm2 [2, 0, 1, 3] 4 rfl rfl
   have hZ_1 := hS
   have hkz_1 := (hS.freeze).2
   replace hS := hS.freeze.1
   have hL_1 := hZ_1.lent
   replace hS : St (fun bz_ => F bz_ ∨ (Ow.box bh 97 #[.bool h_v6, .int .i64 h_now, .map (some rh_want), .int .i64 h_one, .int .i64 h_two]).foot bz_) (Ow.map rh_want (fun (x : T_api_Addr) => .agg (e_api_Addr x).toArray) (fun (x : T_api_Filter) => .agg #[.bool x.1, x.2.1]) h_want :: Ow.box b_3 31 (c_api_Talk (.bool false) (.int .i64 0) (.int .i64 0) (.int .i64 0) (false, (default : Ba 16)) (.bool false) (.int .i64 0) (.int .i64 0) (.slice none 0 0) (.slice none 0 0)).toArray :: Ow.box b_1 28 (e_api_Addr g).toArray :: fr) h_2 := hS.perm2 [2, 0, 1] 3 rfl rfl
   have hZ_2 := hS
   have hkz_2 := (hS.freeze).2
   replace hS := hS.freeze.1
   have hL_2 := hZ_2.lent
   refine HS.call rfl (want_none) rfl (ec en_60 rfl rfl) (host_Host_mode_walk (fr := (Ow.box b_3 31 (c_api_Talk (.bool false) (.int .i64 0) (.int .i64 0) (.int .i64 0) (false, (default : Ba 16)) (.bool false) (.int .i64 0) (.int .i64 0) (.slice none 0 0) (.slice none 0 0)).toArray :: Ow.box b_1 28 (e_api_Addr g).toArray :: fr)) h_v6 h_now h_want h_one h_two bh rh_want hS (NfL.kp (NfL.kp hN_h_want hkz_1) hkz_2) hL_2 (hL_1.kp hkz_2) hM) ?_
   rintro _ h_3 ⟨F_1, r_2, rfl, hk, hS, _, _, _, hM⟩
   obtain ⟨hS, hk⟩ := hZ_2.back hk hS
   obtain ⟨hS, hk⟩ := hZ_1.back hk hS
   generalize (fun bz_ => (fun bz_ => F_1 bz_ ∧ ¬ (Ow.map rh_want (fun (x : T_api_Addr) => .agg (e_api_Addr x).toArray) (fun (x : T_api_Filter) => .agg #[.bool x.1, x.2.1]) h_want).foot bz_) bz_ ∧ ¬ (Ow.box bh 97 #[.bool h_v6, .int .i64 h_now, .map (some rh_want), .int .i64 h_one, .int .i64 h_two]).foot bz_) = F_2 at hS hk
   replace hK := hK.trans hk
   replace hN_h_want := hN_h_want.kp hk
   refine HA.val (k := 8) (v := .agg (c_api_Talk (.bool h_v6) (.int .i64 r_2) (.int .i64 kind) (.int .i64 0) g (.bool false) (.int .i64 0) (.int .i64 0) (.slice none 0 0) (.slice none 0 0)).toArray) rfl rfl (by kernel_rfl) (by kernel_rfl) (want_none) rfl (fun _ ⟨c208, c1⟩ => q_build tp_31 (fill_cons (cs' := (c_api_Talk (.bool h_v6) (.int .i64 0) (.int .i64 0) (.int .i64 0) (false, (default : Ba 16)) (.bool false) (.int .i64 0) (.int .i64 0) (.slice none 0 0) (.slice none 0 0)).toArray) (vc := #[.bool h_v6]) rfl rfl rfl (Nat.le_of_ble_eq_true rfl) rfl (fill_cons (cs' := (c_api_Talk (.bool h_v6) (.int .i64 r_2) (.int .i64 0) (.int .i64 0) (false, (default : Ba 16)) (.bool false) (.int .i64 0) (.int .i64 0) (.slice none 0 0) (.slice none 0 0)).toArray) (vc := #[.int .i64 r_2]) rfl rfl rfl (Nat.le_of_ble_eq_true rfl) rfl (fill_cons (cs' := (c_api_Talk (.bool h_v6) (.int .i64 r_2) (.int .i64 kind) (.int .i64 0) (false, (default : Ba 16)) (.bool false) (.int .i64 0) (.int .i64 0) (.slice none 0 0) (.slice none 0 0)).toArray) (vc := #[.int .i64 kind]) rfl rfl rfl (Nat.le_of_ble_eq_true rfl) rfl (fill_cons (cs' := (c_api_Talk (.bool h_v6) (.int .i64 r_2) (.int .i64 kind) (.int .i64 0) g (.bool false) (.int .i64 0) (.int .i64 0) (.slice none 0 0) (.slice none 0 0)).toArray) (vc := (e_api_Addr g).toArray) rfl rfl rfl (Nat.le_of_ble_eq_true rfl) rfl rfl))))) ?_
   refine HA.one (k := 10) ⟨⟨(hS.box 3 rfl), (hS.box 0 rfl)⟩, (Go.Wk.at_nil _ _)⟩ (by kernel_rfl) ?_
   refine HS.sto rfl (want_none) rfl (st_storeAgg (c' := (c_api_Talk (.bool h_v6) (.int .i64 r_2) (.int .i64 kind) (.int .i64 0) g (.bool false) (.int .i64 0) (.int .i64 0) (.slice none 0 0) (.slice none 0 0)).toArray) hS (i := 2) rfl ta_31 rfl rfl rfl (List.forall_mem_cons.2 ⟨rfl, (List.forall_mem_cons.2 ⟨rfl, (List.forall_mem_cons.2 ⟨rfl, (List.forall_mem_cons.2 ⟨rfl, (List.forall_mem_cons.2 ⟨rfl, (List.forall_mem_cons.2 ⟨rfl, (List.forall_mem_cons.2 ⟨rfl, (List.forall_mem_cons.2 ⟨rfl, (List.forall_mem_cons.2 ⟨rfl, (List.forall_mem_cons.2 ⟨rfl, (List.forall_mem_cons.2 ⟨rfl, (List.forall_mem_cons.2 ⟨rfl, (List.forall_mem_cons.2 ⟨rfl, (List.forall_mem_cons.2 ⟨rfl, (List.forall_mem_cons.2 ⟨rfl, (List.forall_mem_cons.2 ⟨rfl, (List.forall_mem_cons.2 ⟨rfl, (List.forall_mem_cons.2 ⟨rfl, (List.forall_mem_cons.2 ⟨rfl, (List.forall_mem_cons.2 ⟨rfl, (List.forall_mem_cons.2 ⟨rfl, (List.forall_mem_cons.2 ⟨rfl, (List.forall_mem_cons.2 ⟨rfl, (List.forall_mem_cons.2 ⟨rfl, (List.forall_mem_cons.2 ⟨rfl, (List.forall_mem_cons.2 ⟨rfl, (fun _ h => by cases h)⟩)⟩)⟩)⟩)⟩)⟩)⟩)⟩)⟩)⟩)⟩)⟩)⟩)⟩)⟩)⟩)⟩)⟩)⟩)⟩)⟩)⟩)⟩)⟩)⟩)⟩) (Nat.le_of_ble_eq_true rfl) rfl) ?_
   rintro h_4 ⟨hS, hk⟩
   replace hK := hK.trans hk
   replace hN_h_want := hN_h_want.kp hk
   refine HA.nil ⟨⟨(hS.box 3 rfl), (hS.box 0 rfl)⟩, (Go.Wk.at_nil _ _)⟩ (by kernel_rfl) (thenQ_normal (?_))
   replace hS : St F_2 (Ow.box bh 97 #[.bool h_v6, .int .i64 h_now, .map (some rh_want), .int .i64 h_one, .int .i64 h_two] :: Ow.map rh_want (fun (x : T_api_Addr) => .agg (e_api_Addr x).toArray) (fun (x : T_api_Filter) => .agg #[.bool x.1, x.2.1]) h_want :: Ow.box b_3 31 (c_api_Talk (.bool h_v6) (.int .i64 r_2) (.int .i64 kind) (.int .i64 0) g (.bool false) (.int .i64 0) (.int .i64 0) (.slice none 0 0) (.slice none 0 0)).toArray :: fr) h_4 := hS.perm2 [0, 1, 2] 4 rfl rfl
   exact ⟨F_2, r_2, b_3, rfl, rfl, rfl, rfl, hK, hS, hN_h_want, hM⟩
 ·
  rintro f_1 h_5 ⟨F_3, t_1_1, b_2, e0, e2, e6, e7, hK, hS, hN_h_want, hM⟩
  unfold host_Host_older_j1 at hM
  refine HW.fr [(0, .pointer (some ⟨bh, 0, none⟩)), (2, .int .i64 kind), (6, .slice none 0 0), (7, .pointer (some ⟨b_2, 0, none⟩))] ⟨e0, e2, e6, e7, trivial⟩ ?_
  refine HW.seq ?_
  refine HW.seq_mid (fun f h => ∃ (F' : Fz) (b_4 : Bool), f 6 = .slice none 0 0 ∧ f 7 = .pointer (some ⟨b_2, 0, none⟩) ∧ f 30 = .bool b_4 ∧ Kp F h0 F' h ∧ St F' (Ow.box bh 97 #[.bool h_v6, .int .i64 h_now, .map (some rh_want), .int .i64 h_one, .int .i64 h_two] :: Ow.map rh_want (fun (x : T_api_Addr) => .agg (e_api_Addr x).toArray) (fun (x : T_api_Filter) => .agg #[.bool x.1, x.2.1]) h_want :: Ow.box b_2 31 (c_api_Talk (.bool h_v6) (.int .i64 t_1_1) (.int .i64 kind) (.int .i64 0) g (.bool false) (.int .i64 0) (.int .i64 0) (.slice none 0 0) (.slice none 0 0)).toArray :: fr) h ∧ (NfL nf_api_Filter F' h (h_want.map (·.2))) ∧ host_Host_older_j2 h_v6 h_now h_want h_one h_two g kind Q t_1_1 b_4) ?_ ?_
  ·
   refine HW.region ?_
   refine oM (.int .i64 kind) rfl rfl ?_
   refine oV (.bool (decide (kind = 3))) (q_eql rfl rfl) rfl ?_
   refine oM (.bool (decide (kind = 3))) rfl rfl ?_
   rcases Bool.eq_false_or_eq_true (decide (kind = 3)) with c_1 | c_1
   ·
    replace hM := hM.1 (of_decide_eq_true c_1)
    refine HO.val (v := .pointer (some ⟨b_2, 1, none⟩)) (want_by rfl rfl c_1) rfl (q_fieldAddr fa_31_1 rfl rfl) ?_
    refine HO.val (v := .int .i64 t_1_1) (want_by rfl rfl c_1) rfl (q_load to_3 rfl (Blk.cell (hS.box 2 rfl) rfl)) ?_
    refine HO.val (v := .bool (decide (t_1_1 = 1))) (want_by rfl rfl c_1) rfl (q_eql rfl rfl) ?_
    refine oV (.bool (decide (t_1_1 = 1))) (q_pickK true rfl c_1 rfl) rfl ?_
    refine oM (.bool (decide (t_1_1 = 1))) rfl rfl ?_
    rcases Bool.eq_false_or_eq_true (decide (t_1_1 = 1)) with c_2 | c_2
    ·
     replace hM := hM.1 (of_decide_eq_true c_2)
     refine HO.val (v := .pointer (some ⟨bh, 0, none⟩)) (want_by rfl rfl c_2) rfl (q_move rfl) ?_
     refine HO.val (v := .pointer (some ⟨bh, 0, none⟩)) (want_by rfl rfl c_2) rfl (q_nilCheck rfl) ?_
     refine HO.val (v := .pointer (some ⟨bh, 0, none⟩)) (want_by rfl rfl c_2) rfl (q_fieldAddr fa_97_0 rfl rfl) ?_
     refine HO.val (v := .bool h_v6) (want_by rfl rfl c_2) rfl (q_load to_4 rfl (Blk.cell (hS.box 0 rfl) rfl)) ?_
     refine HO.val (v := .bool (!h_v6)) (want_by rfl rfl c_2) rfl (q_not rfl) ?_
     refine oV (.bool (!h_v6)) (q_pickK true rfl c_2 rfl) rfl ?_
     refine HO.nil (thenQ_normal (?_))
     exact ⟨F_3, !h_v6, rfl, rfl, rfl, hK, hS, hN_h_want, hM⟩
    ·
     replace hM := hM.2 (of_decide_eq_false c_2)
     refine HO.past (past_by rfl rfl c_2) rfl ?_
     refine HO.past (past_by rfl rfl c_2) rfl ?_
     refine HO.past (past_by rfl rfl c_2) rfl ?_
     refine HO.past (past_by rfl rfl c_2) rfl ?_
     refine HO.past (past_by rfl rfl c_2) rfl ?_
     refine oV (.bool false) (q_pickK false rfl c_2 rfl) rfl ?_
     refine HO.nil (thenQ_normal (?_))
     exact ⟨F_3, false, rfl, rfl, rfl, hK, hS, hN_h_want, hM⟩
   ·
    replace hM := hM.2 (of_decide_eq_false c_1)
    refine HO.past (past_by rfl rfl c_1) rfl ?_
    refine HO.past (past_by rfl rfl c_1) rfl ?_
    refine HO.past (past_by rfl rfl c_1) rfl ?_
    refine oV (.bool false) (q_pickK false rfl c_1 rfl) rfl ?_
    refine oM (.bool false) rfl rfl ?_
    refine HO.past (past_some rfl rfl) rfl ?_
    refine HO.past (past_some rfl rfl) rfl ?_
    refine HO.past (past_some rfl rfl) rfl ?_
    refine HO.past (past_some rfl rfl) rfl ?_
    refine HO.past (past_some rfl rfl) rfl ?_
    refine oV (.bool false) (q_pick rfl rfl) rfl ?_
    refine HO.nil (thenQ_normal (?_))
    exact ⟨F_3, false, rfl, rfl, rfl, hK, hS, hN_h_want, hM⟩
  ·
   rintro f_2 h_6 ⟨F_4, b_4, e6, e7, e30, hK, hS, hN_h_want, hM⟩
   unfold host_Host_older_j2 at hM
   refine HW.fr [(6, .slice none 0 0), (7, .pointer (some ⟨b_2, 0, none⟩)), (30, .bool b_4)] ⟨e6, e7, e30, trivial⟩ ?_
   refine HW.cond b_4 rfl (fun c_3 => ?_) (fun c_3 => ?_)
   ·
    replace hM := hM.1 c_3
    refine HW.seq ?_
    refine HW.region ?_
    refine oA (.slice none 0 0) rfl rfl ?_
    refine HO.nil (thenQ_normal (?_))
    refine HW.ret (thenQ_ret (?_))
    refine ⟨.inr rfl, .slice none 0 0, res1 rfl (rt rfl), ?_⟩
    replace hS := hS.nilOwn 31 26 e_api_Talk
    have hN_3 : NfL nf_api_Talk F_4 h_6 ([] : List T_api_Talk) := NfL.nil _ _ _
    replace hS : St F_4 (Ow.own 31 26 e_api_Talk (.slice none 0 0) ([] : List T_api_Talk) :: Ow.box bh 97 #[.bool h_v6, .int .i64 h_now, .map (some rh_want), .int .i64 h_one, .int .i64 h_two] :: Ow.map rh_want (fun (x : T_api_Addr) => .agg (e_api_Addr x).toArray) (fun (x : T_api_Filter) => .agg #[.bool x.1, x.2.1]) h_want :: fr) h_6 := hS.perm2 [0, 1, 2] 4 rfl rfl
    exact ⟨F_4, [], h_v6, h_now, h_want, h_one, h_two, .slice none 0 0, rfl, hK, hS, hN_h_want, hN_3, hN_h_want, hM⟩
   ·
    replace hM := hM.2 c_3
    refine HW.skip (thenQ_normal (?_))
    refine HW.seq ?_
    refine HW.region ?_
    refine oV (.agg (c_api_Talk (.bool h_v6) (.int .i64 t_1_1) (.int .i64 kind) (.int .i64 0) g (.bool false) (.int .i64 0) (.int .i64 0) (.slice none 0 0) (.slice none 0 0)).toArray) (q_loadAgg (cs := (c_api_Talk (.bool h_v6) (.int .i64 t_1_1) (.int .i64 kind) (.int .i64 0) g (.bool false) (.int .i64 0) (.int .i64 0) (.slice none 0 0) (.slice none 0 0))) ta_31 rfl rfl (Blk.cells (k := 26) (hS.box 2 rfl) rfl)) rfl ?_
    refine HO.eff (want_none) rfl (st_lit (enc := e_api_Talk) (cells := #[.bool h_v6, .int .i64 t_1_1, .int .i64 kind, .int .i64 0, .bool g.1, .int .u8 (b8 g.2 0), .int .u8 (b8 g.2 1), .int .u8 (b8 g.2 2), .int .u8 (b8 g.2 3), .int .u8 (b8 g.2 4), .int .u8 (b8 g.2 5), .int .u8 (b8 g.2 6), .int .u8 (b8 g.2 7), .int .u8 (b8 g.2 8), .int .u8 (b8 g.2 9), .int .u8 (b8 g.2 10), .int .u8 (b8 g.2 11), .int .u8 (b8 g.2 12), .int .u8 (b8 g.2 13), .int .u8 (b8 g.2 14), .int .u8 (b8 g.2 15), .bool false, .int .i64 0, .int .i64 0, .slice none 0 0, .slice none 0 0]) #[.bool false, .int .i64 0, .int .i64 0, .int .i64 0, .bool false, .int .u8 0, .int .u8 0, .int .u8 0, .int .u8 0, .int .u8 0, .int .u8 0, .int .u8 0, .int .u8 0, .int .u8 0, .int .u8 0, .int .u8 0, .int .u8 0, .int .u8 0, .int .u8 0, .int .u8 0, .int .u8 0, .bool false, .int .i64 0, .int .i64 0, .slice none 0 0, .slice none 0 0] ([(h_v6, t_1_1, kind, 0, g, false, 0, 0, (.slice none 0 0, []), (.slice none 0 0, []))] : List T_api_Talk) hS tl_33 (by decide) (by decide) (by kernel_rfl) (by kernel_rfl) rfl (by intro x hx; rfl) rfl) ?_
    rintro _ h_7 ⟨b_5, rfl, hS, hk⟩
    replace hK := hK.trans hk
    replace hN_h_want := hN_h_want.kp hk
    have hN_4 : NfL nf_api_Talk F_4 h_7 ([(h_v6, t_1_1, kind, 0, g, false, 0, 0, (.slice none 0 0, []), (.slice none 0 0, []))] : List T_api_Talk) := (NfL.cons (nfm_api_Talk (h_v6, t_1_1, kind, 0, g, false, 0, 0, (.slice none 0 0, []), (.slice none 0 0, [])) (SliceF.nil _ _ _ _) (SliceF.nil _ _ _ _) (NfL.nil _ _ _)) (NfL.nil _ _ _))
    refine oA (.slice (some ⟨b_5, 0, none⟩) 1 1) rfl rfl ?_
    refine HO.nil (thenQ_normal (?_))
    refine HW.ret (?_)
    refine ⟨.inr rfl, .slice (some ⟨b_5, 0, none⟩) 1 1, res1 rfl (rt rfl), ?_⟩
    replace hS : St F_4 (Ow.own 31 26 e_api_Talk (.slice (some ⟨b_5, 0, none⟩) 1 1) ([(h_v6, t_1_1, kind, 0, g, false, 0, 0, (.slice none 0 0, []), (.slice none 0 0, []))] : List T_api_Talk) :: Ow.box bh 97 #[.bool h_v6, .int .i64 h_now, .map (some rh_want), .int .i64 h_one, .int .i64 h_two] :: Ow.map rh_want (fun (x : T_api_Addr) => .agg (e_api_Addr x).toArray) (fun (x : T_api_Filter) => .agg #[.bool x.1, x.2.1]) h_want :: fr) h_7 := hS.perm2 [0, 1, 2] 4 rfl rfl
    exact ⟨F_4, ([(h_v6, t_1_1, kind, 0, g, false, 0, 0, (.slice none 0 0, []), (.slice none 0 0, []))] : List T_api_Talk), h_v6, h_now, h_want, h_one, h_two, .slice (some ⟨b_5, 0, none⟩) 1 1, rfl, hK, hS, hN_h_want, hN_4, hN_h_want, hM⟩
def host_Host_said_j2 (h_v6 : Bool) (h_now : Int) (h_want : List (T_api_Addr × T_api_Filter)) (h_one : Int) (h_two : Int) (g : T_api_Addr) (Q : (List T_api_Talk) → Bool → Int → (List (T_api_Addr × T_api_Filter)) → Int → Int → Prop) (b_5 : Bool) : Prop :=
 (b_5 = true → host_Host_older_W h_v6 h_now h_want h_one h_two g 3 (fun r_11 a0_v6_3 a0_now_3 a0m_3 a0_one_3 a0_two_3 => Q r_11 a0_v6_3 a0_now_3 a0m_3 a0_one_3 a0_two_3)) ∧ (b_5 = false → Q [] h_v6 h_now h_want h_one h_two)
def host_Host_said_j1 (h_v6 : Bool) (h_now : Int) (h_want : List (T_api_Addr × T_api_Filter)) (h_one : Int) (h_two : Int) (g : T_api_Addr) (was_Exclude : Bool) (was_Sources : List T_api_Addr) (is_Exclude : Bool) (is_Sources : List T_api_Addr) (Q : (List T_api_Talk) → Bool → Int → (List (T_api_Addr × T_api_Filter)) → Int → Int → Prop) (b_4 : Bool) : Prop :=
 (b_4 = true → host_Host_older_W h_v6 h_now h_want h_one h_two g 2 (fun r_8 a0_v6_2 a0_now_2 a0m_2 a0_one_2 a0_two_2 => Q r_8 a0_v6_2 a0_now_2 a0m_2 a0_one_2 a0_two_2)) ∧ (b_4 = false → merge_None_W was_Exclude was_Sources (fun r_9 => ((!r_9) = true → merge_None_W is_Exclude is_Sources (fun r_10 => host_Host_said_j2 h_v6 h_now h_want h_one h_two g Q r_10)) ∧ ((!r_9) = false → host_Host_said_j2 h_v6 h_now h_want h_one h_two g Q false)))
def host_Host_said_W (h_v6 : Bool) (h_now : Int) (h_want : List (T_api_Addr × T_api_Filter)) (h_one : Int) (h_two : Int) (g : T_api_Addr) (was_Exclude : Bool) (was_Sources : List T_api_Addr) (is_Exclude : Bool) (is_Sources : List T_api_Addr) (Q : (List T_api_Talk) → Bool → Int → (List (T_api_Addr × T_api_Filter)) → Int → Int → Prop) : Prop :=
 host_Host_mode_W h_v6 h_now h_want h_one h_two (fun r_2 => compat_Last_W h_v6 (fun r_3 => (r_3 ≤ r_2 → merge_Change_W g was_Exclude was_Sources is_Exclude is_Sources (fun r_4 => host_pack_W h_v6 r_4 (fun r_5 => Q r_5 h_v6 h_now h_want h_one h_two))) ∧ (¬ (r_3 ≤ r_2) → merge_None_W was_Exclude was_Sources (fun r_6 => (r_6 = true → merge_None_W is_Exclude is_Sources (fun r_7 => host_Host_said_j1 h_v6 h_now h_want h_one h_two g was_Exclude was_Sources is_Exclude is_Sources Q (!r_7))) ∧ (r_6 = false → host_Host_said_j1 h_v6 h_now h_want h_one h_two g was_Exclude was_Sources is_Exclude is_Sources Q false)))))
theorem host_Host_said_walk {F : Fz} {fr : List Ow} {h0 : Heap} (h_v6 : Bool) (h_now : Int) (h_want : List (T_api_Addr × T_api_Filter)) (h_one : Int) (h_two : Int) (g : T_api_Addr) (was_Exclude : Bool) (was_Sources : List T_api_Addr) (is_Exclude : Bool) (is_Sources : List T_api_Addr) (bh : Nat) (rh_want : Nat) (vwas_Sources : Value) (vis_Sources : Value) (hS : St F (Ow.box bh 97 #[.bool h_v6, .int .i64 h_now, .map (some rh_want), .int .i64 h_one, .int .i64 h_two] :: Ow.map rh_want (fun (x : T_api_Addr) => .agg (e_api_Addr x).toArray) (fun (x : T_api_Filter) => .agg #[.bool x.1, x.2.1]) h_want :: fr) h0) (hN_h_want : NfL nf_api_Filter F h0 (h_want.map (·.2))) (hL_was_Sources : SliceF F h0 17 e_api_Addr vwas_Sources was_Sources) (hL_is_Sources : SliceF F h0 17 e_api_Addr vis_Sources is_Sources) {Q : (List T_api_Talk) → Bool → Int → (List (T_api_Addr × T_api_Filter)) → Int → Int → Prop} (hM : host_Host_said_W h_v6 h_now h_want h_one h_two g was_Exclude was_Sources is_Exclude is_Sources Q) :
  HC Tryz.prog 55 #[.pointer (some ⟨bh, 0, none⟩), .agg (e_api_Addr g).toArray, .agg #[.bool was_Exclude, vwas_Sources], .agg #[.bool is_Exclude, vis_Sources]] h0 fun u h' => ∃ (F' : Fz) (r_1 : List T_api_Talk) (a0_v6_1 : Bool) (a0_now_1 : Int) (a0m_1 : List (T_api_Addr × T_api_Filter)) (a0_one_1 : Int) (a0_two_1 : Int) (vr_1 : Value), u = vr_1 ∧ Kp F h0 F' h' ∧ St F' (Ow.own 31 26 e_api_Talk vr_1 r_1 :: Ow.box bh 97 #[.bool a0_v6_1, .int .i64 a0_now_1, .map (some rh_want), .int .i64 a0_one_1, .int .i64 a0_two_1] :: Ow.map rh_want (fun (x : T_api_Addr) => .agg (e_api_Addr x).toArray) (fun (x : T_api_Filter) => .agg #[.bool x.1, x.2.1]) a0m_1 :: fr) h' ∧ (NfL nf_api_Filter F' h' (h_want.map (·.2))) ∧ (SliceF F' h' 17 e_api_Addr vwas_Sources was_Sources) ∧ (SliceF F' h' 17 e_api_Addr vis_Sources is_Sources) ∧ (NfL nf_api_Talk F' h' r_1) ∧ (NfL nf_api_Filter F' h' (a0m_1.map (·.2))) ∧ Q r_1 a0_v6_1 a0_now_1 a0m_1 a0_one_1 a0_two_1 := by
 unfold host_Host_said_W at hM
 have hK := Kp.refl F h0
 refine HC.of_HW (n := 49) Tryz.func55 rfl rfl (Nat.le_of_ble_eq_true rfl) ?_
 refine HW.seq ?_
 refine HW.region ?_
 refine HO.eff (want_none) rfl (st_box (c := (e_api_Addr g).toArray) (k' := 17) hS rfl rfl) ?_
 rintro _ h_1 ⟨b_1, rfl, hS, hk⟩
 replace hK := hK.trans hk
 replace hN_h_want := hN_h_want.kp hk
 replace hL_was_Sources := hL_was_Sources.kp hk
 replace hL_is_Sources := hL_is_Sources.kp hk
 refine HO.eff (want_none) rfl (st_box (c := #[.bool was_Exclude, vwas_Sources]) (k' := 2) hS rfl rfl) ?_
 rintro _ h_2 ⟨b_2, rfl, hS, hk⟩
 replace hK := hK.trans hk
 replace hN_h_want := hN_h_want.kp hk
 replace hL_was_Sources := hL_was_Sources.kp hk
 replace hL_is_Sources := hL_is_Sources.kp hk
 refine HO.eff (want_none) rfl (st_box (c := #[.bool is_Exclude, vis_Sources]) (k' := 2) hS rfl rfl) ?_
 rintro _ h_3 ⟨b_3, rfl, hS, hk⟩
 replace hK := hK.trans hk
 replace hN_h_want := hN_h_want.kp hk
 replace hL_was_Sources := hL_was_Sources.kp hk
 replace hL_is_Sources := hL_is_Sources.kp hk
 refine oA (.slice none 0 0) rfl rfl ?_
 refine HO.nil (thenQ_normal (?_))
 refine HW.seq ?_
 refine HW.block ?_
 refine HW.seq ?_
 refine HW.regionA 9 mixed (fun h => (Blk h bh (.cells #[.bool h_v6, .int .i64 h_now, .map (some rh_want), .int .i64 h_one, .int .i64 h_two] 97 (0, 0)))) [] (by kernel_rfl) ?_
 refine HA.val (k := 0) (v := .pointer (some ⟨bh, 0, none⟩)) rfl rfl (by kernel_rfl) (by kernel_rfl) (want_none) rfl (fun _ c1 => q_move rfl) ?_
 refine HA.val (k := 2) (v := .pointer (some ⟨bh, 0, none⟩)) rfl rfl (by kernel_rfl) (by kernel_rfl) (want_none) rfl (fun _ c1 => q_move rfl) ?_
 refine HA.val (k := 3) (v := .pointer (some ⟨bh, 0, none⟩)) rfl rfl (by kernel_rfl) (by kernel_rfl) (want_none) rfl (fun _ c1 => q_nilCheck rfl) ?_
 refine HA.val (k := 4) (v := .pointer (some ⟨bh, 0, none⟩)) rfl rfl (by kernel_rfl) (by kernel_rfl) (want_none) rfl (fun _ c1 => q_fieldAddr fa_97_0 rfl rfl) ?_
 refine HA.val (k := 5) (v := .bool h_v6) rfl rfl (by kernel_rfl) (by kernel_rfl) (want_none) rfl (fun _ c1 => q_load to_4 rfl (Blk.cell c1 rfl)) ?_
 refine HA.one (k := 1) ⟨(hS.box 3 rfl), (Go.Wk.at_nil _ _)⟩ (by kernel_rfl) ?_
 replace hS : St F (Ow.box bh 97 #[.bool h_v6, .int .i64 h_now, .map (some rh_want), .int .i64 h_one, .int .i64 h_two] :: Ow.box b_3 50 #[.bool is_Exclude, vis_Sources] :: Ow.box b_2 50 #[.bool was_Exclude, vwas_Sources] :: Ow.box b_1 28 (e_api_Addr g).toArray :: Ow.map rh_want (fun (x : T_api_Addr) => .agg (e_api_Addr x).toArray) (fun (x : T_api_Filter) => .agg #[.bool x.1, x.2.1]) h_want :: fr) h_3 := hS.perm2 [3, 0, 1, 2, 4] 5 rfl rfl
 have hZ_1 := hS
 have hkz_1 := (hS.freeze).2
 replace hS := hS.freeze.1
 have hL_1 := hZ_1.lent
 replace hS : St (fun bz_ => F bz_ ∨ (Ow.box bh 97 #[.bool h_v6, .int .i64 h_now, .map (some rh_want), .int .i64 h_one, .int .i64 h_two]).foot bz_) (Ow.map rh_want (fun (x : T_api_Addr) => .agg (e_api_Addr x).toArray) (fun (x : T_api_Filter) => .agg #[.bool x.1, x.2.1]) h_want :: Ow.box b_3 50 #[.bool is_Exclude, vis_Sources] :: Ow.box b_2 50 #[.bool was_Exclude, vwas_Sources] :: Ow.box b_1 28 (e_api_Addr g).toArray :: fr) h_3 := hS.perm2 [3, 0, 1, 2] 4 rfl rfl
 have hZ_2 := hS
 have hkz_2 := (hS.freeze).2
 replace hS := hS.freeze.1
 have hL_2 := hZ_2.lent
 refine HS.call rfl (want_none) rfl (ec en_60 rfl rfl) (host_Host_mode_walk (fr := (Ow.box b_3 50 #[.bool is_Exclude, vis_Sources] :: Ow.box b_2 50 #[.bool was_Exclude, vwas_Sources] :: Ow.box b_1 28 (e_api_Addr g).toArray :: fr)) h_v6 h_now h_want h_one h_two bh rh_want hS (NfL.kp (NfL.kp hN_h_want hkz_1) hkz_2) hL_2 (hL_1.kp hkz_2) hM) ?_
 rintro _ h_4 ⟨F_1, r_2, rfl, hk, hS, _, _, _, hM⟩
 obtain ⟨hS, hk⟩ := hZ_2.back hk hS
 obtain ⟨hS, hk⟩ := hZ_1.back hk hS
 generalize (fun bz_ => (fun bz_ => F_1 bz_ ∧ ¬ (Ow.map rh_want (fun (x : T_api_Addr) => .agg (e_api_Addr x).toArray) (fun (x : T_api_Filter) => .agg #[.bool x.1, x.2.1]) h_want).foot bz_) bz_ ∧ ¬ (Ow.box bh 97 #[.bool h_v6, .int .i64 h_now, .map (some rh_want), .int .i64 h_one, .int .i64 h_two]).foot bz_) = F_2 at hS hk
 replace hK := hK.trans hk
 replace hN_h_want := hN_h_want.kp hk
 replace hL_was_Sources := hL_was_Sources.kp hk
 replace hL_is_Sources := hL_is_Sources.kp hk
 refine HA.one (k := 6) ⟨(hS.box 0 rfl), (Go.Wk.at_nil _ _)⟩ (by kernel_rfl) ?_
 refine HS.call rfl (want_none) rfl (ec en_61 rfl rfl) (compat_Last_walk (fr := (Ow.box bh 97 #[.bool h_v6, .int .i64 h_now, .map (some rh_want), .int .i64 h_one, .int .i64 h_two] :: Ow.map rh_want (fun (x : T_api_Addr) => .agg (e_api_Addr x).toArray) (fun (x : T_api_Filter) => .agg #[.bool x.1, x.2.1]) h_want :: Ow.box b_3 50 #[.bool is_Exclude, vis_Sources] :: Ow.box b_2 50 #[.bool was_Exclude, vwas_Sources] :: Ow.box b_1 28 (e_api_Addr g).toArray :: fr)) h_v6 hS hM) ?_
 rintro _ h_5 ⟨F_3, r_3, rfl, hk, hS, hM⟩
 replace hK := hK.trans hk
 replace hN_h_want := hN_h_want.kp hk
 replace hL_was_Sources := hL_was_Sources.kp hk
 replace hL_is_Sources := hL_is_Sources.kp hk
 refine HA.val (k := 7) (v := .bool (decide (r_3 ≤ r_2))) rfl rfl (by kernel_rfl) (by kernel_rfl) (want_none) rfl (fun _ c1 => q_geq rfl rfl) ?_
 refine HA.val (k := 8) (v := .bool (decide (r_3 ≤ r_2))) rfl rfl (by kernel_rfl) (by kernel_rfl) (want_none) rfl (fun _ c1 => q_assign rfl) ?_
 refine HA.nil ⟨(hS.box 0 rfl), (Go.Wk.at_nil _ _)⟩ (by kernel_rfl) (thenQ_normal (?_))
 refine HW.cond (decide (r_3 ≤ r_2)) rfl (fun c_1 => ?_) (fun c_1 => ?_)
 ·
  replace hM := hM.1 (of_decide_eq_true c_1)
  refine HW.seq ?_
  refine HW.regionA 10 mixed (fun h => (Blk h bh (.cells #[.bool h_v6, .int .i64 h_now, .map (some rh_want), .int .i64 h_one, .int .i64 h_two] 97 (0, 0))) ∧ (Blk h b_3 (.cells #[.bool is_Exclude, vis_Sources] 50 (0, 0))) ∧ (Blk h b_2 (.cells #[.bool was_Exclude, vwas_Sources] 50 (0, 0))) ∧ (Blk h b_1 (.cells (e_api_Addr g).toArray 28 (0, 0)))) [] (by kernel_rfl) ?_
  refine HA.val (k := 0) (v := .pointer (some ⟨bh, 0, none⟩)) rfl rfl (by kernel_rfl) (by kernel_rfl) (want_none) rfl (fun _ ⟨c1, c210, c209, c208⟩ => q_move rfl) ?_
  refine HA.val (k := 1) (v := .pointer (some ⟨bh, 0, none⟩)) rfl rfl (by kernel_rfl) (by kernel_rfl) (want_none) rfl (fun _ ⟨c1, c210, c209, c208⟩ => q_nilCheck rfl) ?_
  refine HA.val (k := 2) (v := .pointer (some ⟨bh, 0, none⟩)) rfl rfl (by kernel_rfl) (by kernel_rfl) (want_none) rfl (fun _ ⟨c1, c210, c209, c208⟩ => q_fieldAddr fa_97_0 rfl rfl) ?_
  refine HA.val (k := 3) (v := .bool h_v6) rfl rfl (by kernel_rfl) (by kernel_rfl) (want_none) rfl (fun _ ⟨c1, c210, c209, c208⟩ => q_load to_4 rfl (Blk.cell c1 rfl)) ?_
  refine HA.val (k := 4) (v := .agg (e_api_Addr g).toArray) rfl rfl (by kernel_rfl) (by kernel_rfl) (want_none) rfl (fun _ ⟨c1, c210, c209, c208⟩ => q_loadAgg (cs := (e_api_Addr g)) ta_28 rfl rfl (Blk.cells (k := 17) c208 rfl)) ?_
  refine HA.val (k := 5) (v := .agg #[.bool was_Exclude, vwas_Sources]) rfl rfl (by kernel_rfl) (by kernel_rfl) (want_none) rfl (fun _ ⟨c1, c210, c209, c208⟩ => q_loadAgg (cs := [.bool was_Exclude, vwas_Sources]) ta_50 rfl rfl (Blk.cells (k := 2) c209 rfl)) ?_
  refine HA.val (k := 6) (v := .agg #[.bool is_Exclude, vis_Sources]) rfl rfl (by kernel_rfl) (by kernel_rfl) (want_none) rfl (fun _ ⟨c1, c210, c209, c208⟩ => q_loadAgg (cs := [.bool is_Exclude, vis_Sources]) ta_50 rfl rfl (Blk.cells (k := 2) c210 rfl)) ?_
  refine HA.one (k := 7) ⟨⟨(hS.box 0 rfl), (hS.box 2 rfl), (hS.box 3 rfl), (hS.box 4 rfl)⟩, (Go.Wk.at_nil _ _)⟩ (by kernel_rfl) ?_
  refine HS.call rfl (want_none) rfl (ec en_108 rfl rfl) (merge_Change_walk (fr := (Ow.box bh 97 #[.bool h_v6, .int .i64 h_now, .map (some rh_want), .int .i64 h_one, .int .i64 h_two] :: Ow.map rh_want (fun (x : T_api_Addr) => .agg (e_api_Addr x).toArray) (fun (x : T_api_Filter) => .agg #[.bool x.1, x.2.1]) h_want :: Ow.box b_3 50 #[.bool is_Exclude, vis_Sources] :: Ow.box b_2 50 #[.bool was_Exclude, vwas_Sources] :: Ow.box b_1 28 (e_api_Addr g).toArray :: fr)) g was_Exclude was_Sources is_Exclude is_Sources vwas_Sources vis_Sources hS hL_was_Sources hL_is_Sources hM) ?_
  rintro vr_2 h_6 ⟨F_4, r_4, _, rfl, hk, hS, _, _, hL_3, hM⟩
  replace hK := hK.trans hk
  replace hN_h_want := hN_h_want.kp hk
  replace hL_was_Sources := hL_was_Sources.kp hk
  replace hL_is_Sources := hL_is_Sources.kp hk
  refine HA.one (k := 8) ⟨⟨(hS.box 1 rfl), (hS.box 3 rfl), (hS.box 4 rfl), (hS.box 5 rfl)⟩, (Go.Wk.at_nil _ _)⟩ (by kernel_rfl) ?_
  obtain ⟨F_5, hS, hk, hL_4⟩ := hS.freezeOwn
  replace hK := hK.trans hk
  replace hN_h_want := hN_h_want.kp hk
  replace hL_was_Sources := hL_was_Sources.kp hk
  replace hL_is_Sources := hL_is_Sources.kp hk
  replace hL_3 := hL_3.kp hk
  refine HS.call rfl (want_none) rfl (ec en_42 rfl rfl) (host_pack_walk (fr := (Ow.box bh 97 #[.bool h_v6, .int .i64 h_now, .map (some rh_want), .int .i64 h_one, .int .i64 h_two] :: Ow.map rh_want (fun (x : T_api_Addr) => .agg (e_api_Addr x).toArray) (fun (x : T_api_Filter) => .agg #[.bool x.1, x.2.1]) h_want :: Ow.box b_3 50 #[.bool is_Exclude, vis_Sources] :: Ow.box b_2 50 #[.bool was_Exclude, vwas_Sources] :: Ow.box b_1 28 (e_api_Addr g).toArray :: fr)) h_v6 r_4 vr_2 hS hL_3 hL_4 hM) ?_
  rintro vr_3 h_7 ⟨F_6, r_5, _, rfl, hk, hS, _, _, hL_5, hM⟩
  replace hK := hK.trans hk
  replace hN_h_want := hN_h_want.kp hk
  replace hL_was_Sources := hL_was_Sources.kp hk
  replace hL_is_Sources := hL_is_Sources.kp hk
  refine HA.val (k := 9) (v := vr_3) rfl rfl (by kernel_rfl) (by kernel_rfl) (want_none) rfl (fun _ ⟨c1, c210, c209, c208⟩ => q_assign rfl) ?_
  refine HA.nil ⟨⟨(hS.box 1 rfl), (hS.box 3 rfl), (hS.box 4 rfl), (hS.box 5 rfl)⟩, (Go.Wk.at_nil _ _)⟩ (by kernel_rfl) (thenQ_normal (?_))
  refine HW.ret (blockQ_ret (thenQ_ret (?_)))
  refine ⟨.inr rfl, vr_3, res1 rfl (rt rfl), ?_⟩
  replace hS : St F_6 (Ow.own 31 26 e_api_Talk vr_3 r_5 :: Ow.box bh 97 #[.bool h_v6, .int .i64 h_now, .map (some rh_want), .int .i64 h_one, .int .i64 h_two] :: Ow.map rh_want (fun (x : T_api_Addr) => .agg (e_api_Addr x).toArray) (fun (x : T_api_Filter) => .agg #[.bool x.1, x.2.1]) h_want :: fr) h_7 := hS.perm2 [0, 1, 2] 6 rfl rfl
  exact ⟨F_6, r_5, h_v6, h_now, h_want, h_one, h_two, vr_3, rfl, hK, hS, hN_h_want, hL_was_Sources, hL_is_Sources, hL_5, hN_h_want, hM⟩
 ·
  replace hM := hM.2 (of_decide_eq_false c_1)
  refine HW.seq_mid (fun f h => ∃ (F' : Fz) (b_4 : Bool), f 0 = .pointer (some ⟨bh, 0, none⟩) ∧ f 5 = .pointer (some ⟨b_1, 0, none⟩) ∧ f 6 = .pointer (some ⟨b_2, 0, none⟩) ∧ f 7 = .pointer (some ⟨b_3, 0, none⟩) ∧ f 8 = .slice none 0 0 ∧ f 27 = .bool b_4 ∧ Kp F h0 F' h ∧ St F' (Ow.box bh 97 #[.bool h_v6, .int .i64 h_now, .map (some rh_want), .int .i64 h_one, .int .i64 h_two] :: Ow.map rh_want (fun (x : T_api_Addr) => .agg (e_api_Addr x).toArray) (fun (x : T_api_Filter) => .agg #[.bool x.1, x.2.1]) h_want :: Ow.box b_1 28 (e_api_Addr g).toArray :: Ow.box b_2 50 #[.bool was_Exclude, vwas_Sources] :: Ow.box b_3 50 #[.bool is_Exclude, vis_Sources] :: fr) h ∧ (NfL nf_api_Filter F' h (h_want.map (·.2))) ∧ (SliceF F' h 17 e_api_Addr vwas_Sources was_Sources) ∧ (SliceF F' h 17 e_api_Addr vis_Sources is_Sources) ∧ host_Host_said_j1 h_v6 h_now h_want h_one h_two g was_Exclude was_Sources is_Exclude is_Sources Q b_4) ?_ ?_
  ·
   refine HW.region ?_
   refine oV (.agg #[.bool was_Exclude, vwas_Sources]) (q_loadAgg (cs := [.bool was_Exclude, vwas_Sources]) ta_50 rfl rfl (Blk.cells (k := 2) (hS.box 3 rfl) rfl)) rfl ?_
   refine HO.call (want_none) rfl (ec en_53 rfl rfl) (merge_None_walk (fr := (Ow.box bh 97 #[.bool h_v6, .int .i64 h_now, .map (some rh_want), .int .i64 h_one, .int .i64 h_two] :: Ow.map rh_want (fun (x : T_api_Addr) => .agg (e_api_Addr x).toArray) (fun (x : T_api_Filter) => .agg #[.bool x.1, x.2.1]) h_want :: Ow.box b_3 50 #[.bool is_Exclude, vis_Sources] :: Ow.box b_2 50 #[.bool was_Exclude, vwas_Sources] :: Ow.box b_1 28 (e_api_Addr g).toArray :: fr)) was_Exclude was_Sources vwas_Sources hS hL_was_Sources hM) ?_
   rintro _ h_8 ⟨F_7, r_6, rfl, hk, hS, _, hM⟩
   replace hK := hK.trans hk
   replace hN_h_want := hN_h_want.kp hk
   replace hL_was_Sources := hL_was_Sources.kp hk
   replace hL_is_Sources := hL_is_Sources.kp hk
   refine oM (.bool r_6) rfl rfl ?_
   rcases Bool.eq_false_or_eq_true r_6 with c_2 | c_2
   ·
    replace hM := hM.1 c_2
    refine HO.val (v := .agg #[.bool is_Exclude, vis_Sources]) (want_by rfl rfl c_2) rfl (q_loadAgg (cs := [.bool is_Exclude, vis_Sources]) ta_50 rfl rfl (Blk.cells (k := 2) (hS.box 2 rfl) rfl)) ?_
    refine HO.call (want_by rfl rfl c_2) rfl (ec en_53 rfl rfl) (merge_None_walk (fr := (Ow.box bh 97 #[.bool h_v6, .int .i64 h_now, .map (some rh_want), .int .i64 h_one, .int .i64 h_two] :: Ow.map rh_want (fun (x : T_api_Addr) => .agg (e_api_Addr x).toArray) (fun (x : T_api_Filter) => .agg #[.bool x.1, x.2.1]) h_want :: Ow.box b_3 50 #[.bool is_Exclude, vis_Sources] :: Ow.box b_2 50 #[.bool was_Exclude, vwas_Sources] :: Ow.box b_1 28 (e_api_Addr g).toArray :: fr)) is_Exclude is_Sources vis_Sources hS hL_is_Sources hM) ?_
    rintro _ h_9 ⟨F_8, r_7, rfl, hk, hS, _, hM⟩
    replace hK := hK.trans hk
    replace hN_h_want := hN_h_want.kp hk
    replace hL_was_Sources := hL_was_Sources.kp hk
    replace hL_is_Sources := hL_is_Sources.kp hk
    refine HO.val (v := .bool (!r_7)) (want_by rfl rfl c_2) rfl (q_not rfl) ?_
    refine oV (.bool (!r_7)) (q_pickK true rfl c_2 rfl) rfl ?_
    refine oA (.bool (!r_7)) rfl rfl ?_
    refine HO.nil (thenQ_normal (?_))
    replace hS : St F_8 (Ow.box bh 97 #[.bool h_v6, .int .i64 h_now, .map (some rh_want), .int .i64 h_one, .int .i64 h_two] :: Ow.map rh_want (fun (x : T_api_Addr) => .agg (e_api_Addr x).toArray) (fun (x : T_api_Filter) => .agg #[.bool x.1, x.2.1]) h_want :: Ow.box b_1 28 (e_api_Addr g).toArray :: Ow.box b_2 50 #[.bool was_Exclude, vwas_Sources] :: Ow.box b_3 50 #[.bool is_Exclude, vis_Sources] :: fr) h_9 := hS.perm2 [0, 1, 4, 3, 2] 5 rfl rfl
    exact ⟨F_8, !r_7, rfl, rfl, rfl, rfl, rfl, rfl, hK, hS, hN_h_want, hL_was_Sources, hL_is_Sources, hM⟩
   ·
    replace hM := hM.2 c_2
    refine HO.past (past_by rfl rfl c_2) rfl ?_
    refine HO.past (past_by rfl rfl c_2) rfl ?_
    refine HO.past (past_by rfl rfl c_2) rfl ?_
    refine oV (.bool false) (q_pickK false rfl c_2 rfl) rfl ?_
    refine oA (.bool false) rfl rfl ?_
    refine HO.nil (thenQ_normal (?_))
    replace hS : St F_7 (Ow.box bh 97 #[.bool h_v6, .int .i64 h_now, .map (some rh_want), .int .i64 h_one, .int .i64 h_two] :: Ow.map rh_want (fun (x : T_api_Addr) => .agg (e_api_Addr x).toArray) (fun (x : T_api_Filter) => .agg #[.bool x.1, x.2.1]) h_want :: Ow.box b_1 28 (e_api_Addr g).toArray :: Ow.box b_2 50 #[.bool was_Exclude, vwas_Sources] :: Ow.box b_3 50 #[.bool is_Exclude, vis_Sources] :: fr) h_8 := hS.perm2 [0, 1, 4, 3, 2] 5 rfl rfl
    exact ⟨F_7, false, rfl, rfl, rfl, rfl, rfl, rfl, hK, hS, hN_h_want, hL_was_Sources, hL_is_Sources, hM⟩
  ·
   rintro f_1 h_10 ⟨F_9, b_4, e0, e5, e6, e7, e8, e27, hK, hS, hN_h_want, hL_was_Sources, hL_is_Sources, hM⟩
   unfold host_Host_said_j1 at hM
   refine HW.fr [(0, .pointer (some ⟨bh, 0, none⟩)), (5, .pointer (some ⟨b_1, 0, none⟩)), (6, .pointer (some ⟨b_2, 0, none⟩)), (7, .pointer (some ⟨b_3, 0, none⟩)), (8, .slice none 0 0), (27, .bool b_4)] ⟨e0, e5, e6, e7, e8, e27, trivial⟩ ?_
   refine HW.cond b_4 rfl (fun c_3 => ?_) (fun c_3 => ?_)
   ·
    replace hM := hM.1 c_3
    refine HW.seq ?_
    refine HW.region ?_
    refine oM (.pointer (some ⟨bh, 0, none⟩)) rfl rfl ?_
    refine oV (.agg (e_api_Addr g).toArray) (q_loadAgg (cs := (e_api_Addr g)) ta_28 rfl rfl (Blk.cells (k := 17) (hS.box 2 rfl) rfl)) rfl ?_
    refine HO.call (want_none) rfl (ec en_62 rfl rfl) (host_Host_older_walk (fr := (Ow.box b_1 28 (e_api_Addr g).toArray :: Ow.box b_2 50 #[.bool was_Exclude, vwas_Sources] :: Ow.box b_3 50 #[.bool is_Exclude, vis_Sources] :: fr)) h_v6 h_now h_want h_one h_two g 2 bh rh_want hS hN_h_want hM) ?_
    rintro vr_4 h_11 ⟨F_10, r_8, a0_v6_2, a0_now_2, a0m_2, a0_one_2, a0_two_2, _, rfl, hk, hS, _, hL_6, hL_7, hM⟩
    replace hK := hK.trans hk
    replace hN_h_want := hN_h_want.kp hk
    replace hL_was_Sources := hL_was_Sources.kp hk
    replace hL_is_Sources := hL_is_Sources.kp hk
    refine oA (vr_4) rfl rfl ?_
    refine HO.nil (thenQ_normal (?_))
    refine HW.ret (blockQ_ret (thenQ_ret (?_)))
    refine ⟨.inr rfl, vr_4, res1 rfl (rt rfl), ?_⟩
    replace hS : St F_10 (Ow.own 31 26 e_api_Talk vr_4 r_8 :: Ow.box bh 97 #[.bool a0_v6_2, .int .i64 a0_now_2, .map (some rh_want), .int .i64 a0_one_2, .int .i64 a0_two_2] :: Ow.map rh_want (fun (x : T_api_Addr) => .agg (e_api_Addr x).toArray) (fun (x : T_api_Filter) => .agg #[.bool x.1, x.2.1]) a0m_2 :: fr) h_11 := hS.perm2 [0, 1, 2] 6 rfl rfl
    exact ⟨F_10, r_8, a0_v6_2, a0_now_2, a0m_2, a0_one_2, a0_two_2, vr_4, rfl, hK, hS, hN_h_want, hL_was_Sources, hL_is_Sources, hL_6, hL_7, hM⟩
   ·
    replace hM := hM.2 c_3
    refine HW.seq_mid (fun f h => ∃ (F' : Fz) (b_5 : Bool), f 0 = .pointer (some ⟨bh, 0, none⟩) ∧ f 5 = .pointer (some ⟨b_1, 0, none⟩) ∧ f 8 = .slice none 0 0 ∧ f 38 = .bool b_5 ∧ Kp F h0 F' h ∧ St F' (Ow.box bh 97 #[.bool h_v6, .int .i64 h_now, .map (some rh_want), .int .i64 h_one, .int .i64 h_two] :: Ow.map rh_want (fun (x : T_api_Addr) => .agg (e_api_Addr x).toArray) (fun (x : T_api_Filter) => .agg #[.bool x.1, x.2.1]) h_want :: Ow.box b_1 28 (e_api_Addr g).toArray :: fr) h ∧ (NfL nf_api_Filter F' h (h_want.map (·.2))) ∧ (SliceF F' h 17 e_api_Addr vwas_Sources was_Sources) ∧ (SliceF F' h 17 e_api_Addr vis_Sources is_Sources) ∧ host_Host_said_j2 h_v6 h_now h_want h_one h_two g Q b_5) ?_ ?_
    ·
     refine HW.region ?_
     refine oV (.agg #[.bool was_Exclude, vwas_Sources]) (q_loadAgg (cs := [.bool was_Exclude, vwas_Sources]) ta_50 rfl rfl (Blk.cells (k := 2) (hS.box 3 rfl) rfl)) rfl ?_
     refine HO.call (want_none) rfl (ec en_53 rfl rfl) (merge_None_walk (fr := (Ow.box bh 97 #[.bool h_v6, .int .i64 h_now, .map (some rh_want), .int .i64 h_one, .int .i64 h_two] :: Ow.map rh_want (fun (x : T_api_Addr) => .agg (e_api_Addr x).toArray) (fun (x : T_api_Filter) => .agg #[.bool x.1, x.2.1]) h_want :: Ow.box b_1 28 (e_api_Addr g).toArray :: Ow.box b_2 50 #[.bool was_Exclude, vwas_Sources] :: Ow.box b_3 50 #[.bool is_Exclude, vis_Sources] :: fr)) was_Exclude was_Sources vwas_Sources hS hL_was_Sources hM) ?_
     rintro _ h_12 ⟨F_11, r_9, rfl, hk, hS, _, hM⟩
     replace hK := hK.trans hk
     replace hN_h_want := hN_h_want.kp hk
     replace hL_was_Sources := hL_was_Sources.kp hk
     replace hL_is_Sources := hL_is_Sources.kp hk
     refine oV (.bool (!r_9)) (q_not rfl) rfl ?_
     refine oM (.bool (!r_9)) rfl rfl ?_
     rcases Bool.eq_false_or_eq_true (!r_9) with c_4 | c_4
     ·
      replace hM := hM.1 c_4
      refine HO.val (v := .agg #[.bool is_Exclude, vis_Sources]) (want_by rfl rfl c_4) rfl (q_loadAgg (cs := [.bool is_Exclude, vis_Sources]) ta_50 rfl rfl (Blk.cells (k := 2) (hS.box 4 rfl) rfl)) ?_
      refine HO.call (want_by rfl rfl c_4) rfl (ec en_53 rfl rfl) (merge_None_walk (fr := (Ow.box bh 97 #[.bool h_v6, .int .i64 h_now, .map (some rh_want), .int .i64 h_one, .int .i64 h_two] :: Ow.map rh_want (fun (x : T_api_Addr) => .agg (e_api_Addr x).toArray) (fun (x : T_api_Filter) => .agg #[.bool x.1, x.2.1]) h_want :: Ow.box b_1 28 (e_api_Addr g).toArray :: Ow.box b_2 50 #[.bool was_Exclude, vwas_Sources] :: Ow.box b_3 50 #[.bool is_Exclude, vis_Sources] :: fr)) is_Exclude is_Sources vis_Sources hS hL_is_Sources hM) ?_
      rintro _ h_13 ⟨F_12, r_10, rfl, hk, hS, _, hM⟩
      replace hK := hK.trans hk
      replace hN_h_want := hN_h_want.kp hk
      replace hL_was_Sources := hL_was_Sources.kp hk
      replace hL_is_Sources := hL_is_Sources.kp hk
      refine oV (.bool r_10) (q_pickK true rfl c_4 rfl) rfl ?_
      refine oA (.bool r_10) rfl rfl ?_
      refine HO.nil (thenQ_normal (?_))
      replace hS : St F_12 (Ow.box bh 97 #[.bool h_v6, .int .i64 h_now, .map (some rh_want), .int .i64 h_one, .int .i64 h_two] :: Ow.map rh_want (fun (x : T_api_Addr) => .agg (e_api_Addr x).toArray) (fun (x : T_api_Filter) => .agg #[.bool x.1, x.2.1]) h_want :: Ow.box b_1 28 (e_api_Addr g).toArray :: fr) h_13 := hS.perm2 [0, 1, 2] 5 rfl rfl
      exact ⟨F_12, r_10, rfl, rfl, rfl, rfl, hK, hS, hN_h_want, hL_was_Sources, hL_is_Sources, hM⟩
     ·
      replace hM := hM.2 c_4
      refine HO.past (past_by rfl rfl c_4) rfl ?_
      refine HO.past (past_by rfl rfl c_4) rfl ?_
      refine oV (.bool false) (q_pickK false rfl c_4 rfl) rfl ?_
      refine oA (.bool false) rfl rfl ?_
      refine HO.nil (thenQ_normal (?_))
      replace hS : St F_11 (Ow.box bh 97 #[.bool h_v6, .int .i64 h_now, .map (some rh_want), .int .i64 h_one, .int .i64 h_two] :: Ow.map rh_want (fun (x : T_api_Addr) => .agg (e_api_Addr x).toArray) (fun (x : T_api_Filter) => .agg #[.bool x.1, x.2.1]) h_want :: Ow.box b_1 28 (e_api_Addr g).toArray :: fr) h_12 := hS.perm2 [0, 1, 2] 5 rfl rfl
      exact ⟨F_11, false, rfl, rfl, rfl, rfl, hK, hS, hN_h_want, hL_was_Sources, hL_is_Sources, hM⟩
    ·
     rintro f_2 h_14 ⟨F_13, b_5, e0, e5, e8, e38, hK, hS, hN_h_want, hL_was_Sources, hL_is_Sources, hM⟩
     unfold host_Host_said_j2 at hM
     refine HW.fr [(0, .pointer (some ⟨bh, 0, none⟩)), (5, .pointer (some ⟨b_1, 0, none⟩)), (8, .slice none 0 0), (38, .bool b_5)] ⟨e0, e5, e8, e38, trivial⟩ ?_
     refine HW.cond b_5 rfl (fun c_5 => ?_) (fun c_5 => ?_)
     ·
      replace hM := hM.1 c_5
      refine HW.seq ?_
      refine HW.region ?_
      refine oM (.pointer (some ⟨bh, 0, none⟩)) rfl rfl ?_
      refine oV (.agg (e_api_Addr g).toArray) (q_loadAgg (cs := (e_api_Addr g)) ta_28 rfl rfl (Blk.cells (k := 17) (hS.box 2 rfl) rfl)) rfl ?_
      refine HO.call (want_none) rfl (ec en_62 rfl rfl) (host_Host_older_walk (fr := (Ow.box b_1 28 (e_api_Addr g).toArray :: fr)) h_v6 h_now h_want h_one h_two g 3 bh rh_want hS hN_h_want hM) ?_
      rintro vr_5 h_15 ⟨F_14, r_11, a0_v6_3, a0_now_3, a0m_3, a0_one_3, a0_two_3, _, rfl, hk, hS, _, hL_8, hL_9, hM⟩
      replace hK := hK.trans hk
      replace hN_h_want := hN_h_want.kp hk
      replace hL_was_Sources := hL_was_Sources.kp hk
      replace hL_is_Sources := hL_is_Sources.kp hk
      refine oA (vr_5) rfl rfl ?_
      refine HO.nil (thenQ_normal (?_))
      refine HW.ret (blockQ_ret (thenQ_ret (?_)))
      refine ⟨.inr rfl, vr_5, res1 rfl (rt rfl), ?_⟩
      replace hS : St F_14 (Ow.own 31 26 e_api_Talk vr_5 r_11 :: Ow.box bh 97 #[.bool a0_v6_3, .int .i64 a0_now_3, .map (some rh_want), .int .i64 a0_one_3, .int .i64 a0_two_3] :: Ow.map rh_want (fun (x : T_api_Addr) => .agg (e_api_Addr x).toArray) (fun (x : T_api_Filter) => .agg #[.bool x.1, x.2.1]) a0m_3 :: fr) h_15 := hS.perm2 [0, 1, 2] 4 rfl rfl
      exact ⟨F_14, r_11, a0_v6_3, a0_now_3, a0m_3, a0_one_3, a0_two_3, vr_5, rfl, hK, hS, hN_h_want, hL_was_Sources, hL_is_Sources, hL_8, hL_9, hM⟩
     ·
      replace hM := hM.2 c_5
      refine HW.skip (blockQ_normal (thenQ_normal (?_)))
      refine HW.seq ?_
      refine HW.region ?_
      refine oA (.slice none 0 0) rfl rfl ?_
      refine HO.nil (thenQ_normal (?_))
      refine HW.ret (?_)
      refine ⟨.inr rfl, .slice none 0 0, res1 rfl (rt rfl), ?_⟩
      replace hS := hS.nilOwn 31 26 e_api_Talk
      have hN_4 : NfL nf_api_Talk F_13 h_14 ([] : List T_api_Talk) := NfL.nil _ _ _
      replace hS : St F_13 (Ow.own 31 26 e_api_Talk (.slice none 0 0) ([] : List T_api_Talk) :: Ow.box bh 97 #[.bool h_v6, .int .i64 h_now, .map (some rh_want), .int .i64 h_one, .int .i64 h_two] :: Ow.map rh_want (fun (x : T_api_Addr) => .agg (e_api_Addr x).toArray) (fun (x : T_api_Filter) => .agg #[.bool x.1, x.2.1]) h_want :: fr) h_14 := hS.perm2 [0, 1, 2] 4 rfl rfl
      exact ⟨F_13, [], h_v6, h_now, h_want, h_one, h_two, .slice none 0 0, rfl, hK, hS, hN_h_want, hL_was_Sources, hL_is_Sources, hN_4, hN_h_want, hM⟩
def host_Host_Set_j3 (g : T_api_Addr) (f_Exclude : Bool) (f_Sources : List T_api_Addr) (Q : (List T_api_Talk) → Int → Bool → Int → (List (T_api_Addr × T_api_Filter)) → Int → Int → Prop) (a0_v6_2 : Bool) (a0_now_2 : Int) (a0m_2 : List (T_api_Addr × T_api_Filter)) (a0_one_2 : Int) (a0_two_2 : Int) (a0_2_2 : List (T_api_Addr × T_api_Filter)) : Prop :=
 host_Host_said_W a0_v6_2 a0_now_2 a0_2_2 a0_one_2 a0_two_2 g ((mgetD z_api_Filter a0m_2 g).1) (((mgetD z_api_Filter a0m_2 g).2).2) f_Exclude f_Sources (fun r_10 a0_v6_3 a0_now_3 a0m_3 a0_one_3 a0_two_3 => Q r_10 0 a0_v6_3 a0_now_3 a0m_3 a0_one_3 a0_two_3)
def host_Host_Set_j2 (g : T_api_Addr) (f_Exclude : Bool) (f_Sources : List T_api_Addr) (Q : (List T_api_Talk) → Int → Bool → Int → (List (T_api_Addr × T_api_Filter)) → Int → Int → Prop) (a0_v6_2 : Bool) (a0_now_2 : Int) (a0m_2 : List (T_api_Addr × T_api_Filter)) (a0_one_2 : Int) (a0_two_2 : Int) : Prop :=
 merge_None_W f_Exclude f_Sources (fun r_9 => (r_9 = true → host_Host_Set_j3 g f_Exclude f_Sources Q a0_v6_2 a0_now_2 a0m_2 a0_one_2 a0_two_2 (mdel a0m_2 g)) ∧ (r_9 = false → host_own_W f_Exclude f_Sources (fun r_0_1 r_1_1 => ∀ vr_1_1 : Value, (host_Host_Set_j3 g f_Exclude f_Sources Q a0_v6_2 a0_now_2 a0m_2 a0_one_2 a0_two_2 (mset a0m_2 g (r_0_1, (vr_1_1, r_1_1)))))))
def host_Host_Set_j1 (g : T_api_Addr) (f_Exclude : Bool) (f_Sources : List T_api_Addr) (Q : (List T_api_Talk) → Int → Bool → Int → (List (T_api_Addr × T_api_Filter)) → Int → Int → Prop) (a0_v6_2 : Bool) (a0_now_2 : Int) (a0m_2 : List (T_api_Addr × T_api_Filter)) (a0_one_2 : Int) (a0_two_2 : Int) (b_3 : Bool) : Prop :=
 (b_3 = true → Q [] 1 a0_v6_2 a0_now_2 a0m_2 a0_one_2 a0_two_2) ∧ (b_3 = false → ((!((mget a0m_2 g).isSome)) = true → merge_None_W f_Exclude f_Sources (fun r_8 => ((!r_8) = true → (64 ≤ (a0m_2.length : Int) → Q [] 7 a0_v6_2 a0_now_2 a0m_2 a0_one_2 a0_two_2) ∧ (¬ (64 ≤ (a0m_2.length : Int)) → host_Host_Set_j2 g f_Exclude f_Sources Q a0_v6_2 a0_now_2 a0m_2 a0_one_2 a0_two_2)) ∧ ((!r_8) = false → host_Host_Set_j2 g f_Exclude f_Sources Q a0_v6_2 a0_now_2 a0m_2 a0_one_2 a0_two_2))) ∧ ((!((mget a0m_2 g).isSome)) = false → host_Host_Set_j2 g f_Exclude f_Sources Q a0_v6_2 a0_now_2 a0m_2 a0_one_2 a0_two_2))
def host_Host_Set_W (h_v6 : Bool) (h_now : Int) (h_want : List (T_api_Addr × T_api_Filter)) (h_one : Int) (h_two : Int) (now : Int) (g : T_api_Addr) (f_Exclude : Bool) (f_Sources : List T_api_Addr) (Q : (List T_api_Talk) → Int → Bool → Int → (List (T_api_Addr × T_api_Filter)) → Int → Int → Prop) : Prop :=
 host_Host_settle_W h_v6 h_now h_want h_one h_two now (fun r_1 a0_v6_2 a0_now_2 a0m_2 a0_one_2 a0_two_2 => addr_Good_W g (fun r_2 => ((!r_2) = true → host_Host_Set_j1 g f_Exclude f_Sources Q a0_v6_2 a0_now_2 a0m_2 a0_one_2 a0_two_2 true) ∧ ((!r_2) = false → addr_Group_W g (fun r_3 => ((!r_3) = true → host_Host_Set_j1 g f_Exclude f_Sources Q a0_v6_2 a0_now_2 a0m_2 a0_one_2 a0_two_2 true) ∧ ((!r_3) = false → addr_Local_W g (fun r_4 => (r_4 = true → host_Host_Set_j1 g f_Exclude f_Sources Q a0_v6_2 a0_now_2 a0m_2 a0_one_2 a0_two_2 true) ∧ (r_4 = false → host_Host_kind_W a0_v6_2 a0_now_2 a0m_2 a0_one_2 a0_two_2 ([g] : List T_api_Addr) (fun r_5 => ((!r_5) = true → host_Host_Set_j1 g f_Exclude f_Sources Q a0_v6_2 a0_now_2 a0m_2 a0_one_2 a0_two_2 true) ∧ ((!r_5) = false → host_Host_kind_W a0_v6_2 a0_now_2 a0m_2 a0_one_2 a0_two_2 f_Sources (fun r_6 => ((!r_6) = true → host_Host_Set_j1 g f_Exclude f_Sources Q a0_v6_2 a0_now_2 a0m_2 a0_one_2 a0_two_2 true) ∧ ((!r_6) = false → (64 < (f_Sources.length : Int) → host_Host_Set_j1 g f_Exclude f_Sources Q a0_v6_2 a0_now_2 a0m_2 a0_one_2 a0_two_2 true) ∧ (¬ (64 < (f_Sources.length : Int)) → srcs_Good_W f_Sources (fun r_7 => host_Host_Set_j1 g f_Exclude f_Sources Q a0_v6_2 a0_now_2 a0m_2 a0_one_2 a0_two_2 (!r_7))))))))))))))
theorem host_Host_Set_walk {F : Fz} {fr : List Ow} {h0 : Heap} (h_v6 : Bool) (h_now : Int) (h_want : List (T_api_Addr × T_api_Filter)) (h_one : Int) (h_two : Int) (now : Int) (g : T_api_Addr) (f_Exclude : Bool) (f_Sources : List T_api_Addr) (bh : Nat) (rh_want : Nat) (vf_Sources : Value) (hS : St F (Ow.box bh 97 #[.bool h_v6, .int .i64 h_now, .map (some rh_want), .int .i64 h_one, .int .i64 h_two] :: Ow.map rh_want (fun (x : T_api_Addr) => .agg (e_api_Addr x).toArray) (fun (x : T_api_Filter) => .agg #[.bool x.1, x.2.1]) h_want :: fr) h0) (hN_h_want : NfL nf_api_Filter F h0 (h_want.map (·.2))) (hL_f_Sources : SliceF F h0 17 e_api_Addr vf_Sources f_Sources) {Q : (List T_api_Talk) → Int → Bool → Int → (List (T_api_Addr × T_api_Filter)) → Int → Int → Prop} (hM : host_Host_Set_W h_v6 h_now h_want h_one h_two now g f_Exclude f_Sources Q) :
  HC Tryz.prog 17 #[.pointer (some ⟨bh, 0, none⟩), .int .i64 now, .agg (e_api_Addr g).toArray, .agg #[.bool f_Exclude, vf_Sources]] h0 fun u h' => ∃ (F' : Fz) (r0_1 : List T_api_Talk) (r1_1 : Int) (a0_v6_1 : Bool) (a0_now_1 : Int) (a0m_1 : List (T_api_Addr × T_api_Filter)) (a0_one_1 : Int) (a0_two_1 : Int) (vr0_1 : Value), u = .tuple #[vr0_1, .int .i64 r1_1] ∧ Kp F h0 F' h' ∧ St F' (Ow.own 31 26 e_api_Talk vr0_1 r0_1 :: Ow.box bh 97 #[.bool a0_v6_1, .int .i64 a0_now_1, .map (some rh_want), .int .i64 a0_one_1, .int .i64 a0_two_1] :: Ow.map rh_want (fun (x : T_api_Addr) => .agg (e_api_Addr x).toArray) (fun (x : T_api_Filter) => .agg #[.bool x.1, x.2.1]) a0m_1 :: fr) h' ∧ (NfL nf_api_Filter F' h' (h_want.map (·.2))) ∧ (SliceF F' h' 17 e_api_Addr vf_Sources f_Sources) ∧ (NfL nf_api_Talk F' h' r0_1) ∧ (NfL nf_api_Filter F' h' (a0m_1.map (·.2))) ∧ Q r0_1 r1_1 a0_v6_1 a0_now_1 a0m_1 a0_one_1 a0_two_1 := by
 unfold host_Host_Set_W at hM
 have hK := Kp.refl F h0
 refine HC.of_HW (n := 98) Tryz.func17 rfl rfl (Nat.le_of_ble_eq_true rfl) ?_
 refine HW.seq ?_
 refine HW.region ?_
 refine HO.eff (want_none) rfl (st_box (c := (e_api_Addr g).toArray) (k' := 17) hS rfl rfl) ?_
 rintro _ h_1 ⟨b_1, rfl, hS, hk⟩
 replace hK := hK.trans hk
 replace hN_h_want := hN_h_want.kp hk
 replace hL_f_Sources := hL_f_Sources.kp hk
 refine HO.eff (want_none) rfl (st_box (c := #[.bool f_Exclude, vf_Sources]) (k' := 2) hS rfl rfl) ?_
 rintro _ h_2 ⟨b_2, rfl, hS, hk⟩
 replace hK := hK.trans hk
 replace hN_h_want := hN_h_want.kp hk
 replace hL_f_Sources := hL_f_Sources.kp hk
 refine oA (.slice none 0 0) rfl rfl ?_
 refine oA (.int .i64 0) rfl rfl ?_
 refine HO.nil (thenQ_normal (?_))
 refine HW.seq ?_
 refine HW.seq ?_
 refine HW.region ?_
 refine oM (.pointer (some ⟨bh, 0, none⟩)) rfl rfl ?_
 refine oV (.bool false) (q_eqlPnil Tryz.underlying42 rfl rfl rfl) rfl ?_
 refine HO.nil (thenQ_normal (?_))
 refine HW.condF rfl ?_
 refine HW.skip (thenQ_normal (?_))
 refine HW.seq ?_
 refine HW.region ?_
 refine oM (.pointer (some ⟨bh, 0, none⟩)) rfl rfl ?_
 refine oM (.int .i64 now) rfl rfl ?_
 replace hS : St F (Ow.box bh 97 #[.bool h_v6, .int .i64 h_now, .map (some rh_want), .int .i64 h_one, .int .i64 h_two] :: Ow.map rh_want (fun (x : T_api_Addr) => .agg (e_api_Addr x).toArray) (fun (x : T_api_Filter) => .agg #[.bool x.1, x.2.1]) h_want :: Ow.box b_2 50 #[.bool f_Exclude, vf_Sources] :: Ow.box b_1 28 (e_api_Addr g).toArray :: fr) h_2 := hS.perm2 [2, 3, 0, 1] 4 rfl rfl
 refine HO.call (want_none) rfl (ec en_47 rfl rfl) (host_Host_settle_walk (fr := (Ow.box b_2 50 #[.bool f_Exclude, vf_Sources] :: Ow.box b_1 28 (e_api_Addr g).toArray :: fr)) h_v6 h_now h_want h_one h_two now bh rh_want hS hN_h_want hM) ?_
 rintro _ h_3 ⟨F_1, r_1, a0_v6_2, a0_now_2, a0m_2, a0_one_2, a0_two_2, rfl, hk, hS, _, hL_1, hM⟩
 replace hK := hK.trans hk
 replace hN_h_want := hN_h_want.kp hk
 replace hL_f_Sources := hL_f_Sources.kp hk
 refine HO.nil (thenQ_normal (?_))
 refine HW.seq ?_
 refine HW.seq_mid (fun f h => ∃ (F' : Fz) (b_3 : Bool), f 0 = .pointer (some ⟨bh, 0, none⟩) ∧ f 6 = .pointer (some ⟨b_1, 0, none⟩) ∧ f 7 = .pointer (some ⟨b_2, 0, none⟩) ∧ f 8 = .slice none 0 0 ∧ f 9 = .int .i64 0 ∧ f 54 = .bool b_3 ∧ Kp F h0 F' h ∧ St F' (Ow.box bh 97 #[.bool a0_v6_2, .int .i64 a0_now_2, .map (some rh_want), .int .i64 a0_one_2, .int .i64 a0_two_2] :: Ow.map rh_want (fun (x : T_api_Addr) => .agg (e_api_Addr x).toArray) (fun (x : T_api_Filter) => .agg #[.bool x.1, x.2.1]) a0m_2 :: Ow.box b_1 28 (e_api_Addr g).toArray :: Ow.box b_2 50 #[.bool f_Exclude, vf_Sources] :: fr) h ∧ (NfL nf_api_Filter F' h (h_want.map (·.2))) ∧ (SliceF F' h 17 e_api_Addr vf_Sources f_Sources) ∧ (NfL nf_api_Filter F' h (a0m_2.map (·.2))) ∧ host_Host_Set_j1 g f_Exclude f_Sources Q a0_v6_2 a0_now_2 a0m_2 a0_one_2 a0_two_2 b_3) ?_ ?_
 ·
  refine HW.region ?_
  refine oV (.agg (e_api_Addr g).toArray) (q_loadAgg (cs := (e_api_Addr g)) ta_28 rfl rfl (Blk.cells (k := 17) (hS.box 3 rfl) rfl)) rfl ?_
  refine HO.call (want_none) rfl (ec en_48 rfl rfl) (addr_Good_walk (fr := (Ow.box bh 97 #[.bool a0_v6_2, .int .i64 a0_now_2, .map (some rh_want), .int .i64 a0_one_2, .int .i64 a0_two_2] :: Ow.map rh_want (fun (x : T_api_Addr) => .agg (e_api_Addr x).toArray) (fun (x : T_api_Filter) => .agg #[.bool x.1, x.2.1]) a0m_2 :: Ow.box b_2 50 #[.bool f_Exclude, vf_Sources] :: Ow.box b_1 28 (e_api_Addr g).toArray :: fr)) g hS hM) ?_
  rintro _ h_4 ⟨F_2, r_2, rfl, hk, hS, hM⟩
  replace hK := hK.trans hk
  replace hN_h_want := hN_h_want.kp hk
  replace hL_f_Sources := hL_f_Sources.kp hk
  replace hL_1 := hL_1.kp hk
  refine oV (.bool (!r_2)) (q_not rfl) rfl ?_
  refine oM (.bool (!r_2)) rfl rfl ?_
  rcases Bool.eq_false_or_eq_true (!r_2) with c_1 | c_1
  ·
   replace hM := hM.1 c_1
   refine HO.past (past_by rfl rfl c_1) rfl ?_
   refine HO.past (past_by rfl rfl c_1) rfl ?_
   refine HO.past (past_by rfl rfl c_1) rfl ?_
   refine oV (.bool true) (q_pickK true rfl c_1 rfl) rfl ?_
   refine oM (.bool true) rfl rfl ?_
   refine HO.past (past_some rfl rfl) rfl ?_
   refine HO.past (past_some rfl rfl) rfl ?_
   refine oV (.bool true) (q_pick rfl rfl) rfl ?_
   refine oM (.bool true) rfl rfl ?_
   refine HO.past (past_some rfl rfl) rfl ?_
   refine HO.past (past_some rfl rfl) rfl ?_
   refine HO.past (past_some rfl rfl) rfl ?_
   refine HO.past (past_some rfl rfl) rfl ?_
   refine HO.past (past_some rfl rfl) rfl ?_
   refine oV (.bool true) (q_pick rfl rfl) rfl ?_
   refine oM (.bool true) rfl rfl ?_
   refine HO.past (past_some rfl rfl) rfl ?_
   refine HO.past (past_some rfl rfl) rfl ?_
   refine HO.past (past_some rfl rfl) rfl ?_
   refine HO.past (past_some rfl rfl) rfl ?_
   refine HO.past (past_some rfl rfl) rfl ?_
   refine oV (.bool true) (q_pick rfl rfl) rfl ?_
   refine oM (.bool true) rfl rfl ?_
   refine HO.past (past_some rfl rfl) rfl ?_
   refine HO.past (past_some rfl rfl) rfl ?_
   refine HO.past (past_some rfl rfl) rfl ?_
   refine HO.past (past_some rfl rfl) rfl ?_
   refine oV (.bool true) (q_pick rfl rfl) rfl ?_
   refine oM (.bool true) rfl rfl ?_
   refine HO.past (past_some rfl rfl) rfl ?_
   refine HO.past (past_some rfl rfl) rfl ?_
   refine HO.past (past_some rfl rfl) rfl ?_
   refine HO.past (past_some rfl rfl) rfl ?_
   refine oV (.bool true) (q_pick rfl rfl) rfl ?_
   refine HO.nil (thenQ_normal (?_))
   replace hS : St F_2 (Ow.box bh 97 #[.bool a0_v6_2, .int .i64 a0_now_2, .map (some rh_want), .int .i64 a0_one_2, .int .i64 a0_two_2] :: Ow.map rh_want (fun (x : T_api_Addr) => .agg (e_api_Addr x).toArray) (fun (x : T_api_Filter) => .agg #[.bool x.1, x.2.1]) a0m_2 :: Ow.box b_1 28 (e_api_Addr g).toArray :: Ow.box b_2 50 #[.bool f_Exclude, vf_Sources] :: fr) h_4 := hS.perm2 [0, 1, 3, 2] 4 rfl rfl
   exact ⟨F_2, true, rfl, rfl, rfl, rfl, rfl, rfl, hK, hS, hN_h_want, hL_f_Sources, hL_1, hM⟩
  ·
   replace hM := hM.2 c_1
   refine HO.val (v := .agg (e_api_Addr g).toArray) (want_by rfl rfl c_1) rfl (q_loadAgg (cs := (e_api_Addr g)) ta_28 rfl rfl (Blk.cells (k := 17) (hS.box 3 rfl) rfl)) ?_
   refine HO.call (want_by rfl rfl c_1) rfl (ec en_49 rfl rfl) (addr_Group_walk (fr := (Ow.box bh 97 #[.bool a0_v6_2, .int .i64 a0_now_2, .map (some rh_want), .int .i64 a0_one_2, .int .i64 a0_two_2] :: Ow.map rh_want (fun (x : T_api_Addr) => .agg (e_api_Addr x).toArray) (fun (x : T_api_Filter) => .agg #[.bool x.1, x.2.1]) a0m_2 :: Ow.box b_2 50 #[.bool f_Exclude, vf_Sources] :: Ow.box b_1 28 (e_api_Addr g).toArray :: fr)) g hS hM) ?_
   rintro _ h_5 ⟨F_3, r_3, rfl, hk, hS, hM⟩
   replace hK := hK.trans hk
   replace hN_h_want := hN_h_want.kp hk
   replace hL_f_Sources := hL_f_Sources.kp hk
   replace hL_1 := hL_1.kp hk
   refine HO.val (v := .bool (!r_3)) (want_by rfl rfl c_1) rfl (q_not rfl) ?_
   refine oV (.bool (!r_3)) (q_pickK false rfl c_1 rfl) rfl ?_
   refine oM (.bool (!r_3)) rfl rfl ?_
   rcases Bool.eq_false_or_eq_true (!r_3) with c_2 | c_2
   ·
    replace hM := hM.1 c_2
    refine HO.past (past_by rfl rfl c_2) rfl ?_
    refine HO.past (past_by rfl rfl c_2) rfl ?_
    refine oV (.bool true) (q_pickK true rfl c_2 rfl) rfl ?_
    refine oM (.bool true) rfl rfl ?_
    refine HO.past (past_some rfl rfl) rfl ?_
    refine HO.past (past_some rfl rfl) rfl ?_
    refine HO.past (past_some rfl rfl) rfl ?_
    refine HO.past (past_some rfl rfl) rfl ?_
    refine HO.past (past_some rfl rfl) rfl ?_
    refine oV (.bool true) (q_pick rfl rfl) rfl ?_
    refine oM (.bool true) rfl rfl ?_
    refine HO.past (past_some rfl rfl) rfl ?_
    refine HO.past (past_some rfl rfl) rfl ?_
    refine HO.past (past_some rfl rfl) rfl ?_
    refine HO.past (past_some rfl rfl) rfl ?_
    refine HO.past (past_some rfl rfl) rfl ?_
    refine oV (.bool true) (q_pick rfl rfl) rfl ?_
    refine oM (.bool true) rfl rfl ?_
    refine HO.past (past_some rfl rfl) rfl ?_
    refine HO.past (past_some rfl rfl) rfl ?_
    refine HO.past (past_some rfl rfl) rfl ?_
    refine HO.past (past_some rfl rfl) rfl ?_
    refine oV (.bool true) (q_pick rfl rfl) rfl ?_
    refine oM (.bool true) rfl rfl ?_
    refine HO.past (past_some rfl rfl) rfl ?_
    refine HO.past (past_some rfl rfl) rfl ?_
    refine HO.past (past_some rfl rfl) rfl ?_
    refine HO.past (past_some rfl rfl) rfl ?_
    refine oV (.bool true) (q_pick rfl rfl) rfl ?_
    refine HO.nil (thenQ_normal (?_))
    replace hS : St F_3 (Ow.box bh 97 #[.bool a0_v6_2, .int .i64 a0_now_2, .map (some rh_want), .int .i64 a0_one_2, .int .i64 a0_two_2] :: Ow.map rh_want (fun (x : T_api_Addr) => .agg (e_api_Addr x).toArray) (fun (x : T_api_Filter) => .agg #[.bool x.1, x.2.1]) a0m_2 :: Ow.box b_1 28 (e_api_Addr g).toArray :: Ow.box b_2 50 #[.bool f_Exclude, vf_Sources] :: fr) h_5 := hS.perm2 [0, 1, 3, 2] 4 rfl rfl
    exact ⟨F_3, true, rfl, rfl, rfl, rfl, rfl, rfl, hK, hS, hN_h_want, hL_f_Sources, hL_1, hM⟩
   ·
    replace hM := hM.2 c_2
    refine HO.val (v := .agg (e_api_Addr g).toArray) (want_by rfl rfl c_2) rfl (q_loadAgg (cs := (e_api_Addr g)) ta_28 rfl rfl (Blk.cells (k := 17) (hS.box 3 rfl) rfl)) ?_
    refine HO.call (want_by rfl rfl c_2) rfl (ec en_50 rfl rfl) (addr_Local_walk (fr := (Ow.box bh 97 #[.bool a0_v6_2, .int .i64 a0_now_2, .map (some rh_want), .int .i64 a0_one_2, .int .i64 a0_two_2] :: Ow.map rh_want (fun (x : T_api_Addr) => .agg (e_api_Addr x).toArray) (fun (x : T_api_Filter) => .agg #[.bool x.1, x.2.1]) a0m_2 :: Ow.box b_2 50 #[.bool f_Exclude, vf_Sources] :: Ow.box b_1 28 (e_api_Addr g).toArray :: fr)) g hS hM) ?_
    rintro _ h_6 ⟨F_4, r_4, rfl, hk, hS, hM⟩
    replace hK := hK.trans hk
    replace hN_h_want := hN_h_want.kp hk
    replace hL_f_Sources := hL_f_Sources.kp hk
    replace hL_1 := hL_1.kp hk
    refine oV (.bool r_4) (q_pickK false rfl c_2 rfl) rfl ?_
    refine oM (.bool r_4) rfl rfl ?_
    rcases Bool.eq_false_or_eq_true r_4 with c_3 | c_3
    ·
     replace hM := hM.1 c_3
     refine HO.past (past_by rfl rfl c_3) rfl ?_
     refine HO.past (past_by rfl rfl c_3) rfl ?_
     refine HO.past (past_by rfl rfl c_3) rfl ?_
     refine HO.past (past_by rfl rfl c_3) rfl ?_
     refine HO.past (past_by rfl rfl c_3) rfl ?_
     refine oV (.bool true) (q_pickK true rfl c_3 rfl) rfl ?_
     refine oM (.bool true) rfl rfl ?_
     refine HO.past (past_some rfl rfl) rfl ?_
     refine HO.past (past_some rfl rfl) rfl ?_
     refine HO.past (past_some rfl rfl) rfl ?_
     refine HO.past (past_some rfl rfl) rfl ?_
     refine HO.past (past_some rfl rfl) rfl ?_
     refine oV (.bool true) (q_pick rfl rfl) rfl ?_
     refine oM (.bool true) rfl rfl ?_
     refine HO.past (past_some rfl rfl) rfl ?_
     refine HO.past (past_some rfl rfl) rfl ?_
     refine HO.past (past_some rfl rfl) rfl ?_
     refine HO.past (past_some rfl rfl) rfl ?_
     refine oV (.bool true) (q_pick rfl rfl) rfl ?_
     refine oM (.bool true) rfl rfl ?_
     refine HO.past (past_some rfl rfl) rfl ?_
     refine HO.past (past_some rfl rfl) rfl ?_
     refine HO.past (past_some rfl rfl) rfl ?_
     refine HO.past (past_some rfl rfl) rfl ?_
     refine oV (.bool true) (q_pick rfl rfl) rfl ?_
     refine HO.nil (thenQ_normal (?_))
     replace hS : St F_4 (Ow.box bh 97 #[.bool a0_v6_2, .int .i64 a0_now_2, .map (some rh_want), .int .i64 a0_one_2, .int .i64 a0_two_2] :: Ow.map rh_want (fun (x : T_api_Addr) => .agg (e_api_Addr x).toArray) (fun (x : T_api_Filter) => .agg #[.bool x.1, x.2.1]) a0m_2 :: Ow.box b_1 28 (e_api_Addr g).toArray :: Ow.box b_2 50 #[.bool f_Exclude, vf_Sources] :: fr) h_6 := hS.perm2 [0, 1, 3, 2] 4 rfl rfl
     exact ⟨F_4, true, rfl, rfl, rfl, rfl, rfl, rfl, hK, hS, hN_h_want, hL_f_Sources, hL_1, hM⟩
    ·
     replace hM := hM.2 c_3
     refine HO.val (v := .pointer (some ⟨bh, 0, none⟩)) (want_by rfl rfl c_3) rfl (q_move rfl) ?_
     refine HO.val (v := .agg (e_api_Addr g).toArray) (want_by rfl rfl c_3) rfl (q_loadAgg (cs := (e_api_Addr g)) ta_28 rfl rfl (Blk.cells (k := 17) (hS.box 3 rfl) rfl)) ?_
     refine HO.eff (want_by rfl rfl c_3) rfl (st_lit (enc := e_api_Addr) (cells := #[.bool g.1, .int .u8 (b8 g.2 0), .int .u8 (b8 g.2 1), .int .u8 (b8 g.2 2), .int .u8 (b8 g.2 3), .int .u8 (b8 g.2 4), .int .u8 (b8 g.2 5), .int .u8 (b8 g.2 6), .int .u8 (b8 g.2 7), .int .u8 (b8 g.2 8), .int .u8 (b8 g.2 9), .int .u8 (b8 g.2 10), .int .u8 (b8 g.2 11), .int .u8 (b8 g.2 12), .int .u8 (b8 g.2 13), .int .u8 (b8 g.2 14), .int .u8 (b8 g.2 15)]) #[.bool false, .int .u8 0, .int .u8 0, .int .u8 0, .int .u8 0, .int .u8 0, .int .u8 0, .int .u8 0, .int .u8 0, .int .u8 0, .int .u8 0, .int .u8 0, .int .u8 0, .int .u8 0, .int .u8 0, .int .u8 0, .int .u8 0] ([g] : List T_api_Addr) hS tl_29 (by decide) (by decide) (by kernel_rfl) (by kernel_rfl) rfl (by intro x hx; rfl) rfl) ?_
     rintro _ h_7 ⟨b_4, rfl, hS, hk⟩
     replace hK := hK.trans hk
     replace hN_h_want := hN_h_want.kp hk
     replace hL_f_Sources := hL_f_Sources.kp hk
     replace hL_1 := hL_1.kp hk
     replace hS : St F_4 (Ow.box bh 97 #[.bool a0_v6_2, .int .i64 a0_now_2, .map (some rh_want), .int .i64 a0_one_2, .int .i64 a0_two_2] :: Ow.own 28 17 e_api_Addr (.slice (some ⟨b_4, 0, none⟩) 1 1) ([g] : List T_api_Addr) :: Ow.map rh_want (fun (x : T_api_Addr) => .agg (e_api_Addr x).toArray) (fun (x : T_api_Filter) => .agg #[.bool x.1, x.2.1]) a0m_2 :: Ow.box b_2 50 #[.bool f_Exclude, vf_Sources] :: Ow.box b_1 28 (e_api_Addr g).toArray :: fr) h_7 := hS.perm2 [1, 0, 2, 3, 4] 5 rfl rfl
     have hZ_1 := hS
     have hkz_1 := (hS.freeze).2
     replace hS := hS.freeze.1
     have hL_2 := hZ_1.lent
     replace hS : St (fun bz_ => F_4 bz_ ∨ (Ow.box bh 97 #[.bool a0_v6_2, .int .i64 a0_now_2, .map (some rh_want), .int .i64 a0_one_2, .int .i64 a0_two_2]).foot bz_) (Ow.map rh_want (fun (x : T_api_Addr) => .agg (e_api_Addr x).toArray) (fun (x : T_api_Filter) => .agg #[.bool x.1, x.2.1]) a0m_2 :: Ow.own 28 17 e_api_Addr (.slice (some ⟨b_4, 0, none⟩) 1 1) ([g] : List T_api_Addr) :: Ow.box b_2 50 #[.bool f_Exclude, vf_Sources] :: Ow.box b_1 28 (e_api_Addr g).toArray :: fr) h_7 := hS.perm2 [1, 0, 2, 3] 4 rfl rfl
     have hZ_2 := hS
     have hkz_2 := (hS.freeze).2
     replace hS := hS.freeze.1
     have hL_3 := hZ_2.lent
     replace hS : St (fun bz_ => (fun bz_ => F_4 bz_ ∨ (Ow.box bh 97 #[.bool a0_v6_2, .int .i64 a0_now_2, .map (some rh_want), .int .i64 a0_one_2, .int .i64 a0_two_2]).foot bz_) bz_ ∨ (Ow.map rh_want (fun (x : T_api_Addr) => .agg (e_api_Addr x).toArray) (fun (x : T_api_Filter) => .agg #[.bool x.1, x.2.1]) a0m_2).foot bz_) (Ow.own 28 17 e_api_Addr (.slice (some ⟨b_4, 0, none⟩) 1 1) ([g] : List T_api_Addr) :: Ow.box b_2 50 #[.bool f_Exclude, vf_Sources] :: Ow.box b_1 28 (e_api_Addr g).toArray :: fr) h_7 := hS
     have hZ_3 := hS
     have hkz_3 := (hS.freeze).2
     replace hS := hS.freeze.1
     have hL_4 : SliceF (fun bz_ => (fun bz_ => (fun bz_ => F_4 bz_ ∨ (Ow.box bh 97 #[.bool a0_v6_2, .int .i64 a0_now_2, .map (some rh_want), .int .i64 a0_one_2, .int .i64 a0_two_2]).foot bz_) bz_ ∨ (Ow.map rh_want (fun (x : T_api_Addr) => .agg (e_api_Addr x).toArray) (fun (x : T_api_Filter) => .agg #[.bool x.1, x.2.1]) a0m_2).foot bz_) bz_ ∨ (Ow.own 28 17 e_api_Addr (.slice (some ⟨b_4, 0, none⟩) 1 1) ([g] : List T_api_Addr)).foot bz_) h_7 17 e_api_Addr (.slice (some ⟨b_4, 0, none⟩) 1 1) ([g] : List T_api_Addr) := ⟨(hZ_3.own 0 rfl).slice, fun _ b hb => .inr hb⟩
     refine HO.call (want_by rfl rfl c_3) rfl (ec en_51 rfl rfl) (host_Host_kind_walk (fr := (Ow.box b_2 50 #[.bool f_Exclude, vf_Sources] :: Ow.box b_1 28 (e_api_Addr g).toArray :: fr)) a0_v6_2 a0_now_2 a0m_2 a0_one_2 a0_two_2 ([g] : List T_api_Addr) bh rh_want (.slice (some ⟨b_4, 0, none⟩) 1 1) hS (NfL.kp (NfL.kp (NfL.kp hL_1 hkz_1) hkz_2) hkz_3) (hL_3.kp hkz_3) ((hL_2.kp hkz_2).kp hkz_3) hL_4 hM) ?_
     rintro _ h_8 ⟨F_5, r_5, rfl, hk, hS, _, _, _, _, hM⟩
     obtain ⟨hS, hk⟩ := hZ_3.back hk hS
     obtain ⟨hS, hk⟩ := hZ_2.back hk hS
     obtain ⟨hS, hk⟩ := hZ_1.back hk hS
     generalize (fun bz_ => (fun bz_ => (fun bz_ => F_5 bz_ ∧ ¬ (Ow.own 28 17 e_api_Addr (.slice (some ⟨b_4, 0, none⟩) 1 1) ([g] : List T_api_Addr)).foot bz_) bz_ ∧ ¬ (Ow.map rh_want (fun (x : T_api_Addr) => .agg (e_api_Addr x).toArray) (fun (x : T_api_Filter) => .agg #[.bool x.1, x.2.1]) a0m_2).foot bz_) bz_ ∧ ¬ (Ow.box bh 97 #[.bool a0_v6_2, .int .i64 a0_now_2, .map (some rh_want), .int .i64 a0_one_2, .int .i64 a0_two_2]).foot bz_) = F_6 at hS hk
     replace hK := hK.trans hk
     replace hN_h_want := hN_h_want.kp hk
     replace hL_f_Sources := hL_f_Sources.kp hk
     replace hL_1 := hL_1.kp hk
     refine HO.val (v := .bool (!r_5)) (want_by rfl rfl c_3) rfl (q_not rfl) ?_
     refine oV (.bool (!r_5)) (q_pickK false rfl c_3 rfl) rfl ?_
     refine oM (.bool (!r_5)) rfl rfl ?_
     rcases Bool.eq_false_or_eq_true (!r_5) with c_4 | c_4
     ·
      replace hM := hM.1 c_4
      refine HO.past (past_by rfl rfl c_4) rfl ?_
      refine HO.past (past_by rfl rfl c_4) rfl ?_
      refine HO.past (past_by rfl rfl c_4) rfl ?_
      refine HO.past (past_by rfl rfl c_4) rfl ?_
      refine HO.past (past_by rfl rfl c_4) rfl ?_
      refine oV (.bool true) (q_pickK true rfl c_4 rfl) rfl ?_
      refine oM (.bool true) rfl rfl ?_
      refine HO.past (past_some rfl rfl) rfl ?_
      refine HO.past (past_some rfl rfl) rfl ?_
      refine HO.past (past_some rfl rfl) rfl ?_
      refine HO.past (past_some rfl rfl) rfl ?_
      refine oV (.bool true) (q_pick rfl rfl) rfl ?_
      refine oM (.bool true) rfl rfl ?_
      refine HO.past (past_some rfl rfl) rfl ?_
      refine HO.past (past_some rfl rfl) rfl ?_
      refine HO.past (past_some rfl rfl) rfl ?_
      refine HO.past (past_some rfl rfl) rfl ?_
      refine oV (.bool true) (q_pick rfl rfl) rfl ?_
      refine HO.nil (thenQ_normal (?_))
      replace hS : St F_6 (Ow.box bh 97 #[.bool a0_v6_2, .int .i64 a0_now_2, .map (some rh_want), .int .i64 a0_one_2, .int .i64 a0_two_2] :: Ow.map rh_want (fun (x : T_api_Addr) => .agg (e_api_Addr x).toArray) (fun (x : T_api_Filter) => .agg #[.bool x.1, x.2.1]) a0m_2 :: Ow.box b_1 28 (e_api_Addr g).toArray :: Ow.box b_2 50 #[.bool f_Exclude, vf_Sources] :: fr) h_8 := hS.perm2 [0, 1, 4, 3] 5 rfl rfl
      exact ⟨F_6, true, rfl, rfl, rfl, rfl, rfl, rfl, hK, hS, hN_h_want, hL_f_Sources, hL_1, hM⟩
     ·
      replace hM := hM.2 c_4
      refine HO.val (v := .pointer (some ⟨bh, 0, none⟩)) (want_by rfl rfl c_4) rfl (q_move rfl) ?_
      refine HO.val (v := .pointer (some ⟨b_2, 1, none⟩)) (want_by rfl rfl c_4) rfl (q_fieldAddr fa_50_1 rfl rfl) ?_
      refine HO.val (v := vf_Sources) (want_by rfl rfl c_4) rfl (q_load to_29 rfl (Blk.cell (hS.box 3 rfl) rfl)) ?_
      replace hS : St F_6 (Ow.box bh 97 #[.bool a0_v6_2, .int .i64 a0_now_2, .map (some rh_want), .int .i64 a0_one_2, .int .i64 a0_two_2] :: Ow.map rh_want (fun (x : T_api_Addr) => .agg (e_api_Addr x).toArray) (fun (x : T_api_Filter) => .agg #[.bool x.1, x.2.1]) a0m_2 :: Ow.own 28 17 e_api_Addr (.slice (some ⟨b_4, 0, none⟩) 1 1) ([g] : List T_api_Addr) :: Ow.box b_2 50 #[.bool f_Exclude, vf_Sources] :: Ow.box b_1 28 (e_api_Addr g).toArray :: fr) h_8 := hS
      have hZ_4 := hS
      have hkz_4 := (hS.freeze).2
      replace hS := hS.freeze.1
      have hL_5 := hZ_4.lent
      replace hS : St (fun bz_ => F_6 bz_ ∨ (Ow.box bh 97 #[.bool a0_v6_2, .int .i64 a0_now_2, .map (some rh_want), .int .i64 a0_one_2, .int .i64 a0_two_2]).foot bz_) (Ow.map rh_want (fun (x : T_api_Addr) => .agg (e_api_Addr x).toArray) (fun (x : T_api_Filter) => .agg #[.bool x.1, x.2.1]) a0m_2 :: Ow.own 28 17 e_api_Addr (.slice (some ⟨b_4, 0, none⟩) 1 1) ([g] : List T_api_Addr) :: Ow.box b_2 50 #[.bool f_Exclude, vf_Sources] :: Ow.box b_1 28 (e_api_Addr g).toArray :: fr) h_8 := hS
      have hZ_5 := hS
      have hkz_5 := (hS.freeze).2
      replace hS := hS.freeze.1
      have hL_6 := hZ_5.lent
      refine HO.call (want_by rfl rfl c_4) rfl (ec en_51 rfl rfl) (host_Host_kind_walk (fr := (Ow.own 28 17 e_api_Addr (.slice (some ⟨b_4, 0, none⟩) 1 1) ([g] : List T_api_Addr) :: Ow.box b_2 50 #[.bool f_Exclude, vf_Sources] :: Ow.box b_1 28 (e_api_Addr g).toArray :: fr)) a0_v6_2 a0_now_2 a0m_2 a0_one_2 a0_two_2 f_Sources bh rh_want vf_Sources hS (NfL.kp (NfL.kp hL_1 hkz_4) hkz_5) hL_6 (hL_5.kp hkz_5) ((hL_f_Sources.kp hkz_4).kp hkz_5) hM) ?_
      rintro _ h_9 ⟨F_7, r_6, rfl, hk, hS, _, _, _, _, hM⟩
      obtain ⟨hS, hk⟩ := hZ_5.back hk hS
      obtain ⟨hS, hk⟩ := hZ_4.back hk hS
      generalize (fun bz_ => (fun bz_ => F_7 bz_ ∧ ¬ (Ow.map rh_want (fun (x : T_api_Addr) => .agg (e_api_Addr x).toArray) (fun (x : T_api_Filter) => .agg #[.bool x.1, x.2.1]) a0m_2).foot bz_) bz_ ∧ ¬ (Ow.box bh 97 #[.bool a0_v6_2, .int .i64 a0_now_2, .map (some rh_want), .int .i64 a0_one_2, .int .i64 a0_two_2]).foot bz_) = F_8 at hS hk
      replace hK := hK.trans hk
      replace hN_h_want := hN_h_want.kp hk
      replace hL_f_Sources := hL_f_Sources.kp hk
      replace hL_1 := hL_1.kp hk
      refine HO.val (v := .bool (!r_6)) (want_by rfl rfl c_4) rfl (q_not rfl) ?_
      refine oV (.bool (!r_6)) (q_pickK false rfl c_4 rfl) rfl ?_
      refine oM (.bool (!r_6)) rfl rfl ?_
      rcases Bool.eq_false_or_eq_true (!r_6) with c_5 | c_5
      ·
       replace hM := hM.1 c_5
       refine HO.past (past_by rfl rfl c_5) rfl ?_
       refine HO.past (past_by rfl rfl c_5) rfl ?_
       refine HO.past (past_by rfl rfl c_5) rfl ?_
       refine HO.past (past_by rfl rfl c_5) rfl ?_
       refine oV (.bool true) (q_pickK true rfl c_5 rfl) rfl ?_
       refine oM (.bool true) rfl rfl ?_
       refine HO.past (past_some rfl rfl) rfl ?_
       refine HO.past (past_some rfl rfl) rfl ?_
       refine HO.past (past_some rfl rfl) rfl ?_
       refine HO.past (past_some rfl rfl) rfl ?_
       refine oV (.bool true) (q_pick rfl rfl) rfl ?_
       refine HO.nil (thenQ_normal (?_))
       replace hS : St F_8 (Ow.box bh 97 #[.bool a0_v6_2, .int .i64 a0_now_2, .map (some rh_want), .int .i64 a0_one_2, .int .i64 a0_two_2] :: Ow.map rh_want (fun (x : T_api_Addr) => .agg (e_api_Addr x).toArray) (fun (x : T_api_Filter) => .agg #[.bool x.1, x.2.1]) a0m_2 :: Ow.box b_1 28 (e_api_Addr g).toArray :: Ow.box b_2 50 #[.bool f_Exclude, vf_Sources] :: fr) h_9 := hS.perm2 [0, 1, 4, 3] 5 rfl rfl
       exact ⟨F_8, true, rfl, rfl, rfl, rfl, rfl, rfl, hK, hS, hN_h_want, hL_f_Sources, hL_1, hM⟩
      ·
       replace hM := hM.2 c_5
       refine HO.val (v := .pointer (some ⟨b_2, 1, none⟩)) (want_by rfl rfl c_5) rfl (q_fieldAddr fa_50_1 rfl rfl) ?_
       refine HO.val (v := vf_Sources) (want_by rfl rfl c_5) rfl (q_load to_29 rfl (Blk.cell (hS.box 3 rfl) rfl)) ?_
       refine HO.val (v := .int .i64 (f_Sources.length : Int)) (want_by rfl rfl c_5) rfl (q_len ts_29 (shp hL_f_Sources.is) rfl rfl) ?_
       refine HO.val (v := .bool (decide (64 < (f_Sources.length : Int)))) (want_by rfl rfl c_5) rfl (q_gtr rfl rfl) ?_
       refine oV (.bool (decide (64 < (f_Sources.length : Int)))) (q_pickK false rfl c_5 rfl) rfl ?_
       refine oM (.bool (decide (64 < (f_Sources.length : Int)))) rfl rfl ?_
       rcases Bool.eq_false_or_eq_true (decide (64 < (f_Sources.length : Int))) with c_6 | c_6
       ·
        replace hM := hM.1 (of_decide_eq_true c_6)
        refine HO.past (past_by rfl rfl c_6) rfl ?_
        refine HO.past (past_by rfl rfl c_6) rfl ?_
        refine HO.past (past_by rfl rfl c_6) rfl ?_
        refine HO.past (past_by rfl rfl c_6) rfl ?_
        refine oV (.bool true) (q_pickK true rfl c_6 rfl) rfl ?_
        refine HO.nil (thenQ_normal (?_))
        replace hS : St F_8 (Ow.box bh 97 #[.bool a0_v6_2, .int .i64 a0_now_2, .map (some rh_want), .int .i64 a0_one_2, .int .i64 a0_two_2] :: Ow.map rh_want (fun (x : T_api_Addr) => .agg (e_api_Addr x).toArray) (fun (x : T_api_Filter) => .agg #[.bool x.1, x.2.1]) a0m_2 :: Ow.box b_1 28 (e_api_Addr g).toArray :: Ow.box b_2 50 #[.bool f_Exclude, vf_Sources] :: fr) h_9 := hS.perm2 [0, 1, 4, 3] 5 rfl rfl
        exact ⟨F_8, true, rfl, rfl, rfl, rfl, rfl, rfl, hK, hS, hN_h_want, hL_f_Sources, hL_1, hM⟩
       ·
        replace hM := hM.2 (of_decide_eq_false c_6)
        refine HO.val (v := .pointer (some ⟨b_2, 1, none⟩)) (want_by rfl rfl c_6) rfl (q_fieldAddr fa_50_1 rfl rfl) ?_
        refine HO.val (v := vf_Sources) (want_by rfl rfl c_6) rfl (q_load to_29 rfl (Blk.cell (hS.box 3 rfl) rfl)) ?_
        refine HO.call (want_by rfl rfl c_6) rfl (ec en_52 rfl rfl) (srcs_Good_walk (fr := (Ow.box bh 97 #[.bool a0_v6_2, .int .i64 a0_now_2, .map (some rh_want), .int .i64 a0_one_2, .int .i64 a0_two_2] :: Ow.map rh_want (fun (x : T_api_Addr) => .agg (e_api_Addr x).toArray) (fun (x : T_api_Filter) => .agg #[.bool x.1, x.2.1]) a0m_2 :: Ow.own 28 17 e_api_Addr (.slice (some ⟨b_4, 0, none⟩) 1 1) ([g] : List T_api_Addr) :: Ow.box b_2 50 #[.bool f_Exclude, vf_Sources] :: Ow.box b_1 28 (e_api_Addr g).toArray :: fr)) f_Sources vf_Sources hS hL_f_Sources hM) ?_
        rintro _ h_10 ⟨F_9, r_7, rfl, hk, hS, _, hM⟩
        replace hK := hK.trans hk
        replace hN_h_want := hN_h_want.kp hk
        replace hL_f_Sources := hL_f_Sources.kp hk
        replace hL_1 := hL_1.kp hk
        refine HO.val (v := .bool (!r_7)) (want_by rfl rfl c_6) rfl (q_not rfl) ?_
        refine oV (.bool (!r_7)) (q_pickK false rfl c_6 rfl) rfl ?_
        refine HO.nil (thenQ_normal (?_))
        replace hS : St F_9 (Ow.box bh 97 #[.bool a0_v6_2, .int .i64 a0_now_2, .map (some rh_want), .int .i64 a0_one_2, .int .i64 a0_two_2] :: Ow.map rh_want (fun (x : T_api_Addr) => .agg (e_api_Addr x).toArray) (fun (x : T_api_Filter) => .agg #[.bool x.1, x.2.1]) a0m_2 :: Ow.box b_1 28 (e_api_Addr g).toArray :: Ow.box b_2 50 #[.bool f_Exclude, vf_Sources] :: fr) h_10 := hS.perm2 [0, 1, 4, 3] 5 rfl rfl
        exact ⟨F_9, !r_7, rfl, rfl, rfl, rfl, rfl, rfl, hK, hS, hN_h_want, hL_f_Sources, hL_1, hM⟩
 ·
  rintro f_1 h_11 ⟨F_10, b_3, e0, e6, e7, e8, e9, e54, hK, hS, hN_h_want, hL_f_Sources, hL_1, hM⟩
  unfold host_Host_Set_j1 at hM
  refine HW.fr [(0, .pointer (some ⟨bh, 0, none⟩)), (6, .pointer (some ⟨b_1, 0, none⟩)), (7, .pointer (some ⟨b_2, 0, none⟩)), (8, .slice none 0 0), (9, .int .i64 0), (54, .bool b_3)] ⟨e0, e6, e7, e8, e9, e54, trivial⟩ ?_
  refine HW.cond b_3 rfl (fun c_7 => ?_) (fun c_7 => ?_)
  ·
   replace hM := hM.1 c_7
   refine HW.seq ?_
   refine HW.region ?_
   refine oA (.slice none 0 0) rfl rfl ?_
   refine oA (.int .i64 1) rfl rfl ?_
   refine HO.nil (thenQ_normal (?_))
   refine HW.ret (thenQ_ret (?_))
   refine ⟨.inr rfl, .tuple #[.slice none 0 0, .int .i64 1], res2 rfl (rt rfl) (rt rfl), ?_⟩
   replace hS := hS.nilOwn 31 26 e_api_Talk
   have hN_4 : NfL nf_api_Talk F_10 h_11 ([] : List T_api_Talk) := NfL.nil _ _ _
   replace hS : St F_10 (Ow.own 31 26 e_api_Talk (.slice none 0 0) ([] : List T_api_Talk) :: Ow.box bh 97 #[.bool a0_v6_2, .int .i64 a0_now_2, .map (some rh_want), .int .i64 a0_one_2, .int .i64 a0_two_2] :: Ow.map rh_want (fun (x : T_api_Addr) => .agg (e_api_Addr x).toArray) (fun (x : T_api_Filter) => .agg #[.bool x.1, x.2.1]) a0m_2 :: fr) h_11 := hS.perm2 [0, 1, 2] 5 rfl rfl
   exact ⟨F_10, [], 1, a0_v6_2, a0_now_2, a0m_2, a0_one_2, a0_two_2, .slice none 0 0, rfl, hK, hS, hN_h_want, hL_f_Sources, hN_4, hL_1, hM⟩
  ·
   replace hM := hM.2 c_7
   refine HW.skip (thenQ_normal (?_))
   refine HW.seq ?_
   refine HW.regionA 12 mixed (fun h => (Blk h bh (.cells #[.bool a0_v6_2, .int .i64 a0_now_2, .map (some rh_want), .int .i64 a0_one_2, .int .i64 a0_two_2] 97 (0, 0))) ∧ (MapIs h rh_want (fun (x : T_api_Addr) => .agg (e_api_Addr x).toArray) (fun (x : T_api_Filter) => .agg #[.bool x.1, x.2.1]) a0m_2) ∧ (Blk h b_1 (.cells (e_api_Addr g).toArray 28 (0, 0)))) [] (by kernel_rfl) ?_
   refine HA.val (k := 0) (v := .pointer (some ⟨bh, 0, none⟩)) rfl rfl (by kernel_rfl) (by kernel_rfl) (want_none) rfl (fun _ ⟨c210, c211, c212⟩ => q_move rfl) ?_
   refine HA.val (k := 1) (v := .pointer (some ⟨bh, 0, none⟩)) rfl rfl (by kernel_rfl) (by kernel_rfl) (want_none) rfl (fun _ ⟨c210, c211, c212⟩ => q_nilCheck rfl) ?_
   refine HA.val (k := 2) (v := .pointer (some ⟨bh, 2, none⟩)) rfl rfl (by kernel_rfl) (by kernel_rfl) (want_none) rfl (fun _ ⟨c210, c211, c212⟩ => q_fieldAddr fa_97_2 rfl rfl) ?_
   refine HA.val (k := 3) (v := .map (some rh_want)) rfl rfl (by kernel_rfl) (by kernel_rfl) (want_none) rfl (fun _ ⟨c210, c211, c212⟩ => q_load to_95 rfl (Blk.cell c210 rfl)) ?_
   refine HA.val (k := 4) (v := .agg (e_api_Addr g).toArray) rfl rfl (by kernel_rfl) (by kernel_rfl) (want_none) rfl (fun _ ⟨c210, c211, c212⟩ => q_loadAgg (cs := (e_api_Addr g)) ta_28 rfl rfl (Blk.cells (k := 17) c212 rfl)) ?_
   have hL_7 : SliceF F_10 h_11 17 e_api_Addr (((mgetD z_api_Filter a0m_2 g).2).1) (((mgetD z_api_Filter a0m_2 g).2).2) := nff_api_Filter_1 (NfL.mgetD hL_1 g (nfm_api_Filter z_api_Filter (SliceF.nil _ _ _ _)))
   refine HA.val (k := 5) (v := .tuple #[.agg #[.bool ((mgetD z_api_Filter a0m_2 g).1), ((mgetD z_api_Filter a0m_2 g).2).1], .bool ((mget a0m_2 g).isSome)]) rfl rfl (by kernel_rfl) (by kernel_rfl) (want_none) rfl (fun _ ⟨c210, c211, c212⟩ => (q_lookupOk (k := g) ka_28 tmk_95 c211 rfl rfl).of_eq (congrArg (fun v => Value.tuple #[v, _]) (mvalD (z := z_api_Filter) rfl _ _))) ?_
   refine HA.val (k := 6) (v := .tuple #[.agg #[.bool ((mgetD z_api_Filter a0m_2 g).1), ((mgetD z_api_Filter a0m_2 g).2).1], .bool ((mget a0m_2 g).isSome)]) rfl rfl (by kernel_rfl) (by kernel_rfl) (want_none) rfl (fun _ ⟨c210, c211, c212⟩ => q_move rfl) ?_
   refine HA.val (k := 7) (v := .agg #[.bool ((mgetD z_api_Filter a0m_2 g).1), ((mgetD z_api_Filter a0m_2 g).2).1]) rfl rfl (by kernel_rfl) (by kernel_rfl) (want_none) rfl (fun _ ⟨c210, c211, c212⟩ => q_extract rfl rfl) ?_
   refine HA.val (k := 8) (v := .bool ((mget a0m_2 g).isSome)) rfl rfl (by kernel_rfl) (by kernel_rfl) (want_none) rfl (fun _ ⟨c210, c211, c212⟩ => q_extract rfl rfl) ?_
   refine HA.one (k := 9) ⟨⟨(hS.box 0 rfl), (hS.mp 1 rfl), (hS.box 2 rfl)⟩, (Go.Wk.at_nil _ _)⟩ (by kernel_rfl) ?_
   refine HS.eff rfl (want_none) rfl (st_alloc (c := #[.bool false, .slice none 0 0]) hS tz_50 rfl) ?_
   rintro _ h_12 ⟨b_5, rfl, hS, hk⟩
   replace hK := hK.trans hk
   replace hN_h_want := hN_h_want.kp hk
   replace hL_f_Sources := hL_f_Sources.kp hk
   replace hL_1 := hL_1.kp hk
   replace hL_7 := hL_7.kp hk
   refine HA.one (k := 10) ⟨⟨(hS.box 1 rfl), (hS.mp 2 rfl), (hS.box 3 rfl)⟩, (Go.Wk.at_nil _ _)⟩ (by kernel_rfl) ?_
   refine HS.sto rfl (want_none) rfl (st_storeAgg (c' := #[.bool ((mgetD z_api_Filter a0m_2 g).1), ((mgetD z_api_Filter a0m_2 g).2).1]) hS (i := 0) rfl ta_50 rfl rfl rfl (List.forall_mem_cons.2 ⟨rfl, (List.forall_mem_cons.2 ⟨(shp hL_7.is).one, (fun _ h => by cases h)⟩)⟩) (Nat.le_of_ble_eq_true rfl) rfl) ?_
   rintro h_13 ⟨hS, hk⟩
   replace hK := hK.trans hk
   replace hN_h_want := hN_h_want.kp hk
   replace hL_f_Sources := hL_f_Sources.kp hk
   replace hL_1 := hL_1.kp hk
   replace hL_7 := hL_7.kp hk
   refine HA.val (k := 11) (v := .bool ((mget a0m_2 g).isSome)) rfl rfl (by kernel_rfl) (by kernel_rfl) (want_none) rfl (fun _ ⟨c210, c211, c212⟩ => q_assign rfl) ?_
   refine HA.nil ⟨⟨(hS.box 1 rfl), (hS.mp 2 rfl), (hS.box 3 rfl)⟩, (Go.Wk.at_nil _ _)⟩ (by kernel_rfl) (thenQ_normal (?_))
   refine HW.seq_mid (fun f h => ∃ (F' : Fz), f 0 = .pointer (some ⟨bh, 0, none⟩) ∧ f 6 = .pointer (some ⟨b_1, 0, none⟩) ∧ f 7 = .pointer (some ⟨b_2, 0, none⟩) ∧ f 8 = .slice none 0 0 ∧ f 9 = .int .i64 0 ∧ f 10 = .pointer (some ⟨b_5, 0, none⟩) ∧ Kp F h0 F' h ∧ St F' (Ow.box bh 97 #[.bool a0_v6_2, .int .i64 a0_now_2, .map (some rh_want), .int .i64 a0_one_2, .int .i64 a0_two_2] :: Ow.map rh_want (fun (x : T_api_Addr) => .agg (e_api_Addr x).toArray) (fun (x : T_api_Filter) => .agg #[.bool x.1, x.2.1]) a0m_2 :: Ow.box b_1 28 (e_api_Addr g).toArray :: Ow.box b_2 50 #[.bool f_Exclude, vf_Sources] :: Ow.box b_5 50 #[.bool ((mgetD z_api_Filter a0m_2 g).1), ((mgetD z_api_Filter a0m_2 g).2).1] :: fr) h ∧ (NfL nf_api_Filter F' h (h_want.map (·.2))) ∧ (SliceF F' h 17 e_api_Addr vf_Sources f_Sources) ∧ (NfL nf_api_Filter F' h (a0m_2.map (·.2))) ∧ (SliceF F' h 17 e_api_Addr (((mgetD z_api_Filter a0m_2 g).2).1) (((mgetD z_api_Filter a0m_2 g).2).2)) ∧ host_Host_Set_j2 g f_Exclude f_Sources Q a0_v6_2 a0_now_2 a0m_2 a0_one_2 a0_two_2) ?_ ?_
   ·
    refine HW.seq ?_
    refine HW.region ?_
    refine oM (.bool ((mget a0m_2 g).isSome)) rfl rfl ?_
    refine oV (.bool (!((mget a0m_2 g).isSome))) (q_not rfl) rfl ?_
    refine oM (.bool (!((mget a0m_2 g).isSome))) rfl rfl ?_
    rcases Bool.eq_false_or_eq_true (!((mget a0m_2 g).isSome)) with c_8 | c_8
    ·
     replace hM := hM.1 c_8
     refine HO.val (v := .agg #[.bool f_Exclude, vf_Sources]) (want_by rfl rfl c_8) rfl (q_loadAgg (cs := [.bool f_Exclude, vf_Sources]) ta_50 rfl rfl (Blk.cells (k := 2) (hS.box 4 rfl) rfl)) ?_
     refine HO.call (want_by rfl rfl c_8) rfl (ec en_53 rfl rfl) (merge_None_walk (fr := (Ow.box b_5 50 #[.bool ((mgetD z_api_Filter a0m_2 g).1), ((mgetD z_api_Filter a0m_2 g).2).1] :: Ow.box bh 97 #[.bool a0_v6_2, .int .i64 a0_now_2, .map (some rh_want), .int .i64 a0_one_2, .int .i64 a0_two_2] :: Ow.map rh_want (fun (x : T_api_Addr) => .agg (e_api_Addr x).toArray) (fun (x : T_api_Filter) => .agg #[.bool x.1, x.2.1]) a0m_2 :: Ow.box b_1 28 (e_api_Addr g).toArray :: Ow.box b_2 50 #[.bool f_Exclude, vf_Sources] :: fr)) f_Exclude f_Sources vf_Sources hS hL_f_Sources hM) ?_
     rintro _ h_14 ⟨F_11, r_8, rfl, hk, hS, _, hM⟩
     replace hK := hK.trans hk
     replace hN_h_want := hN_h_want.kp hk
     replace hL_f_Sources := hL_f_Sources.kp hk
     replace hL_1 := hL_1.kp hk
     replace hL_7 := hL_7.kp hk
     refine HO.val (v := .bool (!r_8)) (want_by rfl rfl c_8) rfl (q_not rfl) ?_
     refine oV (.bool (!r_8)) (q_pickK true rfl c_8 rfl) rfl ?_
     refine oM (.bool (!r_8)) rfl rfl ?_
     rcases Bool.eq_false_or_eq_true (!r_8) with c_9 | c_9
     ·
      replace hM := hM.1 c_9
      refine HO.val (v := .pointer (some ⟨bh, 0, none⟩)) (want_by rfl rfl c_9) rfl (q_move rfl) ?_
      refine HO.val (v := .pointer (some ⟨bh, 0, none⟩)) (want_by rfl rfl c_9) rfl (q_nilCheck rfl) ?_
      refine HO.val (v := .pointer (some ⟨bh, 2, none⟩)) (want_by rfl rfl c_9) rfl (q_fieldAddr fa_97_2 rfl rfl) ?_
      refine HO.val (v := .map (some rh_want)) (want_by rfl rfl c_9) rfl (q_load to_95 rfl (Blk.cell (hS.box 1 rfl) rfl)) ?_
      refine HO.val (v := .int .i64 (a0m_2.length : Int)) (want_by rfl rfl c_9) rfl (q_lenMap Tryz.underlying95 (hS.mp 2 rfl) rfl rfl) ?_
      refine HO.val (v := .bool (decide (64 ≤ (a0m_2.length : Int)))) (want_by rfl rfl c_9) rfl (q_geq rfl rfl) ?_
      refine oV (.bool (decide (64 ≤ (a0m_2.length : Int)))) (q_pickK true rfl c_9 rfl) rfl ?_
      refine HO.nil (thenQ_normal (?_))
      refine HW.cond (decide (64 ≤ (a0m_2.length : Int))) rfl (fun c_10 => ?_) (fun c_10 => ?_)
      ·
       replace hM := hM.1 (of_decide_eq_true c_10)
       refine HW.seq ?_
       refine HW.region ?_
       refine oA (.slice none 0 0) rfl rfl ?_
       refine oA (.int .i64 7) rfl rfl ?_
       refine HO.nil (thenQ_normal (?_))
       refine HW.ret (thenQ_ret (?_))
       refine ⟨.inr rfl, .tuple #[.slice none 0 0, .int .i64 7], res2 rfl (rt rfl) (rt rfl), ?_⟩
       replace hS := hS.nilOwn 31 26 e_api_Talk
       have hN_5 : NfL nf_api_Talk F_11 h_14 ([] : List T_api_Talk) := NfL.nil _ _ _
       replace hS : St F_11 (Ow.own 31 26 e_api_Talk (.slice none 0 0) ([] : List T_api_Talk) :: Ow.box bh 97 #[.bool a0_v6_2, .int .i64 a0_now_2, .map (some rh_want), .int .i64 a0_one_2, .int .i64 a0_two_2] :: Ow.map rh_want (fun (x : T_api_Addr) => .agg (e_api_Addr x).toArray) (fun (x : T_api_Filter) => .agg #[.bool x.1, x.2.1]) a0m_2 :: fr) h_14 := hS.perm2 [0, 2, 3] 6 rfl rfl
       exact ⟨F_11, [], 7, a0_v6_2, a0_now_2, a0m_2, a0_one_2, a0_two_2, .slice none 0 0, rfl, hK, hS, hN_h_want, hL_f_Sources, hN_5, hL_1, hM⟩
      ·
       replace hM := hM.2 (of_decide_eq_false c_10)
       refine HW.skip (thenQ_normal (?_))
       replace hS : St F_11 (Ow.box bh 97 #[.bool a0_v6_2, .int .i64 a0_now_2, .map (some rh_want), .int .i64 a0_one_2, .int .i64 a0_two_2] :: Ow.map rh_want (fun (x : T_api_Addr) => .agg (e_api_Addr x).toArray) (fun (x : T_api_Filter) => .agg #[.bool x.1, x.2.1]) a0m_2 :: Ow.box b_1 28 (e_api_Addr g).toArray :: Ow.box b_2 50 #[.bool f_Exclude, vf_Sources] :: Ow.box b_5 50 #[.bool ((mgetD z_api_Filter a0m_2 g).1), ((mgetD z_api_Filter a0m_2 g).2).1] :: fr) h_14 := hS.perm2 [1, 2, 3, 4, 0] 5 rfl rfl
       exact ⟨F_11, rfl, rfl, rfl, rfl, rfl, rfl, hK, hS, hN_h_want, hL_f_Sources, hL_1, hL_7, hM⟩
     ·
      replace hM := hM.2 c_9
      refine HO.past (past_by rfl rfl c_9) rfl ?_
      refine HO.past (past_by rfl rfl c_9) rfl ?_
      refine HO.past (past_by rfl rfl c_9) rfl ?_
      refine HO.past (past_by rfl rfl c_9) rfl ?_
      refine HO.past (past_by rfl rfl c_9) rfl ?_
      refine HO.past (past_by rfl rfl c_9) rfl ?_
      refine oV (.bool false) (q_pickK false rfl c_9 rfl) rfl ?_
      refine HO.nil (thenQ_normal (?_))
      refine HW.condF rfl ?_
      refine HW.skip (thenQ_normal (?_))
      replace hS : St F_11 (Ow.box bh 97 #[.bool a0_v6_2, .int .i64 a0_now_2, .map (some rh_want), .int .i64 a0_one_2, .int .i64 a0_two_2] :: Ow.map rh_want (fun (x : T_api_Addr) => .agg (e_api_Addr x).toArray) (fun (x : T_api_Filter) => .agg #[.bool x.1, x.2.1]) a0m_2 :: Ow.box b_1 28 (e_api_Addr g).toArray :: Ow.box b_2 50 #[.bool f_Exclude, vf_Sources] :: Ow.box b_5 50 #[.bool ((mgetD z_api_Filter a0m_2 g).1), ((mgetD z_api_Filter a0m_2 g).2).1] :: fr) h_14 := hS.perm2 [1, 2, 3, 4, 0] 5 rfl rfl
      exact ⟨F_11, rfl, rfl, rfl, rfl, rfl, rfl, hK, hS, hN_h_want, hL_f_Sources, hL_1, hL_7, hM⟩
    ·
     replace hM := hM.2 c_8
     refine HO.past (past_by rfl rfl c_8) rfl ?_
     refine HO.past (past_by rfl rfl c_8) rfl ?_
     refine HO.past (past_by rfl rfl c_8) rfl ?_
     refine oV (.bool false) (q_pickK false rfl c_8 rfl) rfl ?_
     refine oM (.bool false) rfl rfl ?_
     refine HO.past (past_some rfl rfl) rfl ?_
     refine HO.past (past_some rfl rfl) rfl ?_
     refine HO.past (past_some rfl rfl) rfl ?_
     refine HO.past (past_some rfl rfl) rfl ?_
     refine HO.past (past_some rfl rfl) rfl ?_
     refine HO.past (past_some rfl rfl) rfl ?_
     refine oV (.bool false) (q_pick rfl rfl) rfl ?_
     refine HO.nil (thenQ_normal (?_))
     refine HW.condF rfl ?_
     refine HW.skip (thenQ_normal (?_))
     replace hS : St F_10 (Ow.box bh 97 #[.bool a0_v6_2, .int .i64 a0_now_2, .map (some rh_want), .int .i64 a0_one_2, .int .i64 a0_two_2] :: Ow.map rh_want (fun (x : T_api_Addr) => .agg (e_api_Addr x).toArray) (fun (x : T_api_Filter) => .agg #[.bool x.1, x.2.1]) a0m_2 :: Ow.box b_1 28 (e_api_Addr g).toArray :: Ow.box b_2 50 #[.bool f_Exclude, vf_Sources] :: Ow.box b_5 50 #[.bool ((mgetD z_api_Filter a0m_2 g).1), ((mgetD z_api_Filter a0m_2 g).2).1] :: fr) h_13 := hS.perm2 [1, 2, 3, 4, 0] 5 rfl rfl
     exact ⟨F_10, rfl, rfl, rfl, rfl, rfl, rfl, hK, hS, hN_h_want, hL_f_Sources, hL_1, hL_7, hM⟩
   ·
    rintro f_2 h_15 ⟨F_12, e0, e6, e7, e8, e9, e10, hK, hS, hN_h_want, hL_f_Sources, hL_1, hL_7, hM⟩
    unfold host_Host_Set_j2 at hM
    refine HW.fr [(0, .pointer (some ⟨bh, 0, none⟩)), (6, .pointer (some ⟨b_1, 0, none⟩)), (7, .pointer (some ⟨b_2, 0, none⟩)), (8, .slice none 0 0), (9, .int .i64 0), (10, .pointer (some ⟨b_5, 0, none⟩))] ⟨e0, e6, e7, e8, e9, e10, trivial⟩ ?_
    refine HW.seq_mid (fun f h => ∃ (F' : Fz) (a0_2_2 : List (T_api_Addr × T_api_Filter)), f 0 = .pointer (some ⟨bh, 0, none⟩) ∧ f 6 = .pointer (some ⟨b_1, 0, none⟩) ∧ f 7 = .pointer (some ⟨b_2, 0, none⟩) ∧ f 8 = .slice none 0 0 ∧ f 9 = .int .i64 0 ∧ f 10 = .pointer (some ⟨b_5, 0, none⟩) ∧ Kp F h0 F' h ∧ St F' (Ow.box bh 97 #[.bool a0_v6_2, .int .i64 a0_now_2, .map (some rh_want), .int .i64 a0_one_2, .int .i64 a0_two_2] :: Ow.map rh_want (fun (x : T_api_Addr) => .agg (e_api_Addr x).toArray) (fun (x : T_api_Filter) => .agg #[.bool x.1, x.2.1]) a0_2_2 :: Ow.box b_1 28 (e_api_Addr g).toArray :: Ow.box b_2 50 #[.bool f_Exclude, vf_Sources] :: Ow.box b_5 50 #[.bool ((mgetD z_api_Filter a0m_2 g).1), ((mgetD z_api_Filter a0m_2 g).2).1] :: fr) h ∧ (NfL nf_api_Filter F' h (h_want.map (·.2))) ∧ (SliceF F' h 17 e_api_Addr vf_Sources f_Sources) ∧ (NfL nf_api_Filter F' h (a0m_2.map (·.2))) ∧ (SliceF F' h 17 e_api_Addr (((mgetD z_api_Filter a0m_2 g).2).1) (((mgetD z_api_Filter a0m_2 g).2).2)) ∧ (NfL nf_api_Filter F' h (a0_2_2.map (·.2))) ∧ host_Host_Set_j3 g f_Exclude f_Sources Q a0_v6_2 a0_now_2 a0m_2 a0_one_2 a0_two_2 a0_2_2) ?_ ?_
    ·
     refine HW.seq ?_
     refine HW.region ?_
     refine oV (.agg #[.bool f_Exclude, vf_Sources]) (q_loadAgg (cs := [.bool f_Exclude, vf_Sources]) ta_50 rfl rfl (Blk.cells (k := 2) (hS.box 3 rfl) rfl)) rfl ?_
     refine HO.call (want_none) rfl (ec en_53 rfl rfl) (merge_None_walk (fr := (Ow.box bh 97 #[.bool a0_v6_2, .int .i64 a0_now_2, .map (some rh_want), .int .i64 a0_one_2, .int .i64 a0_two_2] :: Ow.map rh_want (fun (x : T_api_Addr) => .agg (e_api_Addr x).toArray) (fun (x : T_api_Filter) => .agg #[.bool x.1, x.2.1]) a0m_2 :: Ow.box b_1 28 (e_api_Addr g).toArray :: Ow.box b_2 50 #[.bool f_Exclude, vf_Sources] :: Ow.box b_5 50 #[.bool ((mgetD z_api_Filter a0m_2 g).1), ((mgetD z_api_Filter a0m_2 g).2).1] :: fr)) f_Exclude f_Sources vf_Sources hS hL_f_Sources hM) ?_
     rintro _ h_16 ⟨F_13, r_9, rfl, hk, hS, _, hM⟩
     replace hK := hK.trans hk
     replace hN_h_want := hN_h_want.kp hk
     replace hL_f_Sources := hL_f_Sources.kp hk
     replace hL_1 := hL_1.kp hk
     replace hL_7 := hL_7.kp hk
     refine HO.nil (thenQ_normal (?_))
     refine HW.cond r_9 rfl (fun c_11 => ?_) (fun c_11 => ?_)
     ·
      replace hM := hM.1 c_11
      refine HW.regionA 6 mixed (fun h => (Blk h bh (.cells #[.bool a0_v6_2, .int .i64 a0_now_2, .map (some rh_want), .int .i64 a0_one_2, .int .i64 a0_two_2] 97 (0, 0))) ∧ (Blk h b_1 (.cells (e_api_Addr g).toArray 28 (0, 0)))) [] (by kernel_rfl) ?_
      refine HA.val (k := 0) (v := .pointer (some ⟨bh, 0, none⟩)) rfl rfl (by kernel_rfl) (by kernel_rfl) (want_none) rfl (fun _ ⟨c292, c294⟩ => q_move rfl) ?_
      refine HA.val (k := 1) (v := .pointer (some ⟨bh, 0, none⟩)) rfl rfl (by kernel_rfl) (by kernel_rfl) (want_none) rfl (fun _ ⟨c292, c294⟩ => q_nilCheck rfl) ?_
      refine HA.val (k := 2) (v := .pointer (some ⟨bh, 2, none⟩)) rfl rfl (by kernel_rfl) (by kernel_rfl) (want_none) rfl (fun _ ⟨c292, c294⟩ => q_fieldAddr fa_97_2 rfl rfl) ?_
      refine HA.val (k := 3) (v := .map (some rh_want)) rfl rfl (by kernel_rfl) (by kernel_rfl) (want_none) rfl (fun _ ⟨c292, c294⟩ => q_load to_95 rfl (Blk.cell c292 rfl)) ?_
      refine HA.val (k := 4) (v := .agg (e_api_Addr g).toArray) rfl rfl (by kernel_rfl) (by kernel_rfl) (want_none) rfl (fun _ ⟨c292, c294⟩ => q_loadAgg (cs := (e_api_Addr g)) ta_28 rfl rfl (Blk.cells (k := 17) c294 rfl)) ?_
      refine HA.one (k := 5) ⟨⟨(hS.box 0 rfl), (hS.box 2 rfl)⟩, (Go.Wk.at_nil _ _)⟩ (by kernel_rfl) ?_
      refine HS.eff rfl (want_none) rfl (st_deleteK (k := g) hS (i := 1) rfl ka_28 tmk_95 rfl rfl rfl) ?_
      rintro _ h_17 ⟨rfl, hS, hk⟩
      have hN_7 : NfL nf_api_Filter F_13 h_16 ((mdel a0m_2 g).map (·.2)) := NfL.mdel hL_1 g
      replace hK := hK.trans hk
      replace hN_h_want := hN_h_want.kp hk
      replace hL_f_Sources := hL_f_Sources.kp hk
      replace hL_1 := hL_1.kp hk
      replace hL_7 := hL_7.kp hk
      replace hN_7 := hN_7.kp hk
      refine HA.nil ⟨⟨(hS.box 0 rfl), (hS.box 2 rfl)⟩, (Go.Wk.at_nil _ _)⟩ (by kernel_rfl) (thenQ_normal (?_))
      exact ⟨F_13, mdel a0m_2 g, rfl, rfl, rfl, rfl, rfl, rfl, hK, hS, hN_h_want, hL_f_Sources, hL_1, hL_7, hN_7, hM⟩
     ·
      replace hM := hM.2 c_11
      refine HW.regionA 8 mixed (fun h => (Blk h bh (.cells #[.bool a0_v6_2, .int .i64 a0_now_2, .map (some rh_want), .int .i64 a0_one_2, .int .i64 a0_two_2] 97 (0, 0))) ∧ (Blk h b_1 (.cells (e_api_Addr g).toArray 28 (0, 0))) ∧ (Blk h b_2 (.cells #[.bool f_Exclude, vf_Sources] 50 (0, 0)))) [] (by kernel_rfl) ?_
      refine HA.val (k := 0) (v := .pointer (some ⟨bh, 0, none⟩)) rfl rfl (by kernel_rfl) (by kernel_rfl) (want_none) rfl (fun _ ⟨c292, c294, c295⟩ => q_move rfl) ?_
      refine HA.val (k := 1) (v := .pointer (some ⟨bh, 0, none⟩)) rfl rfl (by kernel_rfl) (by kernel_rfl) (want_none) rfl (fun _ ⟨c292, c294, c295⟩ => q_nilCheck rfl) ?_
      refine HA.val (k := 2) (v := .pointer (some ⟨bh, 2, none⟩)) rfl rfl (by kernel_rfl) (by kernel_rfl) (want_none) rfl (fun _ ⟨c292, c294, c295⟩ => q_fieldAddr fa_97_2 rfl rfl) ?_
      refine HA.val (k := 3) (v := .map (some rh_want)) rfl rfl (by kernel_rfl) (by kernel_rfl) (want_none) rfl (fun _ ⟨c292, c294, c295⟩ => q_load to_95 rfl (Blk.cell c292 rfl)) ?_
      refine HA.val (k := 4) (v := .agg (e_api_Addr g).toArray) rfl rfl (by kernel_rfl) (by kernel_rfl) (want_none) rfl (fun _ ⟨c292, c294, c295⟩ => q_loadAgg (cs := (e_api_Addr g)) ta_28 rfl rfl (Blk.cells (k := 17) c294 rfl)) ?_
      refine HA.val (k := 5) (v := .agg #[.bool f_Exclude, vf_Sources]) rfl rfl (by kernel_rfl) (by kernel_rfl) (want_none) rfl (fun _ ⟨c292, c294, c295⟩ => q_loadAgg (cs := [.bool f_Exclude, vf_Sources]) ta_50 rfl rfl (Blk.cells (k := 2) c295 rfl)) ?_
      refine HA.one (k := 6) ⟨⟨(hS.box 0 rfl), (hS.box 2 rfl), (hS.box 3 rfl)⟩, (Go.Wk.at_nil _ _)⟩ (by kernel_rfl) ?_
      refine HS.call rfl (want_none) rfl (ec en_54 rfl rfl) (host_own_walk (fr := (Ow.box bh 97 #[.bool a0_v6_2, .int .i64 a0_now_2, .map (some rh_want), .int .i64 a0_one_2, .int .i64 a0_two_2] :: Ow.map rh_want (fun (x : T_api_Addr) => .agg (e_api_Addr x).toArray) (fun (x : T_api_Filter) => .agg #[.bool x.1, x.2.1]) a0m_2 :: Ow.box b_1 28 (e_api_Addr g).toArray :: Ow.box b_2 50 #[.bool f_Exclude, vf_Sources] :: Ow.box b_5 50 #[.bool ((mgetD z_api_Filter a0m_2 g).1), ((mgetD z_api_Filter a0m_2 g).2).1] :: fr)) f_Exclude f_Sources vf_Sources hS hL_f_Sources hM) ?_
      rintro _ h_18 ⟨F_14, r_0_1, r_1_1, vr_1_1, rfl, hk, hS, _, hM⟩
      replace hK := hK.trans hk
      replace hN_h_want := hN_h_want.kp hk
      replace hL_f_Sources := hL_f_Sources.kp hk
      replace hL_1 := hL_1.kp hk
      replace hL_7 := hL_7.kp hk
      refine HA.one (k := 7) ⟨⟨(hS.box 1 rfl), (hS.box 3 rfl), (hS.box 4 rfl)⟩, (Go.Wk.at_nil _ _)⟩ (by kernel_rfl) ?_
      obtain ⟨F_15, hS, hk, hL_8⟩ := hS.freezeOwn
      replace hK := hK.trans hk
      replace hN_h_want := hN_h_want.kp hk
      replace hL_f_Sources := hL_f_Sources.kp hk
      replace hL_1 := hL_1.kp hk
      replace hL_7 := hL_7.kp hk
      replace hM := hM vr_1_1
      refine HS.sto rfl (want_none) rfl (st_mapUpdateK (k := g) (v := (r_0_1, (vr_1_1, r_1_1))) hS (i := 1) rfl ka_28 tmk_95 rfl rfl rfl) ?_
      rintro h_19 ⟨hS, hk⟩
      have hN_8 : NfL nf_api_Filter F_15 h_18 ((mset a0m_2 g (r_0_1, (vr_1_1, r_1_1))).map (·.2)) := NfL.mset hL_1 g (nfm_api_Filter (r_0_1, (vr_1_1, r_1_1)) hL_8)
      replace hK := hK.trans hk
      replace hN_h_want := hN_h_want.kp hk
      replace hL_f_Sources := hL_f_Sources.kp hk
      replace hL_1 := hL_1.kp hk
      replace hL_7 := hL_7.kp hk
      replace hN_8 := hN_8.kp hk
      refine HA.nil ⟨⟨(hS.box 0 rfl), (hS.box 2 rfl), (hS.box 3 rfl)⟩, (Go.Wk.at_nil _ _)⟩ (by kernel_rfl) (thenQ_normal (?_))
      exact ⟨F_15, mset a0m_2 g (r_0_1, (vr_1_1, r_1_1)), rfl, rfl, rfl, rfl, rfl, rfl, hK, hS, hN_h_want, hL_f_Sources, hL_1, hL_7, hN_8, hM⟩
    ·
     rintro f_3 h_20 ⟨F_16, a0_2_2, e0, e6, e7, e8, e9, e10, hK, hS, hN_h_want, hL_f_Sources, hL_1, hL_7, hN_6, hM⟩
     unfold host_Host_Set_j3 at hM
     refine HW.fr [(0, .pointer (some ⟨bh, 0, none⟩)), (6, .pointer (some ⟨b_1, 0, none⟩)), (7, .pointer (some ⟨b_2, 0, none⟩)), (8, .slice none 0 0), (9, .int .i64 0), (10, .pointer (some ⟨b_5, 0, none⟩))] ⟨e0, e6, e7, e8, e9, e10, trivial⟩ ?_
     refine HW.seq ?_
     refine HW.region ?_
     refine oM (.pointer (some ⟨bh, 0, none⟩)) rfl rfl ?_
     refine oV (.agg (e_api_Addr g).toArray) (q_loadAgg (cs := (e_api_Addr g)) ta_28 rfl rfl (Blk.cells (k := 17) (hS.box 2 rfl) rfl)) rfl ?_
     refine oV (.agg #[.bool ((mgetD z_api_Filter a0m_2 g).1), ((mgetD z_api_Filter a0m_2 g).2).1]) (q_loadAgg (cs := [.bool ((mgetD z_api_Filter a0m_2 g).1), ((mgetD z_api_Filter a0m_2 g).2).1]) ta_50 rfl rfl (Blk.cells (k := 2) (hS.box 4 rfl) rfl)) rfl ?_
     refine oV (.agg #[.bool f_Exclude, vf_Sources]) (q_loadAgg (cs := [.bool f_Exclude, vf_Sources]) ta_50 rfl rfl (Blk.cells (k := 2) (hS.box 3 rfl) rfl)) rfl ?_
     refine HO.call (want_none) rfl (ec en_55 rfl rfl) (host_Host_said_walk (fr := (Ow.box b_1 28 (e_api_Addr g).toArray :: Ow.box b_2 50 #[.bool f_Exclude, vf_Sources] :: Ow.box b_5 50 #[.bool ((mgetD z_api_Filter a0m_2 g).1), ((mgetD z_api_Filter a0m_2 g).2).1] :: fr)) a0_v6_2 a0_now_2 a0_2_2 a0_one_2 a0_two_2 g ((mgetD z_api_Filter a0m_2 g).1) (((mgetD z_api_Filter a0m_2 g).2).2) f_Exclude f_Sources bh rh_want (((mgetD z_api_Filter a0m_2 g).2).1) vf_Sources hS hN_6 hL_7 hL_f_Sources hM) ?_
     rintro vr_1 h_21 ⟨F_17, r_10, a0_v6_3, a0_now_3, a0m_3, a0_one_3, a0_two_3, _, rfl, hk, hS, _, _, _, hL_9, hL_10, hM⟩
     replace hK := hK.trans hk
     replace hN_h_want := hN_h_want.kp hk
     replace hL_f_Sources := hL_f_Sources.kp hk
     refine oA (vr_1) rfl rfl ?_
     refine oA (.int .i64 0) rfl rfl ?_
     refine HO.nil (thenQ_normal (?_))
     refine HW.ret (?_)
     refine ⟨.inr rfl, .tuple #[vr_1, .int .i64 0], res2 rfl (rt rfl) (rt rfl), ?_⟩
     replace hS : St F_17 (Ow.own 31 26 e_api_Talk vr_1 r_10 :: Ow.box bh 97 #[.bool a0_v6_3, .int .i64 a0_now_3, .map (some rh_want), .int .i64 a0_one_3, .int .i64 a0_two_3] :: Ow.map rh_want (fun (x : T_api_Addr) => .agg (e_api_Addr x).toArray) (fun (x : T_api_Filter) => .agg #[.bool x.1, x.2.1]) a0m_3 :: fr) h_21 := hS.perm2 [0, 1, 2] 6 rfl rfl
     exact ⟨F_17, r_10, 0, a0_v6_3, a0_now_3, a0m_3, a0_one_3, a0_two_3, vr_1, rfl, hK, hS, hN_h_want, hL_f_Sources, hL_9, hL_10, hM⟩
def law18_Usual_W (Q : T_api_Tune → Prop) : Prop :=
 Q (2, 12, 2, 2, 2)
theorem law18_Usual_walk {F : Fz} {fr : List Ow} {h0 : Heap}  (hS : St F (fr) h0)  {Q : T_api_Tune → Prop} (hM : law18_Usual_W Q) :
  HC Tryz.prog 20 #[] h0 fun u h' => ∃ (F' : Fz) (r_1 : T_api_Tune), u = .agg (e_api_Tune r_1).toArray ∧ Kp F h0 F' h' ∧ St F' (fr) h' ∧ Q r_1 := by
 unfold law18_Usual_W at hM
 have hK := Kp.refl F h0
 refine HC.of_HW (n := 2) Tryz.func20 rfl rfl (Nat.le_of_ble_eq_true rfl) ?_
 refine HW.seq ?_
 refine HW.region ?_
 refine HO.eff (want_none) rfl (st_alloc (c := (e_api_Tune (0, 0, 0, 0, 0)).toArray) hS tz_56 rfl) ?_
 rintro _ h_1 ⟨b_1, rfl, hS, hk⟩
 replace hK := hK.trans hk
 refine HO.nil (thenQ_normal (?_))
 refine HW.seq ?_
 refine HW.region ?_
 refine oV (.agg (e_api_Tune (2, 12, 2, 2, 2)).toArray) (q_build tp_56 rfl) rfl ?_
 refine HO.sto (want_none) rfl (st_storeAgg (c' := (e_api_Tune (2, 12, 2, 2, 2)).toArray) hS (i := 0) rfl ta_56 rfl rfl rfl (one_e_api_Tune _) (Nat.le_of_ble_eq_true rfl) rfl) ?_
 rintro h_2 ⟨hS, hk⟩
 replace hK := hK.trans hk
 refine HO.nil (thenQ_normal (?_))
 refine HW.ret (?_)
 refine ⟨.inr rfl, .agg (e_api_Tune (2, 12, 2, 2, 2)).toArray, res1 rfl (rca (cs := (e_api_Tune (2, 12, 2, 2, 2))) ta_56 rfl rfl (Blk.cells (k := 5) (hS.box 0 rfl) rfl)), ?_⟩
 replace hS : St F (fr) h_2 := hS.perm2 [] 1 rfl rfl
 exact ⟨F, (2, 12, 2, 2, 2), rfl, hK, hS, hM⟩
def slices_Collect_api_Addr_k1_W (seq : List (T_api_Addr × T_api_Filter)) (Q : (List T_api_Addr) → Prop) : Prop :=
 ((seq).length * 17 ≤ 140737488355328) ∧ (∀ l_1 : List T_api_Addr, List.Perm l_1 (seq.map Prod.fst) → (Q l_1))
theorem slices_Collect_api_Addr_k1_walk {F : Fz} {fr : List Ow} {h0 : Heap} (seq : List (T_api_Addr × T_api_Filter)) (bseq : Nat) (rseq : Nat) (hS : St F (fr) h0) (hN_seq : NfL nf_api_Filter F h0 (seq.map (·.2))) (hM_rseq : RoF (Ow.map rseq (fun (x : T_api_Addr) => .agg (e_api_Addr x).toArray) (fun (x : T_api_Filter) => .agg #[.bool x.1, x.2.1]) seq) F h0) (hB_bseq : RoF (Ow.box bseq 95 #[.map (some rseq)]) F h0) {Q : (List T_api_Addr) → Prop} (hM : slices_Collect_api_Addr_k1_W seq Q) :
  HC Tryz.prog 144 #[.func (.func 146) #[] #[.pointer (some ⟨bseq, 0, none⟩)]] h0 fun u h' => ∃ (F' : Fz) (r_1 : List T_api_Addr) (vr_1 : Value), u = vr_1 ∧ Kp F h0 F' h' ∧ St F' (Ow.own 28 17 e_api_Addr vr_1 r_1 :: fr) h' ∧ (NfL nf_api_Filter F' h' (seq.map (·.2))) ∧ (RoF (Ow.map rseq (fun (x : T_api_Addr) => .agg (e_api_Addr x).toArray) (fun (x : T_api_Filter) => .agg #[.bool x.1, x.2.1]) seq) F' h') ∧ (RoF (Ow.box bseq 95 #[.map (some rseq)]) F' h') ∧ Q r_1 := by
 unfold slices_Collect_api_Addr_k1_W at hM
 have hK := Kp.refl F h0
 refine HC.of_HW (n := 5) Tryz.func144 rfl rfl (Nat.le_of_ble_eq_true rfl) ?_
 refine HW.seq ?_
 refine HW.region ?_
 refine oA (.slice none 0 0) rfl rfl ?_
 refine HO.nil (thenQ_normal (?_))
 refine HW.seq ?_
 refine HW.region ?_
 refine oM (.func (.func 146) #[] #[.pointer (some ⟨bseq, 0, none⟩)]) rfl rfl ?_
 obtain ⟨ho_1, hM⟩ := hM
 refine HO.call (want_none) rfl (ec en_159 rfl rfl) (apk_159_146 hS hB_bseq.box hM_rseq.mp ho_1) ?_
 rintro v_1 h_1 ⟨l_1, hp_1, hS, hk⟩
 replace hM := hM l_1 hp_1
 replace hK := hK.trans hk
 replace hN_seq := hN_seq.kp hk
 replace hM_rseq := hM_rseq.kp hk
 replace hB_bseq := hB_bseq.kp hk
 refine oA (v_1) rfl rfl ?_
 refine HO.nil (thenQ_normal (?_))
 refine HW.ret (?_)
 refine ⟨.inr rfl, v_1, res1 rfl (rt rfl), ?_⟩
 exact ⟨F, l_1, v_1, rfl, hK, hS, hN_seq, hM_rseq, hB_bseq, hM⟩
def slices_Collect_api_Addr_k2_W (seq : List (T_api_Addr × Value × List T_api_Filter)) (Q : (List T_api_Addr) → Prop) : Prop :=
 ((seq).length * 17 ≤ 140737488355328) ∧ (∀ l_1 : List T_api_Addr, List.Perm l_1 (seq.map Prod.fst) → (Q l_1))
theorem slices_Collect_api_Addr_k2_walk {F : Fz} {fr : List Ow} {h0 : Heap} (seq : List (T_api_Addr × Value × List T_api_Filter)) (bseq : Nat) (rseq : Nat) (hS : St F (fr) h0) (hM_rseq : RoF (Ow.map rseq (fun (x : T_api_Addr) => .agg (e_api_Addr x).toArray) bagV seq) F h0) (hN_seq : NfB 2 e_api_Filter F h0 seq) (hB_bseq : RoF (Ow.box bseq 165 #[.map (some rseq)]) F h0) {Q : (List T_api_Addr) → Prop} (hM : slices_Collect_api_Addr_k2_W seq Q) :
  HC Tryz.prog 144 #[.func (.func 154) #[] #[.pointer (some ⟨bseq, 0, none⟩)]] h0 fun u h' => ∃ (F' : Fz) (r_1 : List T_api_Addr) (vr_1 : Value), u = vr_1 ∧ Kp F h0 F' h' ∧ St F' (Ow.own 28 17 e_api_Addr vr_1 r_1 :: fr) h' ∧ (RoF (Ow.map rseq (fun (x : T_api_Addr) => .agg (e_api_Addr x).toArray) bagV seq) F' h') ∧ (NfB 2 e_api_Filter F' h' seq) ∧ (RoF (Ow.box bseq 165 #[.map (some rseq)]) F' h') ∧ Q r_1 := by
 unfold slices_Collect_api_Addr_k2_W at hM
 have hK := Kp.refl F h0
 refine HC.of_HW (n := 5) Tryz.func144 rfl rfl (Nat.le_of_ble_eq_true rfl) ?_
 refine HW.seq ?_
 refine HW.region ?_
 refine oA (.slice none 0 0) rfl rfl ?_
 refine HO.nil (thenQ_normal (?_))
 refine HW.seq ?_
 refine HW.region ?_
 refine oM (.func (.func 154) #[] #[.pointer (some ⟨bseq, 0, none⟩)]) rfl rfl ?_
 obtain ⟨ho_1, hM⟩ := hM
 refine HO.call (want_none) rfl (ec en_159 rfl rfl) (apk_159_154 hS hB_bseq.box hM_rseq.mp ho_1) ?_
 rintro v_1 h_1 ⟨l_1, hp_1, hS, hk⟩
 replace hM := hM l_1 hp_1
 replace hK := hK.trans hk
 replace hM_rseq := hM_rseq.kp hk
 replace hN_seq := hN_seq.kp hk
 replace hB_bseq := hB_bseq.kp hk
 refine oA (v_1) rfl rfl ?_
 refine HO.nil (thenQ_normal (?_))
 refine HW.ret (?_)
 refine ⟨.inr rfl, v_1, res1 rfl (rt rfl), ?_⟩
 exact ⟨F, l_1, v_1, rfl, hK, hS, hM_rseq, hN_seq, hB_bseq, hM⟩
def slices_SortedFunc_api_Addr_k1_W (seq : List (T_api_Addr × T_api_Filter)) (cf_cmp : T_api_Addr → T_api_Addr → Int) (Q : (List T_api_Addr) → Prop) : Prop :=
 slices_Collect_api_Addr_k1_W seq (fun r_2 => Swo cf_cmp ∧ (r_2).length < 4611686018427387904 ∧ ∀ l_1 : List T_api_Addr, List.Perm l_1 r_2 → List.Pairwise (fun x y => ¬ cf_cmp y x < 0) l_1 → (Q l_1))
theorem slices_SortedFunc_api_Addr_k1_walk {F : Fz} {fr : List Ow} {h0 : Heap} (seq : List (T_api_Addr × T_api_Filter)) (cf_cmp : T_api_Addr → T_api_Addr → Int) (bseq : Nat) (rseq : Nat) (g_cmp : Nat) (cs_cmp : Array Value) (hS : St F (fr) h0) (hN_seq : NfL nf_api_Filter F h0 (seq.map (·.2))) (hM_rseq : RoF (Ow.map rseq (fun (x : T_api_Addr) => .agg (e_api_Addr x).toArray) (fun (x : T_api_Filter) => .agg #[.bool x.1, x.2.1]) seq) F h0) (hB_bseq : RoF (Ow.box bseq 95 #[.map (some rseq)]) F h0) (hF_cf_cmp : FnP Tryz.prog F h0 g_cmp #[] cs_cmp (fun x : T_api_Addr × T_api_Addr => [.agg (e_api_Addr x.1).toArray, .agg (e_api_Addr x.2).toArray]) (fun x => .int .i64 (cf_cmp x.1 x.2))) {Q : (List T_api_Addr) → Prop} (hM : slices_SortedFunc_api_Addr_k1_W seq cf_cmp Q) :
  HC Tryz.prog 111 #[.func (.func 146) #[] #[.pointer (some ⟨bseq, 0, none⟩)], .func (.func g_cmp) #[] cs_cmp] h0 fun u h' => ∃ (F' : Fz) (r_1 : List T_api_Addr) (vr_1 : Value), u = vr_1 ∧ Kp F h0 F' h' ∧ St F' (Ow.own 28 17 e_api_Addr vr_1 r_1 :: fr) h' ∧ (NfL nf_api_Filter F' h' (seq.map (·.2))) ∧ (RoF (Ow.map rseq (fun (x : T_api_Addr) => .agg (e_api_Addr x).toArray) (fun (x : T_api_Filter) => .agg #[.bool x.1, x.2.1]) seq) F' h') ∧ (RoF (Ow.box bseq 95 #[.map (some rseq)]) F' h') ∧ (FnP Tryz.prog F' h' g_cmp #[] cs_cmp (fun x : T_api_Addr × T_api_Addr => [.agg (e_api_Addr x.1).toArray, .agg (e_api_Addr x.2).toArray]) (fun x => .int .i64 (cf_cmp x.1 x.2))) ∧ Q r_1 := by
 unfold slices_SortedFunc_api_Addr_k1_W at hM
 have hK := Kp.refl F h0
 refine HC.of_HW (n := 12) Tryz.func111 rfl rfl (Nat.le_of_ble_eq_true rfl) ?_
 refine HW.seq ?_
 refine HW.region ?_
 refine oA (.slice none 0 0) rfl rfl ?_
 refine HO.nil (thenQ_normal (?_))
 refine HW.seq ?_
 refine HW.region ?_
 refine oM (.func (.func 146) #[] #[.pointer (some ⟨bseq, 0, none⟩)]) rfl rfl ?_
 refine HO.call (want_none) rfl (ec en_144 rfl rfl) (slices_Collect_api_Addr_k1_walk (fr := (fr)) seq bseq rseq hS hN_seq hM_rseq hB_bseq hM) ?_
 rintro vr_2 h_1 ⟨F_1, r_2, _, rfl, hk, hS, _, _, _, hM⟩
 replace hK := hK.trans hk
 replace hN_seq := hN_seq.kp hk
 replace hM_rseq := hM_rseq.kp hk
 replace hB_bseq := hB_bseq.kp hk
 replace hF_cf_cmp := hF_cf_cmp.kp hk
 refine oA (vr_2) rfl rfl ?_
 refine HO.nil (thenQ_normal (?_))
 refine HW.seq ?_
 refine HW.region ?_
 refine oM (vr_2) rfl rfl ?_
 refine oM (.func (.func g_cmp) #[] cs_cmp) rfl rfl ?_
 obtain ⟨ho_1, ho_2, hM⟩ := hM
 refine HO.call (want_none) rfl (ec en_145 rfl rfl) (sortFunc_own Tryz.sortAddr (by decide) (fun w => by kernel_rfl) (fun w => by kernel_rfl) (enc := e_api_Addr) (fun _ => rfl) (by intro a u hu; simp [e_api_Addr, encI, encN, encB, encT] at hu; rcases hu with rfl | rfl | rfl | rfl | rfl | rfl | rfl | rfl | rfl | rfl | rfl | rfl | rfl | rfl | rfl | rfl | rfl <;> rfl) ho_1 hS hF_cf_cmp ho_2) ?_
 rintro _ h_2 ⟨l_1, rfl, hk, hS, hp_1, hs_1⟩
 replace hM := hM l_1 hp_1 hs_1
 replace hK := hK.trans hk
 replace hN_seq := hN_seq.kp hk
 replace hM_rseq := hM_rseq.kp hk
 replace hB_bseq := hB_bseq.kp hk
 replace hF_cf_cmp := hF_cf_cmp.kp hk
 refine HO.nil (thenQ_normal (?_))
 refine HW.seq ?_
 refine HW.region ?_
 refine oM (vr_2) rfl rfl ?_
 refine oA (vr_2) rfl rfl ?_
 refine HO.nil (thenQ_normal (?_))
 refine HW.ret (?_)
 refine ⟨.inr rfl, vr_2, res1 rfl (rt rfl), ?_⟩
 exact ⟨F_1, l_1, vr_2, rfl, hK, hS, hN_seq, hM_rseq, hB_bseq, hF_cf_cmp, hM⟩
def slices_SortedFunc_api_Addr_k2_W (seq : List (T_api_Addr × Value × List T_api_Filter)) (cf_cmp : T_api_Addr → T_api_Addr → Int) (Q : (List T_api_Addr) → Prop) : Prop :=
 slices_Collect_api_Addr_k2_W seq (fun r_2 => Swo cf_cmp ∧ (r_2).length < 4611686018427387904 ∧ ∀ l_1 : List T_api_Addr, List.Perm l_1 r_2 → List.Pairwise (fun x y => ¬ cf_cmp y x < 0) l_1 → (Q l_1))
theorem slices_SortedFunc_api_Addr_k2_walk {F : Fz} {fr : List Ow} {h0 : Heap} (seq : List (T_api_Addr × Value × List T_api_Filter)) (cf_cmp : T_api_Addr → T_api_Addr → Int) (bseq : Nat) (rseq : Nat) (g_cmp : Nat) (cs_cmp : Array Value) (hS : St F (fr) h0) (hM_rseq : RoF (Ow.map rseq (fun (x : T_api_Addr) => .agg (e_api_Addr x).toArray) bagV seq) F h0) (hN_seq : NfB 2 e_api_Filter F h0 seq) (hB_bseq : RoF (Ow.box bseq 165 #[.map (some rseq)]) F h0) (hF_cf_cmp : FnP Tryz.prog F h0 g_cmp #[] cs_cmp (fun x : T_api_Addr × T_api_Addr => [.agg (e_api_Addr x.1).toArray, .agg (e_api_Addr x.2).toArray]) (fun x => .int .i64 (cf_cmp x.1 x.2))) {Q : (List T_api_Addr) → Prop} (hM : slices_SortedFunc_api_Addr_k2_W seq cf_cmp Q) :
  HC Tryz.prog 111 #[.func (.func 154) #[] #[.pointer (some ⟨bseq, 0, none⟩)], .func (.func g_cmp) #[] cs_cmp] h0 fun u h' => ∃ (F' : Fz) (r_1 : List T_api_Addr) (vr_1 : Value), u = vr_1 ∧ Kp F h0 F' h' ∧ St F' (Ow.own 28 17 e_api_Addr vr_1 r_1 :: fr) h' ∧ (RoF (Ow.map rseq (fun (x : T_api_Addr) => .agg (e_api_Addr x).toArray) bagV seq) F' h') ∧ (NfB 2 e_api_Filter F' h' seq) ∧ (RoF (Ow.box bseq 165 #[.map (some rseq)]) F' h') ∧ (FnP Tryz.prog F' h' g_cmp #[] cs_cmp (fun x : T_api_Addr × T_api_Addr => [.agg (e_api_Addr x.1).toArray, .agg (e_api_Addr x.2).toArray]) (fun x => .int .i64 (cf_cmp x.1 x.2))) ∧ Q r_1 := by
 unfold slices_SortedFunc_api_Addr_k2_W at hM
 have hK := Kp.refl F h0
 refine HC.of_HW (n := 12) Tryz.func111 rfl rfl (Nat.le_of_ble_eq_true rfl) ?_
 refine HW.seq ?_
 refine HW.region ?_
 refine oA (.slice none 0 0) rfl rfl ?_
 refine HO.nil (thenQ_normal (?_))
 refine HW.seq ?_
 refine HW.region ?_
 refine oM (.func (.func 154) #[] #[.pointer (some ⟨bseq, 0, none⟩)]) rfl rfl ?_
 refine HO.call (want_none) rfl (ec en_144 rfl rfl) (slices_Collect_api_Addr_k2_walk (fr := (fr)) seq bseq rseq hS hM_rseq hN_seq hB_bseq hM) ?_
 rintro vr_2 h_1 ⟨F_1, r_2, _, rfl, hk, hS, _, _, _, hM⟩
 replace hK := hK.trans hk
 replace hM_rseq := hM_rseq.kp hk
 replace hN_seq := hN_seq.kp hk
 replace hB_bseq := hB_bseq.kp hk
 replace hF_cf_cmp := hF_cf_cmp.kp hk
 refine oA (vr_2) rfl rfl ?_
 refine HO.nil (thenQ_normal (?_))
 refine HW.seq ?_
 refine HW.region ?_
 refine oM (vr_2) rfl rfl ?_
 refine oM (.func (.func g_cmp) #[] cs_cmp) rfl rfl ?_
 obtain ⟨ho_1, ho_2, hM⟩ := hM
 refine HO.call (want_none) rfl (ec en_145 rfl rfl) (sortFunc_own Tryz.sortAddr (by decide) (fun w => by kernel_rfl) (fun w => by kernel_rfl) (enc := e_api_Addr) (fun _ => rfl) (by intro a u hu; simp [e_api_Addr, encI, encN, encB, encT] at hu; rcases hu with rfl | rfl | rfl | rfl | rfl | rfl | rfl | rfl | rfl | rfl | rfl | rfl | rfl | rfl | rfl | rfl | rfl <;> rfl) ho_1 hS hF_cf_cmp ho_2) ?_
 rintro _ h_2 ⟨l_1, rfl, hk, hS, hp_1, hs_1⟩
 replace hM := hM l_1 hp_1 hs_1
 replace hK := hK.trans hk
 replace hM_rseq := hM_rseq.kp hk
 replace hN_seq := hN_seq.kp hk
 replace hB_bseq := hB_bseq.kp hk
 replace hF_cf_cmp := hF_cf_cmp.kp hk
 refine HO.nil (thenQ_normal (?_))
 refine HW.seq ?_
 refine HW.region ?_
 refine oM (vr_2) rfl rfl ?_
 refine oA (vr_2) rfl rfl ?_
 refine HO.nil (thenQ_normal (?_))
 refine HW.ret (?_)
 refine ⟨.inr rfl, vr_2, res1 rfl (rt rfl), ?_⟩
 exact ⟨F_1, l_1, vr_2, rfl, hK, hS, hM_rseq, hN_seq, hB_bseq, hF_cf_cmp, hM⟩
def host_Host_groups_W (h_v6 : Bool) (h_now : Int) (h_want : List (T_api_Addr × T_api_Filter)) (h_one : Int) (h_two : Int) (Q : (List T_api_Addr) → Prop) : Prop :=
 ∃ cf_1 : T_api_Addr → T_api_Addr → Int, (∀ x0 x1, addr_Cmp_W x0 x1 (fun r => r = cf_1 x0 x1)) ∧ (slices_SortedFunc_api_Addr_k1_W h_want cf_1 (fun r_2 => Q r_2))
theorem host_Host_groups_walk {F : Fz} {fr : List Ow} {h0 : Heap} (h_v6 : Bool) (h_now : Int) (h_want : List (T_api_Addr × T_api_Filter)) (h_one : Int) (h_two : Int) (bh : Nat) (rh_want : Nat) (hS : St F (fr) h0) (hN_h_want : NfL nf_api_Filter F h0 (h_want.map (·.2))) (hM_rh_want : RoF (Ow.map rh_want (fun (x : T_api_Addr) => .agg (e_api_Addr x).toArray) (fun (x : T_api_Filter) => .agg #[.bool x.1, x.2.1]) h_want) F h0) (hB_bh : RoF (Ow.box bh 97 #[.bool h_v6, .int .i64 h_now, .map (some rh_want), .int .i64 h_one, .int .i64 h_two]) F h0) {Q : (List T_api_Addr) → Prop} (hM : host_Host_groups_W h_v6 h_now h_want h_one h_two Q) :
  HC Tryz.prog 58 #[.pointer (some ⟨bh, 0, none⟩)] h0 fun u h' => ∃ (F' : Fz) (r_1 : List T_api_Addr) (vr_1 : Value), u = vr_1 ∧ Kp F h0 F' h' ∧ St F' (Ow.own 28 17 e_api_Addr vr_1 r_1 :: fr) h' ∧ (NfL nf_api_Filter F' h' (h_want.map (·.2))) ∧ (RoF (Ow.map rh_want (fun (x : T_api_Addr) => .agg (e_api_Addr x).toArray) (fun (x : T_api_Filter) => .agg #[.bool x.1, x.2.1]) h_want) F' h') ∧ (RoF (Ow.box bh 97 #[.bool h_v6, .int .i64 h_now, .map (some rh_want), .int .i64 h_one, .int .i64 h_two]) F' h') ∧ Q r_1 := by
 unfold host_Host_groups_W at hM
 have hK := Kp.refl F h0
 refine HC.of_HW (n := 9) Tryz.func58 rfl rfl (Nat.le_of_ble_eq_true rfl) ?_
 refine HW.seq ?_
 refine HW.region ?_
 refine oA (.slice none 0 0) rfl rfl ?_
 refine HO.nil (thenQ_normal (?_))
 refine HW.seq ?_
 refine HW.region ?_
 refine oM (.pointer (some ⟨bh, 0, none⟩)) rfl rfl ?_
 refine oV (.pointer (some ⟨bh, 0, none⟩)) (q_nilCheck rfl) rfl ?_
 refine oV (.pointer (some ⟨bh, 2, none⟩)) (q_fieldAddr fa_97_2 rfl rfl) rfl ?_
 refine oV (.map (some rh_want)) (q_load to_95 rfl (Blk.cell hB_bh.box rfl)) rfl ?_
 refine HO.call (want_none) rfl (ec en_112 rfl rfl) (keys_hc Tryz.func112 rfl rfl rfl rfl hS) ?_
 rintro _ h_1 ⟨b_1, rfl, hS, hk⟩
 replace hK := hK.trans hk
 replace hN_h_want := hN_h_want.kp hk
 replace hM_rh_want := hM_rh_want.kp hk
 replace hB_bh := hB_bh.kp hk
 obtain ⟨cf_1, hc_1, hM⟩ := hM
 have hF_1 : FnP Tryz.prog F h_1 106 #[] #[] (fun x : T_api_Addr × T_api_Addr => [.agg (e_api_Addr x.1).toArray, .agg (e_api_Addr x.2).toArray]) (fun x => .int .i64 (cf_1 x.1 x.2)) := FnP.of en_106 (fun x h' hk_ => @HC.mono ⟨true⟩ _ _ _ _ _ _ (@addr_Cmp_walk ⟨true⟩ (allF h') [] h' x.1 x.2  (St.init h')  (fun r => r = cf_1 x.1 x.2) (hc_1 x.1 x.2)) (fun u h'' ⟨F', r, hu, k_, _, hr⟩ => ⟨by rw [hu, hr], F', k_⟩))
 replace hS : St F (Ow.box b_1 95 #[.map (some rh_want)] :: fr) h_1 := hS
 have hZ_1 := hS
 have hkz_1 := (hS.freeze).2
 replace hS := hS.freeze.1
 have hL_1 := hZ_1.lent
 refine HO.call (want_none) rfl (ec en_111 rfl rfl) (slices_SortedFunc_api_Addr_k1_walk (fr := (fr)) h_want cf_1 b_1 rh_want 106 (#[]) hS (NfL.kp hN_h_want hkz_1) (hM_rh_want.kp hkz_1) hL_1 (hF_1.kp hkz_1) hM) ?_
 rintro vr_2 h_2 ⟨F_1, r_2, _, rfl, hk, hS, _, _, _, _, hM⟩
 obtain ⟨hS, hk⟩ := hZ_1.back hk hS
 generalize (fun bz_ => F_1 bz_ ∧ ¬ (Ow.box b_1 95 #[.map (some rh_want)]).foot bz_) = F_2 at hS hk
 replace hK := hK.trans hk
 replace hN_h_want := hN_h_want.kp hk
 replace hM_rh_want := hM_rh_want.kp hk
 replace hB_bh := hB_bh.kp hk
 refine oA (vr_2) rfl rfl ?_
 refine HO.nil (thenQ_normal (?_))
 refine HW.ret (?_)
 refine ⟨.inr rfl, vr_2, res1 rfl (rt rfl), ?_⟩
 replace hS : St F_2 (Ow.own 28 17 e_api_Addr vr_2 r_2 :: fr) h_2 := hS.perm2 [1] 2 rfl rfl
 exact ⟨F_2, r_2, vr_2, rfl, hK, hS, hN_h_want, hM_rh_want, hB_bh, hM⟩
end Go.Wk
