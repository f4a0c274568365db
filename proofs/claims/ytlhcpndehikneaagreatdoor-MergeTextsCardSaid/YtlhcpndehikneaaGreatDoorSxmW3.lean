/- Walks of texts of sets and filters. -/
import Derived.Test.YtlhcpndehikneaaGreatDoorSxmW2
set_option linter.unusedSimpArgs false
set_option linter.unusedVariables false
set_option linter.unusedSectionVars false
namespace Go.Wk
open Go.HL
open Go.Proofs hiding encI
variable [DM]

def srcs_walk_api_Addr_l3 (second : Bool) (Q : (List T_api_Addr) → Prop) (b_2 : List T_api_Addr) (K_3 : (List T_api_Addr) → Int → Prop) (out_0_3 : List T_api_Addr) (n_2 : Int) : Prop :=
  (n_2 < (b_2.length : Int) → ((0 : Int) ≤ n_2 ∧ n_2 < (b_2.length : Int)) ∧ (srcs_walk_1_api_Addr_W (gi b_2 n_2) second out_0_3 (fun a2_0_5 => (I64 (n_2 + 1)) ∧ (K_3 a2_0_5 (n_2 + 1))))) ∧ (¬ (n_2 < (b_2.length : Int)) → Q out_0_3)
def srcs_walk_api_Addr_l2 (first : Bool) (second : Bool) (Q : (List T_api_Addr) → Prop) (a_1 : List T_api_Addr) (b_2 : List T_api_Addr) (K_2 : (List T_api_Addr) → Int → Prop) (out_0_2 : List T_api_Addr) (n_1 : Int) : Prop :=
  (n_1 < (a_1.length : Int) → ((0 : Int) ≤ n_1 ∧ n_1 < (a_1.length : Int)) ∧ (srcs_walk_1_api_Addr_W (gi a_1 n_1) first out_0_2 (fun a2_0_4 => (I64 (n_1 + 1)) ∧ (K_2 a2_0_4 (n_1 + 1))))) ∧ (¬ (n_1 < (a_1.length : Int)) → loopW (fun (K_3 : (List T_api_Addr × Int) → Prop) (s : List T_api_Addr × Int) => srcs_walk_api_Addr_l3 second Q b_2 (fun out_0_3 n_2 => K_3 (out_0_3, n_2)) s.1 s.2) (out_0_2, 0))
def srcs_walk_api_Addr_j1 (cf_order : T_api_Addr → T_api_Addr → Int) (first : Bool) (both : Bool) (second : Bool) (Q : (List T_api_Addr) → Prop) (a_1 : List T_api_Addr) (b_2 : List T_api_Addr) (out_0_1 : List T_api_Addr) (K_1 : (List T_api_Addr) → (List T_api_Addr) → (List T_api_Addr) → Prop) (b_3 : Bool) : Prop :=
  (b_3 = true → ((0 : Int) ≤ 0 ∧ 0 < (a_1.length : Int)) ∧ (((0 : Int) ≤ 0 ∧ 0 < (b_2.length : Int)) ∧ (((cf_order (gi a_1 0) (gi b_2 0)) < 0 → srcs_walk_1_api_Addr_W (gi a_1 0) first out_0_1 (fun a2_0_1 => ((0 : Int) ≤ 1 ∧ 1 ≤ (a_1.length : Int)) ∧ (K_1 (cut a_1 1 (a_1.length : Int)) b_2 a2_0_1))) ∧ (¬ ((cf_order (gi a_1 0) (gi b_2 0)) < 0) → (0 < (cf_order (gi a_1 0) (gi b_2 0)) → srcs_walk_1_api_Addr_W (gi b_2 0) second out_0_1 (fun a2_0_2 => ((0 : Int) ≤ 1 ∧ 1 ≤ (b_2.length : Int)) ∧ (K_1 a_1 (cut b_2 1 (b_2.length : Int)) a2_0_2))) ∧ (¬ (0 < (cf_order (gi a_1 0) (gi b_2 0))) → srcs_walk_1_api_Addr_W (gi a_1 0) both out_0_1 (fun a2_0_3 => ((0 : Int) ≤ 1 ∧ 1 ≤ (a_1.length : Int)) ∧ (((0 : Int) ≤ 1 ∧ 1 ≤ (b_2.length : Int)) ∧ (K_1 (cut a_1 1 (a_1.length : Int)) (cut b_2 1 (b_2.length : Int)) a2_0_3)))))))) ∧ (b_3 = false → loopW (fun (K_2 : (List T_api_Addr × Int) → Prop) (s : List T_api_Addr × Int) => srcs_walk_api_Addr_l2 first second Q a_1 b_2 (fun out_0_2 n_1 => K_2 (out_0_2, n_1)) s.1 s.2) (out_0_1, 0))
def srcs_walk_api_Addr_l1 (cf_order : T_api_Addr → T_api_Addr → Int) (first : Bool) (both : Bool) (second : Bool) (Q : (List T_api_Addr) → Prop) (K_1 : (List T_api_Addr) → (List T_api_Addr) → (List T_api_Addr) → Prop) (a_1 : List T_api_Addr) (b_2 : List T_api_Addr) (out_0_1 : List T_api_Addr) : Prop :=
  (0 < (a_1.length : Int) → srcs_walk_api_Addr_j1 cf_order first both second Q a_1 b_2 out_0_1 K_1 (decide (0 < (b_2.length : Int)))) ∧ (¬ (0 < (a_1.length : Int)) → srcs_walk_api_Addr_j1 cf_order first both second Q a_1 b_2 out_0_1 K_1 false)
def srcs_walk_api_Addr_W (a : List T_api_Addr) (b : List T_api_Addr) (cf_order : T_api_Addr → T_api_Addr → Int) (first : Bool) (both : Bool) (second : Bool) (Q : (List T_api_Addr) → Prop) : Prop :=
  loopW (fun (K_1 : (List T_api_Addr × List T_api_Addr × List T_api_Addr) → Prop) (s : List T_api_Addr × List T_api_Addr × List T_api_Addr) => srcs_walk_api_Addr_l1 cf_order first both second Q (fun a_1 b_2 out_0_1 => K_1 (a_1, b_2, out_0_1)) s.1 s.2.1 s.2.2) (a, b, [])
set_option maxHeartbeats 40000000 in
set_option maxRecDepth 100000 in
theorem srcs_walk_api_Addr_walk {F : Fz} {fr : List Ow} {h0 : Heap} (a : List T_api_Addr) (b : List T_api_Addr) (cf_order : T_api_Addr → T_api_Addr → Int) (first : Bool) (both : Bool) (second : Bool) (va : Value) (vb : Value) (g_order : Nat) (fs_order : Array Value) (cs_order : Array Value) (hS : St F (fr) h0) (hL_a : SliceF F h0 17 e_api_Addr va a) (hL_b : SliceF F h0 17 e_api_Addr vb b) (hF_cf_order : FnP Tryz.prog F h0 g_order fs_order cs_order (fun x : T_api_Addr × T_api_Addr => [.agg (e_api_Addr x.1).toArray, .agg (e_api_Addr x.2).toArray]) (fun x => .int .i64 (cf_order x.1 x.2))) {Q : (List T_api_Addr) → Prop} (hM : srcs_walk_api_Addr_W a b cf_order first both second Q) :
    HC Tryz.prog 77 #[va, vb, .func (.func g_order) fs_order cs_order, .bool first, .bool both, .bool second] h0 fun u h' => ∃ (F' : Fz) (r_1 : List T_api_Addr) (vr_1 : Value), u = vr_1 ∧ Kp F h0 F' h' ∧ St F' (Ow.own 44 17 e_api_Addr vr_1 r_1 :: fr) h' ∧ (SliceF F' h' 17 e_api_Addr va a) ∧ (SliceF F' h' 17 e_api_Addr vb b) ∧ (FnP Tryz.prog F' h' g_order fs_order cs_order (fun x : T_api_Addr × T_api_Addr => [.agg (e_api_Addr x.1).toArray, .agg (e_api_Addr x.2).toArray]) (fun x => .int .i64 (cf_order x.1 x.2))) ∧ Q r_1 := by
  unfold srcs_walk_api_Addr_W at hM
  have hK := Kp.refl F h0
  refine HC.of_HW (n := 92) Tryz.func77 rfl rfl (Nat.le_of_ble_eq_true rfl) ?_
  refine HW.seq ?_
  refine HW.region ?_
  refine HO.val (v := .slice none 0 0) (want_none) rfl (q_assign rfl) ?_
  refine HO.nil (thenQ_normal (?_))
  refine HW.seq ?_
  refine HW.region ?_
  refine HO.eff (want_none) rfl (st_alloc (c := #[.slice none 0 0]) hS tz_22 rfl) ?_
  rintro _ h_1 ⟨b_1, rfl, hS, hk⟩
  replace hK := hK.trans hk
  replace hL_a := hL_a.kp hk
  replace hL_b := hL_b.kp hk
  replace hF_cf_order := hF_cf_order.kp hk
  refine HO.nil (thenQ_normal (?_))
  refine HW.seq ?_
  refine HW.region ?_
  refine HO.val (v := .func (.func 108) #[] #[.pointer (some ⟨b_1, 0, none⟩)]) (want_none) rfl (q_makeFunc rfl rfl) ?_
  refine HO.val (v := .func (.func 108) #[] #[.pointer (some ⟨b_1, 0, none⟩)]) (want_none) rfl (q_assign rfl) ?_
  refine HO.nil (thenQ_normal (?_))
  refine HW.seq ?_
  refine HW.block ?_
  obtain ⟨I_1, m_1, hI_1, hR_1⟩ := hM
  replace hS := hS.nilOwn 44 17 e_api_Addr
  replace hS : St F (Ow.box b_1 22 #[.slice none 0 0] :: Ow.own 44 17 e_api_Addr (.slice none 0 0) ([] : List T_api_Addr) :: fr) h_1 := hS.perm2 [1, 0] 2 rfl rfl
  refine HW.loop (S := List T_api_Addr × List T_api_Addr × List T_api_Addr) (fun s f h => match s with | (a_1, b_2, out_0_1) => ∃ (F' : Fz) (va_1 : Value) (vb_1 : Value) (vout_0_1 : Value), f 0 = va_1 ∧ f 1 = vb_1 ∧ f 2 = .func (.func g_order) fs_order cs_order ∧ f 3 = .bool first ∧ f 4 = .bool both ∧ f 5 = .bool second ∧ f 12 = .slice none 0 0 ∧ f 13 = .pointer (some ⟨b_1, 0, none⟩) ∧ f 14 = .func (.func 108) #[] #[.pointer (some ⟨b_1, 0, none⟩)] ∧ Kp F h0 F' h ∧ St F' (Ow.box b_1 22 #[vout_0_1] :: Ow.own 44 17 e_api_Addr vout_0_1 out_0_1 :: fr) h ∧ (SliceF F' h 17 e_api_Addr va a) ∧ (SliceF F' h 17 e_api_Addr vb b) ∧ (FnP Tryz.prog F' h g_order fs_order cs_order (fun x : T_api_Addr × T_api_Addr => [.agg (e_api_Addr x.1).toArray, .agg (e_api_Addr x.2).toArray]) (fun x => .int .i64 (cf_order x.1 x.2))) ∧ (SliceF F' h 17 e_api_Addr va_1 a_1) ∧ (SliceF F' h 17 e_api_Addr vb_1 b_2) ∧ I_1 (a_1, b_2, out_0_1)) m_1 (a, b, []) ⟨F, va, vb, .slice none 0 0, rfl, rfl, rfl, rfl, rfl, rfl, rfl, rfl, rfl, hK, hS, hL_a, hL_b, hF_cf_order, hL_a, hL_b, hI_1⟩ ?_
  rintro ⟨a_1, b_2, out_0_1⟩ f_1 h_2 ⟨F_1, va_1, vb_1, vout_0_1, e0, e1, e2, e3, e4, e5, e12, e13, e14, hK, hS, hL_a, hL_b, hF_cf_order, hL_1, hL_2, hI0⟩
  obtain ⟨K_1, hKe_1⟩ : ∃ K : (List T_api_Addr) → (List T_api_Addr) → (List T_api_Addr) → Prop, K = fun a_1' b_2' out_0_1' => I_1 (a_1', b_2', out_0_1') ∧ m_1 (a_1', b_2', out_0_1') < m_1 (a_1, b_2, out_0_1) := ⟨_, rfl⟩
  have hM : srcs_walk_api_Addr_l1 cf_order first both second Q K_1 a_1 b_2 out_0_1 := by rw [hKe_1]; exact hR_1 (a_1, b_2, out_0_1) hI0
  unfold srcs_walk_api_Addr_l1 at hM
  refine HW.fr [(0, va_1), (1, vb_1), (2, .func (.func g_order) fs_order cs_order), (3, .bool first), (4, .bool both), (5, .bool second), (12, .slice none 0 0), (13, .pointer (some ⟨b_1, 0, none⟩)), (14, .func (.func 108) #[] #[.pointer (some ⟨b_1, 0, none⟩)])] ⟨e0, e1, e2, e3, e4, e5, e12, e13, e14, trivial⟩ ?_
  refine HW.seq ?_
  refine HW.seq_mid (fun f h => ∃ (F' : Fz) (b_3 : Bool), f 0 = va_1 ∧ f 1 = vb_1 ∧ f 2 = .func (.func g_order) fs_order cs_order ∧ f 3 = .bool first ∧ f 4 = .bool both ∧ f 5 = .bool second ∧ f 12 = .slice none 0 0 ∧ f 13 = .pointer (some ⟨b_1, 0, none⟩) ∧ f 14 = .func (.func 108) #[] #[.pointer (some ⟨b_1, 0, none⟩)] ∧ f 28 = .bool b_3 ∧ Kp F h0 F' h ∧ St F' (Ow.box b_1 22 #[vout_0_1] :: Ow.own 44 17 e_api_Addr vout_0_1 out_0_1 :: fr) h ∧ (SliceF F' h 17 e_api_Addr va a) ∧ (SliceF F' h 17 e_api_Addr vb b) ∧ (FnP Tryz.prog F' h g_order fs_order cs_order (fun x : T_api_Addr × T_api_Addr => [.agg (e_api_Addr x.1).toArray, .agg (e_api_Addr x.2).toArray]) (fun x => .int .i64 (cf_order x.1 x.2))) ∧ (SliceF F' h 17 e_api_Addr va_1 a_1) ∧ (SliceF F' h 17 e_api_Addr vb_1 b_2) ∧ srcs_walk_api_Addr_j1 cf_order first both second Q a_1 b_2 out_0_1 K_1 b_3) ?_ ?_
  · refine HW.region ?_
    refine HO.val (v := va_1) (want_none) rfl (q_move rfl) ?_
    refine HO.val (v := .int .i64 (a_1.length : Int)) (want_none) rfl (q_len ts_22 (shp hL_1.is) rfl rfl) ?_
    refine HO.val (v := .bool (decide (0 < (a_1.length : Int)))) (want_none) rfl (q_gtr rfl rfl) ?_
    refine HO.val (v := .bool (decide (0 < (a_1.length : Int)))) (want_none) rfl (q_move rfl) ?_
    rcases Bool.eq_false_or_eq_true (decide (0 < (a_1.length : Int))) with c_1 | c_1
    · replace hM := hM.1 (of_decide_eq_true c_1)
      refine HO.val (v := vb_1) (want_by rfl rfl c_1) rfl (q_move rfl) ?_
      refine HO.val (v := .int .i64 (b_2.length : Int)) (want_by rfl rfl c_1) rfl (q_len ts_22 (shp hL_2.is) rfl rfl) ?_
      refine HO.val (v := .bool (decide (0 < (b_2.length : Int)))) (want_by rfl rfl c_1) rfl (q_gtr rfl rfl) ?_
      refine HO.val (v := .bool (decide (0 < (b_2.length : Int)))) (want_none) rfl (q_pickK true rfl c_1 rfl) ?_
      refine HO.nil (thenQ_normal (?_))
      exact ⟨F_1, decide (0 < (b_2.length : Int)), rfl, rfl, rfl, rfl, rfl, rfl, rfl, rfl, rfl, rfl, hK, hS, hL_a, hL_b, hF_cf_order, hL_1, hL_2, hM⟩
    · replace hM := hM.2 (of_decide_eq_false c_1)
      refine HO.past (past_by rfl rfl c_1) rfl ?_
      refine HO.past (past_by rfl rfl c_1) rfl ?_
      refine HO.past (past_by rfl rfl c_1) rfl ?_
      refine HO.val (v := .bool false) (want_none) rfl (q_pickK false rfl c_1 rfl) ?_
      refine HO.nil (thenQ_normal (?_))
      exact ⟨F_1, false, rfl, rfl, rfl, rfl, rfl, rfl, rfl, rfl, rfl, rfl, hK, hS, hL_a, hL_b, hF_cf_order, hL_1, hL_2, hM⟩
  · rintro f_2 h_3 ⟨F_2, b_3, e0, e1, e2, e3, e4, e5, e12, e13, e14, e28, hK, hS, hL_a, hL_b, hF_cf_order, hL_1, hL_2, hM⟩
    unfold srcs_walk_api_Addr_j1 at hM
    refine HW.fr [(0, va_1), (1, vb_1), (2, .func (.func g_order) fs_order cs_order), (3, .bool first), (4, .bool both), (5, .bool second), (12, .slice none 0 0), (13, .pointer (some ⟨b_1, 0, none⟩)), (14, .func (.func 108) #[] #[.pointer (some ⟨b_1, 0, none⟩)]), (28, .bool b_3)] ⟨e0, e1, e2, e3, e4, e5, e12, e13, e14, e28, trivial⟩ ?_
    refine HW.cond b_3 rfl (fun c_2 => ?_) (fun c_2 => ?_)
    · replace hM := hM.1 c_2
      refine HW.skip (thenQ_normal (?_))
      refine HW.block ?_
      refine HW.seq ?_
      refine HW.regionA 9 mixed (fun h => (SliceIs h 17 e_api_Addr va_1 a_1) ∧ (SliceIs h 17 e_api_Addr vb_1 b_2)) [] (by kernel_rfl) ?_
      refine HA.val (k := 0) (v := .func (.func g_order) fs_order cs_order) rfl rfl (by kernel_rfl) (by kernel_rfl) (want_none) rfl (fun _ ⟨hL_1, hL_2⟩ => q_move rfl) ?_
      refine HA.val (k := 1) (v := va_1) rfl rfl (by kernel_rfl) (by kernel_rfl) (want_none) rfl (fun _ ⟨hL_1, hL_2⟩ => q_move rfl) ?_
      obtain ⟨ho_1, hM⟩ := hM
      refine HA.val (k := 2) (v := elemPtr 17 va_1 (0 : Int).toNat) rfl rfl (by kernel_rfl) (by kernel_rfl) (want_none) rfl (fun _ ⟨hL_1, hL_2⟩ => q_idx ts_22 hL_1 rfl rfl ho_1) ?_
      refine HA.val (k := 3) (v := .agg (e_api_Addr (gi a_1 0)).toArray) rfl rfl (by kernel_rfl) (by kernel_rfl) (want_none) rfl (fun _ ⟨hL_1, hL_2⟩ => q_ldElemAgg (cs := (e_api_Addr (gi a_1 0))) ta_44 hL_1 rfl ho_1 rfl) ?_
      refine HA.val (k := 4) (v := vb_1) rfl rfl (by kernel_rfl) (by kernel_rfl) (want_none) rfl (fun _ ⟨hL_1, hL_2⟩ => q_move rfl) ?_
      obtain ⟨ho_2, hM⟩ := hM
      refine HA.val (k := 5) (v := elemPtr 17 vb_1 (0 : Int).toNat) rfl rfl (by kernel_rfl) (by kernel_rfl) (want_none) rfl (fun _ ⟨hL_1, hL_2⟩ => q_idx ts_22 hL_2 rfl rfl ho_2) ?_
      refine HA.val (k := 6) (v := .agg (e_api_Addr (gi b_2 0)).toArray) rfl rfl (by kernel_rfl) (by kernel_rfl) (want_none) rfl (fun _ ⟨hL_1, hL_2⟩ => q_ldElemAgg (cs := (e_api_Addr (gi b_2 0))) ta_44 hL_2 rfl ho_2 rfl) ?_
      refine HA.one (k := 7) ⟨⟨hL_1.is, hL_2.is⟩, (Go.Wk.at_nil _ _)⟩ (by kernel_rfl) ?_
      refine HS.call rfl (want_none) rfl (hF_cf_order.ec ((gi a_1 0), (gi b_2 0)) rfl rfl) (hF_cf_order.hc ((gi a_1 0), (gi b_2 0)) hS) ?_
      rintro _ h_4 ⟨rfl, hS, hk⟩
      replace hK := hK.trans hk
      replace hL_a := hL_a.kp hk
      replace hL_b := hL_b.kp hk
      replace hF_cf_order := hF_cf_order.kp hk
      replace hL_1 := hL_1.kp hk
      replace hL_2 := hL_2.kp hk
      refine HA.val (k := 8) (v := .int .i64 (cf_order (gi a_1 0) (gi b_2 0))) rfl rfl (by kernel_rfl) (by kernel_rfl) (want_none) rfl (fun _ ⟨hL_1, hL_2⟩ => q_assign rfl) ?_
      refine HA.nil ⟨⟨hL_1.is, hL_2.is⟩, (Go.Wk.at_nil _ _)⟩ (by kernel_rfl) (thenQ_normal (?_))
      refine HW.block ?_
      refine HW.seq ?_
      refine HW.region ?_
      refine HO.val (v := .int .i64 (cf_order (gi a_1 0) (gi b_2 0))) (want_none) rfl (q_move rfl) ?_
      refine HO.val (v := .bool (decide ((cf_order (gi a_1 0) (gi b_2 0)) < 0))) (want_none) rfl (q_lss rfl rfl) ?_
      refine HO.val (v := .bool (decide ((cf_order (gi a_1 0) (gi b_2 0)) < 0))) (want_none) rfl (q_assign rfl) ?_
      refine HO.nil (thenQ_normal (?_))
      refine HW.cond (decide ((cf_order (gi a_1 0) (gi b_2 0)) < 0)) rfl (fun c_3 => ?_) (fun c_3 => ?_)
      · replace hM := hM.1 (of_decide_eq_true c_3)
        refine HW.seq ?_
        refine HW.region ?_
        refine HO.val (v := .func (.func 108) #[] #[.pointer (some ⟨b_1, 0, none⟩)]) (want_none) rfl (q_move rfl) ?_
        refine HO.val (v := va_1) (want_none) rfl (q_move rfl) ?_
        refine HO.val (v := elemPtr 17 va_1 (0 : Int).toNat) (want_none) rfl (q_idx ts_22 hL_1.is rfl rfl ho_1) ?_
        refine HO.val (v := .agg (e_api_Addr (gi a_1 0)).toArray) (want_none) rfl (q_ldElemAgg (cs := (e_api_Addr (gi a_1 0))) ta_44 hL_1.is rfl ho_1 rfl) ?_
        refine HO.val (v := .bool first) (want_none) rfl (q_move rfl) ?_
        refine HO.call (want_none) rfl (ec en_108 rfl rfl) (srcs_walk_1_api_Addr_walk (fr := (fr)) (gi a_1 0) first out_0_1 b_1 vout_0_1 hS hM) ?_
        rintro _ h_5 ⟨F_3, a2_0_1, v_1, rfl, hk, hS, hM⟩
        replace hK := hK.trans hk
        replace hL_a := hL_a.kp hk
        replace hL_b := hL_b.kp hk
        replace hF_cf_order := hF_cf_order.kp hk
        replace hL_1 := hL_1.kp hk
        replace hL_2 := hL_2.kp hk
        refine HO.nil (thenQ_normal (?_))
        refine HW.region ?_
        refine HO.val (v := va_1) (want_none) rfl (q_move rfl) ?_
        obtain ⟨ho_3, hM⟩ := hM
        refine HO.val (v := cutV 17 va_1 (1 : Int).toNat ((a_1.length : Int)).toNat) (want_none) rfl (q_slL ts_22 hL_1.is rfl rfl ho_3) ?_
        refine HO.val (v := cutV 17 va_1 (1 : Int).toNat ((a_1.length : Int)).toNat) (want_none) rfl (q_assign rfl) ?_
        refine HO.nil (blockQ_normal (blockQ_normal (thenQ_normal (?_))))
        rw [hKe_1] at hM
        exact ⟨(cut a_1 1 (a_1.length : Int), b_2, a2_0_1), ⟨F_3, cutV 17 va_1 (1 : Int).toNat ((a_1.length : Int)).toNat, vb_1, v_1, rfl, rfl, rfl, rfl, rfl, rfl, rfl, rfl, rfl, hK, hS, hL_a, hL_b, hF_cf_order, (cutF hL_1 1 (a_1.length : Int) ho_3.1 ho_3.2 (Int.le_refl _)), hL_2, hM.1⟩, hM.2⟩
      · replace hM := hM.2 (of_decide_eq_false c_3)
        refine HW.seq ?_
        refine HW.region ?_
        refine HO.val (v := .int .i64 (cf_order (gi a_1 0) (gi b_2 0))) (want_none) rfl (q_move rfl) ?_
        refine HO.val (v := .bool (decide (0 < (cf_order (gi a_1 0) (gi b_2 0))))) (want_none) rfl (q_gtr rfl rfl) ?_
        refine HO.val (v := .bool (decide (0 < (cf_order (gi a_1 0) (gi b_2 0))))) (want_none) rfl (q_assign rfl) ?_
        refine HO.nil (thenQ_normal (?_))
        refine HW.cond (decide (0 < (cf_order (gi a_1 0) (gi b_2 0)))) rfl (fun c_4 => ?_) (fun c_4 => ?_)
        · replace hM := hM.1 (of_decide_eq_true c_4)
          refine HW.seq ?_
          refine HW.region ?_
          refine HO.val (v := .func (.func 108) #[] #[.pointer (some ⟨b_1, 0, none⟩)]) (want_none) rfl (q_move rfl) ?_
          refine HO.val (v := vb_1) (want_none) rfl (q_move rfl) ?_
          refine HO.val (v := elemPtr 17 vb_1 (0 : Int).toNat) (want_none) rfl (q_idx ts_22 hL_2.is rfl rfl ho_2) ?_
          refine HO.val (v := .agg (e_api_Addr (gi b_2 0)).toArray) (want_none) rfl (q_ldElemAgg (cs := (e_api_Addr (gi b_2 0))) ta_44 hL_2.is rfl ho_2 rfl) ?_
          refine HO.val (v := .bool second) (want_none) rfl (q_move rfl) ?_
          refine HO.call (want_none) rfl (ec en_108 rfl rfl) (srcs_walk_1_api_Addr_walk (fr := (fr)) (gi b_2 0) second out_0_1 b_1 vout_0_1 hS hM) ?_
          rintro _ h_6 ⟨F_4, a2_0_2, v_2, rfl, hk, hS, hM⟩
          replace hK := hK.trans hk
          replace hL_a := hL_a.kp hk
          replace hL_b := hL_b.kp hk
          replace hF_cf_order := hF_cf_order.kp hk
          replace hL_1 := hL_1.kp hk
          replace hL_2 := hL_2.kp hk
          refine HO.nil (thenQ_normal (?_))
          refine HW.region ?_
          refine HO.val (v := vb_1) (want_none) rfl (q_move rfl) ?_
          obtain ⟨ho_4, hM⟩ := hM
          refine HO.val (v := cutV 17 vb_1 (1 : Int).toNat ((b_2.length : Int)).toNat) (want_none) rfl (q_slL ts_22 hL_2.is rfl rfl ho_4) ?_
          refine HO.val (v := cutV 17 vb_1 (1 : Int).toNat ((b_2.length : Int)).toNat) (want_none) rfl (q_assign rfl) ?_
          refine HO.nil (blockQ_normal (blockQ_normal (thenQ_normal (?_))))
          rw [hKe_1] at hM
          exact ⟨(a_1, cut b_2 1 (b_2.length : Int), a2_0_2), ⟨F_4, va_1, cutV 17 vb_1 (1 : Int).toNat ((b_2.length : Int)).toNat, v_2, rfl, rfl, rfl, rfl, rfl, rfl, rfl, rfl, rfl, hK, hS, hL_a, hL_b, hF_cf_order, hL_1, (cutF hL_2 1 (b_2.length : Int) ho_4.1 ho_4.2 (Int.le_refl _)), hM.1⟩, hM.2⟩
        · replace hM := hM.2 (of_decide_eq_false c_4)
          refine HW.seq ?_
          refine HW.region ?_
          refine HO.val (v := .func (.func 108) #[] #[.pointer (some ⟨b_1, 0, none⟩)]) (want_none) rfl (q_move rfl) ?_
          refine HO.val (v := va_1) (want_none) rfl (q_move rfl) ?_
          refine HO.val (v := elemPtr 17 va_1 (0 : Int).toNat) (want_none) rfl (q_idx ts_22 hL_1.is rfl rfl ho_1) ?_
          refine HO.val (v := .agg (e_api_Addr (gi a_1 0)).toArray) (want_none) rfl (q_ldElemAgg (cs := (e_api_Addr (gi a_1 0))) ta_44 hL_1.is rfl ho_1 rfl) ?_
          refine HO.val (v := .bool both) (want_none) rfl (q_move rfl) ?_
          refine HO.call (want_none) rfl (ec en_108 rfl rfl) (srcs_walk_1_api_Addr_walk (fr := (fr)) (gi a_1 0) both out_0_1 b_1 vout_0_1 hS hM) ?_
          rintro _ h_7 ⟨F_5, a2_0_3, v_3, rfl, hk, hS, hM⟩
          replace hK := hK.trans hk
          replace hL_a := hL_a.kp hk
          replace hL_b := hL_b.kp hk
          replace hF_cf_order := hF_cf_order.kp hk
          replace hL_1 := hL_1.kp hk
          replace hL_2 := hL_2.kp hk
          refine HO.nil (thenQ_normal (?_))
          refine HW.regionA 6 mixed (fun h => (SliceIs h 17 e_api_Addr va a) ∧ (SliceIs h 17 e_api_Addr vb b) ∧ (True) ∧ (SliceIs h 17 e_api_Addr va_1 a_1) ∧ (SliceIs h 17 e_api_Addr vb_1 b_2) ∧ (Blk h b_1 (.cells #[v_3] 22 (0, 0))) ∧ (OwnIs h 0 44 17 e_api_Addr v_3 a2_0_3)) [] (by kernel_rfl) ?_
          refine HA.val (k := 0) (v := va_1) rfl rfl (by kernel_rfl) (by kernel_rfl) (want_none) rfl (fun _ ⟨hL_a, hL_b, hF_cf_order, hL_1, hL_2, c356, c357⟩ => q_move rfl) ?_
          obtain ⟨ho_5, hM⟩ := hM
          refine HA.val (k := 1) (v := cutV 17 va_1 (1 : Int).toNat ((a_1.length : Int)).toNat) rfl rfl (by kernel_rfl) (by kernel_rfl) (want_none) rfl (fun _ ⟨hL_a, hL_b, hF_cf_order, hL_1, hL_2, c356, c357⟩ => q_slL ts_22 hL_1 rfl rfl ho_5) ?_
          refine HA.val (k := 2) (v := vb_1) rfl rfl (by kernel_rfl) (by kernel_rfl) (want_none) rfl (fun _ ⟨hL_a, hL_b, hF_cf_order, hL_1, hL_2, c356, c357⟩ => q_move rfl) ?_
          obtain ⟨ho_6, hM⟩ := hM
          refine HA.val (k := 3) (v := cutV 17 vb_1 (1 : Int).toNat ((b_2.length : Int)).toNat) rfl rfl (by kernel_rfl) (by kernel_rfl) (want_none) rfl (fun _ ⟨hL_a, hL_b, hF_cf_order, hL_1, hL_2, c356, c357⟩ => q_slL ts_22 hL_2 rfl rfl ho_6) ?_
          refine HA.val (k := 4) (v := cutV 17 va_1 (1 : Int).toNat ((a_1.length : Int)).toNat) rfl rfl (by kernel_rfl) (by kernel_rfl) (want_none) rfl (fun _ ⟨hL_a, hL_b, hF_cf_order, hL_1, hL_2, c356, c357⟩ => q_assign rfl) ?_
          refine HA.val (k := 5) (v := cutV 17 vb_1 (1 : Int).toNat ((b_2.length : Int)).toNat) rfl rfl (by kernel_rfl) (by kernel_rfl) (want_none) rfl (fun _ ⟨hL_a, hL_b, hF_cf_order, hL_1, hL_2, c356, c357⟩ => q_assign rfl) ?_
          refine HA.nil ⟨⟨hL_a.is, hL_b.is, trivial, hL_1.is, hL_2.is, (hS.box 0 rfl), (hS.own 1 rfl)⟩, (Go.Wk.at_nil _ _)⟩ (by kernel_rfl) (blockQ_normal (blockQ_normal (thenQ_normal (?_))))
          rw [hKe_1] at hM
          exact ⟨(cut a_1 1 (a_1.length : Int), cut b_2 1 (b_2.length : Int), a2_0_3), ⟨F_5, cutV 17 va_1 (1 : Int).toNat ((a_1.length : Int)).toNat, cutV 17 vb_1 (1 : Int).toNat ((b_2.length : Int)).toNat, v_3, rfl, rfl, rfl, rfl, rfl, rfl, rfl, rfl, rfl, hK, hS, hL_a, hL_b, hF_cf_order, (cutF hL_1 1 (a_1.length : Int) ho_5.1 ho_5.2 (Int.le_refl _)), (cutF hL_2 1 (b_2.length : Int) ho_6.1 ho_6.2 (Int.le_refl _)), hM.1⟩, hM.2⟩
    · replace hM := hM.2 c_2
      refine HW.exit (thenQ_exit (thenQ_exit (blockQ_exit (thenQ_normal (?_)))))
      refine HW.seq ?_
      refine HW.seq ?_
      refine HW.region ?_
      refine HO.val (v := va_1) (want_none) rfl (q_move rfl) ?_
      refine HO.val (v := .int .i64 (a_1.length : Int)) (want_none) rfl (q_len ts_22 (shp hL_1.is) rfl rfl) ?_
      refine HO.val (v := .int .i64 0) (want_none) rfl (q_move rfl) ?_
      refine HO.nil (thenQ_normal (?_))
      refine HW.block ?_
      obtain ⟨I_2, m_2, hI_2, hR_2⟩ := hM
      refine HW.loop (S := List T_api_Addr × Int) (fun s f h => match s with | (out_0_2, n_1) => ∃ (F' : Fz) (vout_0_2 : Value), f 1 = vb_1 ∧ f 3 = .bool first ∧ f 5 = .bool second ∧ f 12 = .slice none 0 0 ∧ f 13 = .pointer (some ⟨b_1, 0, none⟩) ∧ f 14 = .func (.func 108) #[] #[.pointer (some ⟨b_1, 0, none⟩)] ∧ f 69 = va_1 ∧ f 70 = .int .i64 (a_1.length : Int) ∧ f 71 = .int .i64 n_1 ∧ Kp F h0 F' h ∧ St F' (Ow.box b_1 22 #[vout_0_2] :: Ow.own 44 17 e_api_Addr vout_0_2 out_0_2 :: fr) h ∧ (SliceF F' h 17 e_api_Addr va a) ∧ (SliceF F' h 17 e_api_Addr vb b) ∧ (FnP Tryz.prog F' h g_order fs_order cs_order (fun x : T_api_Addr × T_api_Addr => [.agg (e_api_Addr x.1).toArray, .agg (e_api_Addr x.2).toArray]) (fun x => .int .i64 (cf_order x.1 x.2))) ∧ (SliceF F' h 17 e_api_Addr va_1 a_1) ∧ (SliceF F' h 17 e_api_Addr vb_1 b_2) ∧ I_2 (out_0_2, n_1)) m_2 (out_0_1, 0) ⟨F_2, vout_0_1, rfl, rfl, rfl, rfl, rfl, rfl, rfl, rfl, rfl, hK, hS, hL_a, hL_b, hF_cf_order, hL_1, hL_2, hI_2⟩ ?_
      rintro ⟨out_0_2, n_1⟩ f_3 h_8 ⟨F_6, vout_0_2, e1, e3, e5, e12, e13, e14, e69, e70, e71, hK, hS, hL_a, hL_b, hF_cf_order, hL_1, hL_2, hI0⟩
      obtain ⟨K_2, hKe_2⟩ : ∃ K : (List T_api_Addr) → Int → Prop, K = fun out_0_2' n_1' => I_2 (out_0_2', n_1') ∧ m_2 (out_0_2', n_1') < m_2 (out_0_2, n_1) := ⟨_, rfl⟩
      have hM : srcs_walk_api_Addr_l2 first second Q a_1 b_2 K_2 out_0_2 n_1 := by rw [hKe_2]; exact hR_2 (out_0_2, n_1) hI0
      unfold srcs_walk_api_Addr_l2 at hM
      refine HW.fr [(1, vb_1), (3, .bool first), (5, .bool second), (12, .slice none 0 0), (13, .pointer (some ⟨b_1, 0, none⟩)), (14, .func (.func 108) #[] #[.pointer (some ⟨b_1, 0, none⟩)]), (69, va_1), (70, .int .i64 (a_1.length : Int)), (71, .int .i64 n_1)] ⟨e1, e3, e5, e12, e13, e14, e69, e70, e71, trivial⟩ ?_
      refine HW.seq ?_
      refine HW.region ?_
      refine HO.val (v := .bool (decide (n_1 < (a_1.length : Int)))) (want_none) rfl (q_lss rfl rfl) ?_
      refine HO.nil (thenQ_normal (?_))
      refine HW.seq ?_
      refine HW.cond (decide (n_1 < (a_1.length : Int))) rfl (fun c_5 => ?_) (fun c_5 => ?_)
      · replace hM := hM.1 (of_decide_eq_true c_5)
        refine HW.skip (thenQ_normal (?_))
        refine HW.seq ?_
        refine HW.block ?_
        refine HW.seq ?_
        refine HW.region ?_
        obtain ⟨ho_7, hM⟩ := hM
        refine HO.val (v := elemPtr 17 va_1 (n_1).toNat) (want_none) rfl (q_idx ts_22 hL_1.is rfl rfl ho_7) ?_
        refine HO.val (v := .agg (e_api_Addr (gi a_1 n_1)).toArray) (want_none) rfl (q_ldElemAgg (cs := (e_api_Addr (gi a_1 n_1))) ta_44 hL_1.is rfl ho_7 rfl) ?_
        refine HO.eff (want_none) rfl (st_alloc (c := (e_api_Addr (false, (default : Ba 16))).toArray) hS tz_44 rfl) ?_
        rintro _ h_9 ⟨b_4, rfl, hS, hk⟩
        replace hK := hK.trans hk
        replace hL_a := hL_a.kp hk
        replace hL_b := hL_b.kp hk
        replace hF_cf_order := hF_cf_order.kp hk
        replace hL_1 := hL_1.kp hk
        replace hL_2 := hL_2.kp hk
        refine HO.sto (want_none) rfl (st_storeAgg (c' := (e_api_Addr (gi a_1 n_1)).toArray) hS (i := 0) rfl ta_44 rfl rfl rfl (one_e_api_Addr _) (Nat.le_of_ble_eq_true rfl) rfl) ?_
        rintro h_10 ⟨hS, hk⟩
        replace hS : St F_6 (Ow.box b_4 44 (e_api_Addr (gi a_1 n_1)).toArray :: Ow.box b_1 22 #[vout_0_2] :: Ow.own 44 17 e_api_Addr vout_0_2 out_0_2 :: fr) h_10 := hS
        replace hK := hK.trans hk
        replace hL_a := hL_a.kp hk
        replace hL_b := hL_b.kp hk
        replace hF_cf_order := hF_cf_order.kp hk
        replace hL_1 := hL_1.kp hk
        replace hL_2 := hL_2.kp hk
        refine HO.nil (thenQ_normal (?_))
        refine HW.region ?_
        refine HO.val (v := .func (.func 108) #[] #[.pointer (some ⟨b_1, 0, none⟩)]) (want_none) rfl (q_move rfl) ?_
        refine HO.val (v := .agg (e_api_Addr (gi a_1 n_1)).toArray) (want_none) rfl (q_loadAgg (cs := (e_api_Addr (gi a_1 n_1))) ta_44 rfl rfl (Blk.cells (k := 17) (hS.box 0 rfl) rfl)) ?_
        refine HO.val (v := .bool first) (want_none) rfl (q_move rfl) ?_
        replace hS : St F_6 (Ow.box b_1 22 #[vout_0_2] :: Ow.own 44 17 e_api_Addr vout_0_2 out_0_2 :: Ow.box b_4 44 (e_api_Addr (gi a_1 n_1)).toArray :: fr) h_10 := hS.perm2 [1, 2, 0] 3 rfl rfl
        refine HO.call (want_none) rfl (ec en_108 rfl rfl) (srcs_walk_1_api_Addr_walk (fr := (Ow.box b_4 44 (e_api_Addr (gi a_1 n_1)).toArray :: fr)) (gi a_1 n_1) first out_0_2 b_1 vout_0_2 hS hM) ?_
        rintro _ h_11 ⟨F_7, a2_0_4, v_4, rfl, hk, hS, hM⟩
        replace hK := hK.trans hk
        replace hL_a := hL_a.kp hk
        replace hL_b := hL_b.kp hk
        replace hF_cf_order := hF_cf_order.kp hk
        replace hL_1 := hL_1.kp hk
        replace hL_2 := hL_2.kp hk
        refine HO.nil (blockQ_normal (thenQ_normal (?_)))
        refine HW.region ?_
        obtain ⟨ho_8, hM⟩ := hM
        refine HO.val (v := .int .i64 (n_1 + 1)) (want_none) rfl (q_addN _ rfl rfl rfl ho_8.1 ho_8.2) ?_
        refine HO.val (v := .int .i64 (n_1 + 1)) (want_none) rfl (q_move rfl) ?_
        refine HO.nil (thenQ_normal (?_))
        replace hS : St F_7 (Ow.box b_1 22 #[v_4] :: Ow.own 44 17 e_api_Addr v_4 a2_0_4 :: fr) h_11 := hS.perm2 [0, 1] 3 rfl rfl
        rw [hKe_2] at hM
        exact ⟨(a2_0_4, n_1 + 1), ⟨F_7, v_4, rfl, rfl, rfl, rfl, rfl, rfl, rfl, rfl, rfl, hK, hS, hL_a, hL_b, hF_cf_order, hL_1, hL_2, hM.1⟩, hM.2⟩
      · replace hM := hM.2 (of_decide_eq_false c_5)
        refine HW.exit (thenQ_exit (thenQ_exit (blockQ_exit (thenQ_normal (?_)))))
        refine HW.seq ?_
        refine HW.seq ?_
        refine HW.region ?_
        refine HO.val (v := vb_1) (want_none) rfl (q_move rfl) ?_
        refine HO.val (v := .int .i64 (b_2.length : Int)) (want_none) rfl (q_len ts_22 (shp hL_2.is) rfl rfl) ?_
        refine HO.val (v := .int .i64 0) (want_none) rfl (q_move rfl) ?_
        refine HO.nil (thenQ_normal (?_))
        refine HW.block ?_
        obtain ⟨I_3, m_3, hI_3, hR_3⟩ := hM
        refine HW.loop (S := List T_api_Addr × Int) (fun s f h => match s with | (out_0_3, n_2) => ∃ (F' : Fz) (vout_0_3 : Value), f 5 = .bool second ∧ f 12 = .slice none 0 0 ∧ f 13 = .pointer (some ⟨b_1, 0, none⟩) ∧ f 14 = .func (.func 108) #[] #[.pointer (some ⟨b_1, 0, none⟩)] ∧ f 80 = vb_1 ∧ f 81 = .int .i64 (b_2.length : Int) ∧ f 82 = .int .i64 n_2 ∧ Kp F h0 F' h ∧ St F' (Ow.box b_1 22 #[vout_0_3] :: Ow.own 44 17 e_api_Addr vout_0_3 out_0_3 :: fr) h ∧ (SliceF F' h 17 e_api_Addr va a) ∧ (SliceF F' h 17 e_api_Addr vb b) ∧ (FnP Tryz.prog F' h g_order fs_order cs_order (fun x : T_api_Addr × T_api_Addr => [.agg (e_api_Addr x.1).toArray, .agg (e_api_Addr x.2).toArray]) (fun x => .int .i64 (cf_order x.1 x.2))) ∧ (SliceF F' h 17 e_api_Addr va_1 a_1) ∧ (SliceF F' h 17 e_api_Addr vb_1 b_2) ∧ I_3 (out_0_3, n_2)) m_3 (out_0_2, 0) ⟨F_6, vout_0_2, rfl, rfl, rfl, rfl, rfl, rfl, rfl, hK, hS, hL_a, hL_b, hF_cf_order, hL_1, hL_2, hI_3⟩ ?_
        rintro ⟨out_0_3, n_2⟩ f_4 h_12 ⟨F_8, vout_0_3, e5, e12, e13, e14, e80, e81, e82, hK, hS, hL_a, hL_b, hF_cf_order, hL_1, hL_2, hI0⟩
        obtain ⟨K_3, hKe_3⟩ : ∃ K : (List T_api_Addr) → Int → Prop, K = fun out_0_3' n_2' => I_3 (out_0_3', n_2') ∧ m_3 (out_0_3', n_2') < m_3 (out_0_3, n_2) := ⟨_, rfl⟩
        have hM : srcs_walk_api_Addr_l3 second Q b_2 K_3 out_0_3 n_2 := by rw [hKe_3]; exact hR_3 (out_0_3, n_2) hI0
        unfold srcs_walk_api_Addr_l3 at hM
        refine HW.fr [(5, .bool second), (12, .slice none 0 0), (13, .pointer (some ⟨b_1, 0, none⟩)), (14, .func (.func 108) #[] #[.pointer (some ⟨b_1, 0, none⟩)]), (80, vb_1), (81, .int .i64 (b_2.length : Int)), (82, .int .i64 n_2)] ⟨e5, e12, e13, e14, e80, e81, e82, trivial⟩ ?_
        refine HW.seq ?_
        refine HW.region ?_
        refine HO.val (v := .bool (decide (n_2 < (b_2.length : Int)))) (want_none) rfl (q_lss rfl rfl) ?_
        refine HO.nil (thenQ_normal (?_))
        refine HW.seq ?_
        refine HW.cond (decide (n_2 < (b_2.length : Int))) rfl (fun c_6 => ?_) (fun c_6 => ?_)
        · replace hM := hM.1 (of_decide_eq_true c_6)
          refine HW.skip (thenQ_normal (?_))
          refine HW.seq ?_
          refine HW.block ?_
          refine HW.seq ?_
          refine HW.region ?_
          obtain ⟨ho_9, hM⟩ := hM
          refine HO.val (v := elemPtr 17 vb_1 (n_2).toNat) (want_none) rfl (q_idx ts_22 hL_2.is rfl rfl ho_9) ?_
          refine HO.val (v := .agg (e_api_Addr (gi b_2 n_2)).toArray) (want_none) rfl (q_ldElemAgg (cs := (e_api_Addr (gi b_2 n_2))) ta_44 hL_2.is rfl ho_9 rfl) ?_
          refine HO.eff (want_none) rfl (st_alloc (c := (e_api_Addr (false, (default : Ba 16))).toArray) hS tz_44 rfl) ?_
          rintro _ h_13 ⟨b_5, rfl, hS, hk⟩
          replace hK := hK.trans hk
          replace hL_a := hL_a.kp hk
          replace hL_b := hL_b.kp hk
          replace hF_cf_order := hF_cf_order.kp hk
          replace hL_1 := hL_1.kp hk
          replace hL_2 := hL_2.kp hk
          refine HO.sto (want_none) rfl (st_storeAgg (c' := (e_api_Addr (gi b_2 n_2)).toArray) hS (i := 0) rfl ta_44 rfl rfl rfl (one_e_api_Addr _) (Nat.le_of_ble_eq_true rfl) rfl) ?_
          rintro h_14 ⟨hS, hk⟩
          replace hS : St F_8 (Ow.box b_5 44 (e_api_Addr (gi b_2 n_2)).toArray :: Ow.box b_1 22 #[vout_0_3] :: Ow.own 44 17 e_api_Addr vout_0_3 out_0_3 :: fr) h_14 := hS
          replace hK := hK.trans hk
          replace hL_a := hL_a.kp hk
          replace hL_b := hL_b.kp hk
          replace hF_cf_order := hF_cf_order.kp hk
          replace hL_1 := hL_1.kp hk
          replace hL_2 := hL_2.kp hk
          refine HO.nil (thenQ_normal (?_))
          refine HW.region ?_
          refine HO.val (v := .func (.func 108) #[] #[.pointer (some ⟨b_1, 0, none⟩)]) (want_none) rfl (q_move rfl) ?_
          refine HO.val (v := .agg (e_api_Addr (gi b_2 n_2)).toArray) (want_none) rfl (q_loadAgg (cs := (e_api_Addr (gi b_2 n_2))) ta_44 rfl rfl (Blk.cells (k := 17) (hS.box 0 rfl) rfl)) ?_
          refine HO.val (v := .bool second) (want_none) rfl (q_move rfl) ?_
          replace hS : St F_8 (Ow.box b_1 22 #[vout_0_3] :: Ow.own 44 17 e_api_Addr vout_0_3 out_0_3 :: Ow.box b_5 44 (e_api_Addr (gi b_2 n_2)).toArray :: fr) h_14 := hS.perm2 [1, 2, 0] 3 rfl rfl
          refine HO.call (want_none) rfl (ec en_108 rfl rfl) (srcs_walk_1_api_Addr_walk (fr := (Ow.box b_5 44 (e_api_Addr (gi b_2 n_2)).toArray :: fr)) (gi b_2 n_2) second out_0_3 b_1 vout_0_3 hS hM) ?_
          rintro _ h_15 ⟨F_9, a2_0_5, v_5, rfl, hk, hS, hM⟩
          replace hK := hK.trans hk
          replace hL_a := hL_a.kp hk
          replace hL_b := hL_b.kp hk
          replace hF_cf_order := hF_cf_order.kp hk
          replace hL_1 := hL_1.kp hk
          replace hL_2 := hL_2.kp hk
          refine HO.nil (blockQ_normal (thenQ_normal (?_)))
          refine HW.region ?_
          obtain ⟨ho_10, hM⟩ := hM
          refine HO.val (v := .int .i64 (n_2 + 1)) (want_none) rfl (q_addN _ rfl rfl rfl ho_10.1 ho_10.2) ?_
          refine HO.val (v := .int .i64 (n_2 + 1)) (want_none) rfl (q_move rfl) ?_
          refine HO.nil (thenQ_normal (?_))
          replace hS : St F_9 (Ow.box b_1 22 #[v_5] :: Ow.own 44 17 e_api_Addr v_5 a2_0_5 :: fr) h_15 := hS.perm2 [0, 1] 3 rfl rfl
          rw [hKe_3] at hM
          exact ⟨(a2_0_5, n_2 + 1), ⟨F_9, v_5, rfl, rfl, rfl, rfl, rfl, rfl, rfl, hK, hS, hL_a, hL_b, hF_cf_order, hL_1, hL_2, hM.1⟩, hM.2⟩
        · replace hM := hM.2 (of_decide_eq_false c_6)
          refine HW.exit (thenQ_exit (thenQ_exit (blockQ_exit (thenQ_normal (?_)))))
          refine HW.seq ?_
          refine HW.region ?_
          refine HO.val (v := vout_0_3) (want_none) rfl (q_load to_22 rfl (Blk.cell (hS.box 0 rfl) rfl)) ?_
          refine HO.val (v := vout_0_3) (want_none) rfl (q_assign rfl) ?_
          refine HO.nil (thenQ_normal (?_))
          refine HW.ret (?_)
          refine ⟨.inr rfl, vout_0_3, res1 rfl (rt rfl), ?_⟩
          replace hS : St F_8 (Ow.own 44 17 e_api_Addr vout_0_3 out_0_3 :: fr) h_12 := hS.perm2 [1] 2 rfl rfl
          exact ⟨F_8, out_0_3, vout_0_3, rfl, hK, hS, hL_a, hL_b, hF_cf_order, hM⟩

def srcs_Or_W (a : List T_api_Addr) (b : List T_api_Addr) (Q : (List T_api_Addr) → Prop) : Prop :=
  ∃ cf_1 : T_api_Addr → T_api_Addr → Int, (∀ x0 x1, addr_Cmp_W x0 x1 (fun r => r = cf_1 x0 x1)) ∧ (srcs_walk_api_Addr_W a b cf_1 true true true (fun r_2 => Q r_2))
set_option maxHeartbeats 40000000 in
set_option maxRecDepth 100000 in
theorem srcs_Or_walk {F : Fz} {fr : List Ow} {h0 : Heap} (a : List T_api_Addr) (b : List T_api_Addr) (va : Value) (vb : Value) (hS : St F (fr) h0) (hL_a : SliceF F h0 17 e_api_Addr va a) (hL_b : SliceF F h0 17 e_api_Addr vb b) {Q : (List T_api_Addr) → Prop} (hM : srcs_Or_W a b Q) :
    HC Tryz.prog 55 #[va, vb] h0 fun u h' => ∃ (F' : Fz) (r_1 : List T_api_Addr) (vr_1 : Value), u = vr_1 ∧ Kp F h0 F' h' ∧ St F' (Ow.own 44 17 e_api_Addr vr_1 r_1 :: fr) h' ∧ (SliceF F' h' 17 e_api_Addr va a) ∧ (SliceF F' h' 17 e_api_Addr vb b) ∧ Q r_1 := by
  unfold srcs_Or_W at hM
  have hK := Kp.refl F h0
  refine HC.of_HW (n := 8) Tryz.func55 rfl rfl (Nat.le_of_ble_eq_true rfl) ?_
  refine HW.seq ?_
  refine HW.region ?_
  refine HO.val (v := .slice none 0 0) (want_none) rfl (q_assign rfl) ?_
  refine HO.nil (thenQ_normal (?_))
  refine HW.seq ?_
  refine HW.region ?_
  refine HO.val (v := va) (want_none) rfl (q_move rfl) ?_
  refine HO.val (v := vb) (want_none) rfl (q_move rfl) ?_
  obtain ⟨cf_1, hc_1, hM⟩ := hM
  have hF_1 : FnP Tryz.prog F h0 22 #[] #[] (fun x : T_api_Addr × T_api_Addr => [.agg (e_api_Addr x.1).toArray, .agg (e_api_Addr x.2).toArray]) (fun x => .int .i64 (cf_1 x.1 x.2)) := FnP.of en_22 (fun x h' hk_ => @HC.mono ⟨true⟩ _ _ _ _ _ _ (@addr_Cmp_walk ⟨true⟩ (allF h') [] h' x.1 x.2  (St.init h')  (fun r => r = cf_1 x.1 x.2) (hc_1 x.1 x.2)) (fun u h'' ⟨F', r, hu, k_, _, hr⟩ => ⟨by rw [hu, hr], F', k_⟩))
  refine HO.call (want_none) rfl (ec en_77 rfl rfl) (srcs_walk_api_Addr_walk (fr := (fr)) a b cf_1 true true true va vb 22 (#[]) (#[]) hS hL_a hL_b hF_1 hM) ?_
  rintro vr_2 h_1 ⟨F_1, r_2, _, rfl, hk, hS, _, _, _, hM⟩
  replace hK := hK.trans hk
  replace hL_a := hL_a.kp hk
  replace hL_b := hL_b.kp hk
  refine HO.val (v := vr_2) (want_none) rfl (q_assign rfl) ?_
  refine HO.nil (thenQ_normal (?_))
  refine HW.ret (?_)
  refine ⟨.inr rfl, vr_2, res1 rfl (rt rfl), ?_⟩
  exact ⟨F_1, r_2, vr_2, rfl, hK, hS, hL_a, hL_b, hM⟩

def srcs_And_W (a : List T_api_Addr) (b : List T_api_Addr) (Q : (List T_api_Addr) → Prop) : Prop :=
  ∃ cf_1 : T_api_Addr → T_api_Addr → Int, (∀ x0 x1, addr_Cmp_W x0 x1 (fun r => r = cf_1 x0 x1)) ∧ (srcs_walk_api_Addr_W a b cf_1 false true false (fun r_2 => Q r_2))
set_option maxHeartbeats 40000000 in
set_option maxRecDepth 100000 in
theorem srcs_And_walk {F : Fz} {fr : List Ow} {h0 : Heap} (a : List T_api_Addr) (b : List T_api_Addr) (va : Value) (vb : Value) (hS : St F (fr) h0) (hL_a : SliceF F h0 17 e_api_Addr va a) (hL_b : SliceF F h0 17 e_api_Addr vb b) {Q : (List T_api_Addr) → Prop} (hM : srcs_And_W a b Q) :
    HC Tryz.prog 56 #[va, vb] h0 fun u h' => ∃ (F' : Fz) (r_1 : List T_api_Addr) (vr_1 : Value), u = vr_1 ∧ Kp F h0 F' h' ∧ St F' (Ow.own 44 17 e_api_Addr vr_1 r_1 :: fr) h' ∧ (SliceF F' h' 17 e_api_Addr va a) ∧ (SliceF F' h' 17 e_api_Addr vb b) ∧ Q r_1 := by
  unfold srcs_And_W at hM
  have hK := Kp.refl F h0
  refine HC.of_HW (n := 8) Tryz.func56 rfl rfl (Nat.le_of_ble_eq_true rfl) ?_
  refine HW.seq ?_
  refine HW.region ?_
  refine HO.val (v := .slice none 0 0) (want_none) rfl (q_assign rfl) ?_
  refine HO.nil (thenQ_normal (?_))
  refine HW.seq ?_
  refine HW.region ?_
  refine HO.val (v := va) (want_none) rfl (q_move rfl) ?_
  refine HO.val (v := vb) (want_none) rfl (q_move rfl) ?_
  obtain ⟨cf_1, hc_1, hM⟩ := hM
  have hF_1 : FnP Tryz.prog F h0 22 #[] #[] (fun x : T_api_Addr × T_api_Addr => [.agg (e_api_Addr x.1).toArray, .agg (e_api_Addr x.2).toArray]) (fun x => .int .i64 (cf_1 x.1 x.2)) := FnP.of en_22 (fun x h' hk_ => @HC.mono ⟨true⟩ _ _ _ _ _ _ (@addr_Cmp_walk ⟨true⟩ (allF h') [] h' x.1 x.2  (St.init h')  (fun r => r = cf_1 x.1 x.2) (hc_1 x.1 x.2)) (fun u h'' ⟨F', r, hu, k_, _, hr⟩ => ⟨by rw [hu, hr], F', k_⟩))
  refine HO.call (want_none) rfl (ec en_77 rfl rfl) (srcs_walk_api_Addr_walk (fr := (fr)) a b cf_1 false true false va vb 22 (#[]) (#[]) hS hL_a hL_b hF_1 hM) ?_
  rintro vr_2 h_1 ⟨F_1, r_2, _, rfl, hk, hS, _, _, _, hM⟩
  replace hK := hK.trans hk
  replace hL_a := hL_a.kp hk
  replace hL_b := hL_b.kp hk
  refine HO.val (v := vr_2) (want_none) rfl (q_assign rfl) ?_
  refine HO.nil (thenQ_normal (?_))
  refine HW.ret (?_)
  refine ⟨.inr rfl, vr_2, res1 rfl (rt rfl), ?_⟩
  exact ⟨F_1, r_2, vr_2, rfl, hK, hS, hL_a, hL_b, hM⟩

def srcs_minus_W (a : List T_api_Addr) (b : List T_api_Addr) (Q : (List T_api_Addr) → Prop) : Prop :=
  ∃ cf_1 : T_api_Addr → T_api_Addr → Int, (∀ x0 x1, addr_Cmp_W x0 x1 (fun r => r = cf_1 x0 x1)) ∧ (srcs_walk_api_Addr_W a b cf_1 true false false (fun r_2 => Q r_2))
set_option maxHeartbeats 40000000 in
set_option maxRecDepth 100000 in
theorem srcs_minus_walk {F : Fz} {fr : List Ow} {h0 : Heap} (a : List T_api_Addr) (b : List T_api_Addr) (va : Value) (vb : Value) (hS : St F (fr) h0) (hL_a : SliceF F h0 17 e_api_Addr va a) (hL_b : SliceF F h0 17 e_api_Addr vb b) {Q : (List T_api_Addr) → Prop} (hM : srcs_minus_W a b Q) :
    HC Tryz.prog 78 #[va, vb] h0 fun u h' => ∃ (F' : Fz) (r_1 : List T_api_Addr) (vr_1 : Value), u = vr_1 ∧ Kp F h0 F' h' ∧ St F' (Ow.own 44 17 e_api_Addr vr_1 r_1 :: fr) h' ∧ (SliceF F' h' 17 e_api_Addr va a) ∧ (SliceF F' h' 17 e_api_Addr vb b) ∧ Q r_1 := by
  unfold srcs_minus_W at hM
  have hK := Kp.refl F h0
  refine HC.of_HW (n := 8) Tryz.func78 rfl rfl (Nat.le_of_ble_eq_true rfl) ?_
  refine HW.seq ?_
  refine HW.region ?_
  refine HO.val (v := .slice none 0 0) (want_none) rfl (q_assign rfl) ?_
  refine HO.nil (thenQ_normal (?_))
  refine HW.seq ?_
  refine HW.region ?_
  refine HO.val (v := va) (want_none) rfl (q_move rfl) ?_
  refine HO.val (v := vb) (want_none) rfl (q_move rfl) ?_
  obtain ⟨cf_1, hc_1, hM⟩ := hM
  have hF_1 : FnP Tryz.prog F h0 22 #[] #[] (fun x : T_api_Addr × T_api_Addr => [.agg (e_api_Addr x.1).toArray, .agg (e_api_Addr x.2).toArray]) (fun x => .int .i64 (cf_1 x.1 x.2)) := FnP.of en_22 (fun x h' hk_ => @HC.mono ⟨true⟩ _ _ _ _ _ _ (@addr_Cmp_walk ⟨true⟩ (allF h') [] h' x.1 x.2  (St.init h')  (fun r => r = cf_1 x.1 x.2) (hc_1 x.1 x.2)) (fun u h'' ⟨F', r, hu, k_, _, hr⟩ => ⟨by rw [hu, hr], F', k_⟩))
  refine HO.call (want_none) rfl (ec en_77 rfl rfl) (srcs_walk_api_Addr_walk (fr := (fr)) a b cf_1 true false false va vb 22 (#[]) (#[]) hS hL_a hL_b hF_1 hM) ?_
  rintro vr_2 h_1 ⟨F_1, r_2, _, rfl, hk, hS, _, _, _, hM⟩
  replace hK := hK.trans hk
  replace hL_a := hL_a.kp hk
  replace hL_b := hL_b.kp hk
  refine HO.val (v := vr_2) (want_none) rfl (q_assign rfl) ?_
  refine HO.nil (thenQ_normal (?_))
  refine HW.ret (?_)
  refine ⟨.inr rfl, vr_2, res1 rfl (rt rfl), ?_⟩
  exact ⟨F_1, r_2, vr_2, rfl, hK, hS, hL_a, hL_b, hM⟩

def srcs_Minus_W (a : List T_api_Addr) (b : List T_api_Addr) (Q : (List T_api_Addr) → Prop) : Prop :=
  srcs_minus_W a b (fun r_2 => Q r_2)
set_option maxHeartbeats 40000000 in
set_option maxRecDepth 100000 in
theorem srcs_Minus_walk {F : Fz} {fr : List Ow} {h0 : Heap} (a : List T_api_Addr) (b : List T_api_Addr) (va : Value) (vb : Value) (hS : St F (fr) h0) (hL_a : SliceF F h0 17 e_api_Addr va a) (hL_b : SliceF F h0 17 e_api_Addr vb b) {Q : (List T_api_Addr) → Prop} (hM : srcs_Minus_W a b Q) :
    HC Tryz.prog 57 #[va, vb] h0 fun u h' => ∃ (F' : Fz) (r_1 : List T_api_Addr) (vr_1 : Value), u = vr_1 ∧ Kp F h0 F' h' ∧ St F' (Ow.own 44 17 e_api_Addr vr_1 r_1 :: fr) h' ∧ (SliceF F' h' 17 e_api_Addr va a) ∧ (SliceF F' h' 17 e_api_Addr vb b) ∧ Q r_1 := by
  unfold srcs_Minus_W at hM
  have hK := Kp.refl F h0
  refine HC.of_HW (n := 8) Tryz.func57 rfl rfl (Nat.le_of_ble_eq_true rfl) ?_
  refine HW.seq ?_
  refine HW.region ?_
  refine HO.val (v := .slice none 0 0) (want_none) rfl (q_assign rfl) ?_
  refine HO.nil (thenQ_normal (?_))
  refine HW.seq ?_
  refine HW.region ?_
  refine HO.val (v := va) (want_none) rfl (q_move rfl) ?_
  refine HO.val (v := vb) (want_none) rfl (q_move rfl) ?_
  refine HO.call (want_none) rfl (ec en_78 rfl rfl) (srcs_minus_walk (fr := (fr)) a b va vb hS hL_a hL_b hM) ?_
  rintro vr_2 h_1 ⟨F_1, r_2, _, rfl, hk, hS, _, _, hM⟩
  replace hK := hK.trans hk
  replace hL_a := hL_a.kp hk
  replace hL_b := hL_b.kp hk
  refine HO.val (v := vr_2) (want_none) rfl (q_assign rfl) ?_
  refine HO.nil (thenQ_normal (?_))
  refine HW.ret (?_)
  refine ⟨.inr rfl, vr_2, res1 rfl (rt rfl), ?_⟩
  exact ⟨F_1, r_2, vr_2, rfl, hK, hS, hL_a, hL_b, hM⟩

def merge_All_l1 (l : List T_api_Filter) (Q : Bool → (List T_api_Addr) → Prop) (K_1 : (List T_api_Addr) → Bool → (List T_api_Addr) → Int → Prop) (some_1 : List T_api_Addr) (out_0_1 : Bool) (out_1_1 : List T_api_Addr) (n_1 : Int) : Prop :=
  (n_1 < (l.length : Int) → ((0 : Int) ≤ n_1 ∧ n_1 < (l.length : Int)) ∧ (((!((gi l n_1).1)) = true → srcs_Or_W some_1 (((gi l n_1).2).2) (fun r_1 => (I64 (n_1 + 1)) ∧ (K_1 r_1 out_0_1 out_1_1 (n_1 + 1)))) ∧ ((!((gi l n_1).1)) = false → ((!out_0_1) = true → (I64 (n_1 + 1)) ∧ (K_1 some_1 true (((gi l n_1).2).2) (n_1 + 1))) ∧ ((!out_0_1) = false → srcs_And_W out_1_1 (((gi l n_1).2).2) (fun r_2 => (I64 (n_1 + 1)) ∧ (K_1 some_1 out_0_1 r_2 (n_1 + 1))))))) ∧ (¬ (n_1 < (l.length : Int)) → ((!out_0_1) = true → Q false some_1) ∧ ((!out_0_1) = false → srcs_Minus_W out_1_1 some_1 (fun r_3 => Q out_0_1 r_3)))
def merge_All_W (l : List T_api_Filter) (Q : Bool → (List T_api_Addr) → Prop) : Prop :=
  loopW (fun (K_1 : (List T_api_Addr × Bool × List T_api_Addr × Int) → Prop) (s : List T_api_Addr × Bool × List T_api_Addr × Int) => merge_All_l1 l Q (fun some_1 out_0_1 out_1_1 n_1 => K_1 (some_1, out_0_1, out_1_1, n_1)) s.1 s.2.1 s.2.2.1 s.2.2.2) ([], false, [], 0)
set_option maxHeartbeats 40000000 in
set_option maxRecDepth 100000 in
theorem merge_All_walk {F : Fz} {fr : List Ow} {h0 : Heap} (l : List T_api_Filter) (vl : Value) (hS : St F (fr) h0) (hN_l : NfL nf_api_Filter F h0 l) (hL_l : SliceF F h0 2 e_api_Filter vl l) {Q : Bool → (List T_api_Addr) → Prop} (hM : merge_All_W l Q) :
    HC Tryz.prog 31 #[vl] h0 fun u h' => ∃ (F' : Fz) (r_0_1 : Bool) (r_1_1 : List T_api_Addr) (vr_1_1 : Value), u = .agg #[.bool r_0_1, vr_1_1] ∧ Kp F h0 F' h' ∧ St F' (Ow.own 44 17 e_api_Addr vr_1_1 r_1_1 :: fr) h' ∧ (NfL nf_api_Filter F' h' l) ∧ (SliceF F' h' 2 e_api_Filter vl l) ∧ Q r_0_1 r_1_1 := by
  unfold merge_All_W at hM
  have hK := Kp.refl F h0
  refine HC.of_HW (n := 46) Tryz.func31 rfl rfl (Nat.le_of_ble_eq_true rfl) ?_
  refine HW.seq ?_
  refine HW.region ?_
  refine HO.eff (want_none) rfl (st_alloc (c := #[.bool false, .slice none 0 0]) hS tz_34 rfl) ?_
  rintro _ h_1 ⟨b_1, rfl, hS, hk⟩
  replace hK := hK.trans hk
  replace hN_l := hN_l.kp hk
  replace hL_l := hL_l.kp hk
  refine HO.nil (thenQ_normal (?_))
  refine HW.seq ?_
  refine HW.region ?_
  refine HO.val (v := .slice none 0 0) (want_none) rfl (q_assign rfl) ?_
  refine HO.nil (thenQ_normal (?_))
  refine HW.seq ?_
  refine HW.region ?_
  refine HO.eff (want_none) rfl (st_alloc (c := #[.bool false, .slice none 0 0]) hS tz_34 rfl) ?_
  rintro _ h_2 ⟨b_2, rfl, hS, hk⟩
  replace hK := hK.trans hk
  replace hN_l := hN_l.kp hk
  replace hL_l := hL_l.kp hk
  refine HO.nil (thenQ_normal (?_))
  refine HW.seq ?_
  refine HW.seq ?_
  refine HW.region ?_
  refine HO.val (v := vl) (want_none) rfl (q_move rfl) ?_
  refine HO.val (v := .int .i64 (l.length : Int)) (want_none) rfl (q_len ts_70 (shp hL_l.is) rfl rfl) ?_
  refine HO.val (v := .int .i64 0) (want_none) rfl (q_move rfl) ?_
  refine HO.nil (thenQ_normal (?_))
  refine HW.block ?_
  obtain ⟨I_1, m_1, hI_1, hR_1⟩ := hM
  replace hS := hS.nilOwn 44 17 e_api_Addr
  replace hS : St F (Ow.box b_1 34 #[.bool false, .slice none 0 0] :: Ow.own 44 17 e_api_Addr (.slice none 0 0) ([] : List T_api_Addr) :: Ow.box b_2 34 #[.bool false, .slice none 0 0] :: fr) h_2 := hS.perm2 [2, 0, 1] 3 rfl rfl
  refine HW.loop (S := List T_api_Addr × Bool × List T_api_Addr × Int) (fun s f h => match s with | (some_1, out_0_1, out_1_1, n_1) => ∃ (F' : Fz) (vsome_1 : Value) (vout_1_1 : Value), f 2 = .pointer (some ⟨b_1, 0, none⟩) ∧ f 3 = vsome_1 ∧ f 4 = .pointer (some ⟨b_2, 0, none⟩) ∧ f 7 = vl ∧ f 8 = .int .i64 (l.length : Int) ∧ f 9 = .int .i64 n_1 ∧ Kp F h0 F' h ∧ St F' (Ow.box b_1 34 #[.bool false, .slice none 0 0] :: Ow.own 44 17 e_api_Addr vsome_1 some_1 :: Ow.box b_2 34 #[.bool out_0_1, vout_1_1] :: fr) h ∧ (NfL nf_api_Filter F' h l) ∧ (SliceF F' h 2 e_api_Filter vl l) ∧ (SliceF F' h 17 e_api_Addr vout_1_1 out_1_1) ∧ I_1 (some_1, out_0_1, out_1_1, n_1)) m_1 ([], false, [], 0) ⟨F, .slice none 0 0, .slice none 0 0, rfl, rfl, rfl, rfl, rfl, rfl, hK, hS, hN_l, hL_l, (SliceF.nil _ _ _ _), hI_1⟩ ?_
  rintro ⟨some_1, out_0_1, out_1_1, n_1⟩ f_1 h_3 ⟨F_1, vsome_1, vout_1_1, e2, e3, e4, e7, e8, e9, hK, hS, hN_l, hL_l, hL_1, hI0⟩
  obtain ⟨K_1, hKe_1⟩ : ∃ K : (List T_api_Addr) → Bool → (List T_api_Addr) → Int → Prop, K = fun some_1' out_0_1' out_1_1' n_1' => I_1 (some_1', out_0_1', out_1_1', n_1') ∧ m_1 (some_1', out_0_1', out_1_1', n_1') < m_1 (some_1, out_0_1, out_1_1, n_1) := ⟨_, rfl⟩
  have hM : merge_All_l1 l Q K_1 some_1 out_0_1 out_1_1 n_1 := by rw [hKe_1]; exact hR_1 (some_1, out_0_1, out_1_1, n_1) hI0
  unfold merge_All_l1 at hM
  refine HW.fr [(2, .pointer (some ⟨b_1, 0, none⟩)), (3, vsome_1), (4, .pointer (some ⟨b_2, 0, none⟩)), (7, vl), (8, .int .i64 (l.length : Int)), (9, .int .i64 n_1)] ⟨e2, e3, e4, e7, e8, e9, trivial⟩ ?_
  refine HW.seq ?_
  refine HW.region ?_
  refine HO.val (v := .bool (decide (n_1 < (l.length : Int)))) (want_none) rfl (q_lss rfl rfl) ?_
  refine HO.nil (thenQ_normal (?_))
  refine HW.seq ?_
  refine HW.cond (decide (n_1 < (l.length : Int))) rfl (fun c_1 => ?_) (fun c_1 => ?_)
  · replace hM := hM.1 (of_decide_eq_true c_1)
    refine HW.skip (thenQ_normal (?_))
    refine HW.seq ?_
    refine HW.block ?_
    refine HW.seq ?_
    refine HW.region ?_
    obtain ⟨ho_1, hM⟩ := hM
    refine HO.val (v := elemPtr 2 vl (n_1).toNat) (want_none) rfl (q_idx ts_70 hL_l.is rfl rfl ho_1) ?_
    refine HO.val (v := .agg #[.bool ((gi l n_1).1), ((gi l n_1).2).1]) (want_none) rfl (q_ldElemAgg (cs := [.bool ((gi l n_1).1), ((gi l n_1).2).1]) ta_34 hL_l.is rfl ho_1 rfl) ?_
    refine HO.eff (want_none) rfl (st_alloc (c := #[.bool false, .slice none 0 0]) hS tz_34 rfl) ?_
    rintro _ h_4 ⟨b_3, rfl, hS, hk⟩
    replace hK := hK.trans hk
    replace hN_l := hN_l.kp hk
    replace hL_l := hL_l.kp hk
    replace hL_1 := hL_1.kp hk
    refine HO.sto (want_none) rfl (st_storeAgg (c' := #[.bool ((gi l n_1).1), ((gi l n_1).2).1]) hS (i := 0) rfl ta_34 rfl rfl rfl (List.forall_mem_cons.2 ⟨rfl, (List.forall_mem_cons.2 ⟨(shp (nfi_api_Filter_1 (NfI.at hN_l.is ho_1))).one, (fun _ h => by cases h)⟩)⟩) (Nat.le_of_ble_eq_true rfl) rfl) ?_
    rintro h_5 ⟨hS, hk⟩
    replace hS : St F_1 (Ow.box b_3 34 #[.bool ((gi l n_1).1), ((gi l n_1).2).1] :: Ow.box b_1 34 #[.bool false, .slice none 0 0] :: Ow.own 44 17 e_api_Addr vsome_1 some_1 :: Ow.box b_2 34 #[.bool out_0_1, vout_1_1] :: fr) h_5 := hS
    replace hK := hK.trans hk
    replace hN_l := hN_l.kp hk
    replace hL_l := hL_l.kp hk
    replace hL_1 := hL_1.kp hk
    refine HO.nil (thenQ_normal (?_))
    refine HW.block ?_
    refine HW.seq ?_
    refine HW.region ?_
    refine HO.val (v := .pointer (some ⟨b_3, 0, none⟩)) (want_none) rfl (q_fieldAddr fa_34_0 rfl rfl) ?_
    refine HO.val (v := .bool ((gi l n_1).1)) (want_none) rfl (q_load to_4 rfl (Blk.cell (hS.box 0 rfl) rfl)) ?_
    refine HO.val (v := .bool (!((gi l n_1).1))) (want_none) rfl (q_not rfl) ?_
    refine HO.val (v := .bool (!((gi l n_1).1))) (want_none) rfl (q_assign rfl) ?_
    refine HO.nil (thenQ_normal (?_))
    refine HW.cond (!((gi l n_1).1)) rfl (fun c_2 => ?_) (fun c_2 => ?_)
    · replace hM := hM.1 c_2
      refine HW.region ?_
      refine HO.val (v := vsome_1) (want_none) rfl (q_move rfl) ?_
      refine HO.val (v := .pointer (some ⟨b_3, 1, none⟩)) (want_none) rfl (q_fieldAddr fa_34_1 rfl rfl) ?_
      refine HO.val (v := ((gi l n_1).2).1) (want_none) rfl (q_load to_22 rfl (Blk.cell (hS.box 0 rfl) rfl)) ?_
      replace hS : St F_1 (Ow.own 44 17 e_api_Addr vsome_1 some_1 :: Ow.box b_3 34 #[.bool ((gi l n_1).1), ((gi l n_1).2).1] :: Ow.box b_1 34 #[.bool false, .slice none 0 0] :: Ow.box b_2 34 #[.bool out_0_1, vout_1_1] :: fr) h_5 := hS.perm2 [2, 0, 1, 3] 4 rfl rfl
      have hZ_1 := hS
      have hkz_1 := (hS.freeze).2
      replace hS := hS.freeze.1
      have hL_2 : SliceF (fun b => F_1 b ∨ (Ow.own 44 17 e_api_Addr vsome_1 some_1).foot b) h_5 17 e_api_Addr vsome_1 some_1 := ⟨(hZ_1.own 0 rfl).slice, fun _ b hb => .inr hb⟩
      refine HO.call (want_none) rfl (ec en_55 rfl rfl) (srcs_Or_walk (fr := (Ow.box b_3 34 #[.bool ((gi l n_1).1), ((gi l n_1).2).1] :: Ow.box b_1 34 #[.bool false, .slice none 0 0] :: Ow.box b_2 34 #[.bool out_0_1, vout_1_1] :: fr)) some_1 (((gi l n_1).2).2) vsome_1 (((gi l n_1).2).1) hS hL_2 (SliceF.kp (nff_api_Filter_1 (NfL.at hN_l ho_1)) hkz_1) hM) ?_
      rintro vr_1 h_6 ⟨F_2, r_1, _, rfl, hk, hS, _, _, hM⟩
      obtain ⟨hS, hk⟩ := hZ_1.back hk hS
      generalize (fun b => F_2 b ∧ ¬ (Ow.own 44 17 e_api_Addr vsome_1 some_1).foot b) = F_3 at hS hk
      replace hK := hK.trans hk
      replace hN_l := hN_l.kp hk
      replace hL_l := hL_l.kp hk
      replace hL_1 := hL_1.kp hk
      refine HO.val (v := vr_1) (want_none) rfl (q_assign rfl) ?_
      refine HO.nil (blockQ_normal (blockQ_normal (thenQ_normal (?_))))
      refine HW.region ?_
      obtain ⟨ho_2, hM⟩ := hM
      refine HO.val (v := .int .i64 (n_1 + 1)) (want_none) rfl (q_addN _ rfl rfl rfl ho_2.1 ho_2.2) ?_
      refine HO.val (v := .int .i64 (n_1 + 1)) (want_none) rfl (q_move rfl) ?_
      refine HO.nil (thenQ_normal (?_))
      replace hS : St F_3 (Ow.box b_1 34 #[.bool false, .slice none 0 0] :: Ow.own 44 17 e_api_Addr vr_1 r_1 :: Ow.box b_2 34 #[.bool out_0_1, vout_1_1] :: fr) h_6 := hS.perm2 [3, 1, 4] 5 rfl rfl
      rw [hKe_1] at hM
      exact ⟨(r_1, out_0_1, out_1_1, n_1 + 1), ⟨F_3, vr_1, vout_1_1, rfl, rfl, rfl, rfl, rfl, rfl, hK, hS, hN_l, hL_l, hL_1, hM.1⟩, hM.2⟩
    · replace hM := hM.2 c_2
      refine HW.seq ?_
      refine HW.region ?_
      refine HO.val (v := .pointer (some ⟨b_2, 0, none⟩)) (want_none) rfl (q_fieldAddr fa_34_0 rfl rfl) ?_
      refine HO.val (v := .bool out_0_1) (want_none) rfl (q_load to_4 rfl (Blk.cell (hS.box 3 rfl) rfl)) ?_
      refine HO.val (v := .bool (!out_0_1)) (want_none) rfl (q_not rfl) ?_
      refine HO.val (v := .bool (!out_0_1)) (want_none) rfl (q_assign rfl) ?_
      refine HO.nil (thenQ_normal (?_))
      refine HW.cond (!out_0_1) rfl (fun c_3 => ?_) (fun c_3 => ?_)
      · replace hM := hM.1 c_3
        refine HW.region ?_
        refine HO.val (v := .pointer (some ⟨b_3, 1, none⟩)) (want_none) rfl (q_fieldAddr fa_34_1 rfl rfl) ?_
        refine HO.val (v := ((gi l n_1).2).1) (want_none) rfl (q_load to_22 rfl (Blk.cell (hS.box 0 rfl) rfl)) ?_
        refine HO.val (v := .agg #[.bool true, ((gi l n_1).2).1]) (want_none) rfl (q_build tp_34 (fill_cons (cs' := #[.bool true, .slice none 0 0]) (vc := #[.bool true]) rfl rfl rfl (Nat.le_of_ble_eq_true rfl) rfl (fill_cons (cs' := #[.bool true, ((gi l n_1).2).1]) (vc := #[((gi l n_1).2).1]) rfl (shp (nfi_api_Filter_1 (NfI.at hN_l.is ho_1))).cells rfl (Nat.le_of_ble_eq_true rfl) rfl rfl))) ?_
        refine HO.sto (want_none) rfl (st_storeAgg (c' := #[.bool true, ((gi l n_1).2).1]) hS (i := 3) rfl ta_34 rfl rfl rfl (List.forall_mem_cons.2 ⟨rfl, (List.forall_mem_cons.2 ⟨(shp (nfi_api_Filter_1 (NfI.at hN_l.is ho_1))).one, (fun _ h => by cases h)⟩)⟩) (Nat.le_of_ble_eq_true rfl) rfl) ?_
        rintro h_7 ⟨hS, hk⟩
        replace hS : St F_1 (Ow.box b_3 34 #[.bool ((gi l n_1).1), ((gi l n_1).2).1] :: Ow.box b_1 34 #[.bool false, .slice none 0 0] :: Ow.own 44 17 e_api_Addr vsome_1 some_1 :: Ow.box b_2 34 #[.bool true, ((gi l n_1).2).1] :: fr) h_7 := hS
        replace hK := hK.trans hk
        replace hN_l := hN_l.kp hk
        replace hL_l := hL_l.kp hk
        refine HO.nil (blockQ_normal (blockQ_normal (thenQ_normal (?_))))
        refine HW.region ?_
        obtain ⟨ho_3, hM⟩ := hM
        refine HO.val (v := .int .i64 (n_1 + 1)) (want_none) rfl (q_addN _ rfl rfl rfl ho_3.1 ho_3.2) ?_
        refine HO.val (v := .int .i64 (n_1 + 1)) (want_none) rfl (q_move rfl) ?_
        refine HO.nil (thenQ_normal (?_))
        replace hS : St F_1 (Ow.box b_1 34 #[.bool false, .slice none 0 0] :: Ow.own 44 17 e_api_Addr vsome_1 some_1 :: Ow.box b_2 34 #[.bool true, ((gi l n_1).2).1] :: fr) h_7 := hS.perm2 [1, 2, 3] 4 rfl rfl
        rw [hKe_1] at hM
        exact ⟨(some_1, true, ((gi l n_1).2).2, n_1 + 1), ⟨F_1, vsome_1, ((gi l n_1).2).1, rfl, rfl, rfl, rfl, rfl, rfl, hK, hS, hN_l, hL_l, (nff_api_Filter_1 (NfL.at hN_l ho_1)), hM.1⟩, hM.2⟩
      · replace hM := hM.2 c_3
        refine HW.region ?_
        refine HO.val (v := .pointer (some ⟨b_2, 1, none⟩)) (want_none) rfl (q_fieldAddr fa_34_1 rfl rfl) ?_
        refine HO.val (v := vout_1_1) (want_none) rfl (q_load to_22 rfl (Blk.cell (hS.box 3 rfl) rfl)) ?_
        refine HO.val (v := .pointer (some ⟨b_3, 1, none⟩)) (want_none) rfl (q_fieldAddr fa_34_1 rfl rfl) ?_
        refine HO.val (v := ((gi l n_1).2).1) (want_none) rfl (q_load to_22 rfl (Blk.cell (hS.box 0 rfl) rfl)) ?_
        refine HO.call (want_none) rfl (ec en_56 rfl rfl) (srcs_And_walk (fr := (Ow.box b_3 34 #[.bool ((gi l n_1).1), ((gi l n_1).2).1] :: Ow.box b_1 34 #[.bool false, .slice none 0 0] :: Ow.own 44 17 e_api_Addr vsome_1 some_1 :: Ow.box b_2 34 #[.bool out_0_1, vout_1_1] :: fr)) out_1_1 (((gi l n_1).2).2) vout_1_1 (((gi l n_1).2).1) hS hL_1 (nff_api_Filter_1 (NfL.at hN_l ho_1)) hM) ?_
        rintro vr_2 h_8 ⟨F_4, r_2, _, rfl, hk, hS, _, _, hM⟩
        replace hK := hK.trans hk
        replace hN_l := hN_l.kp hk
        replace hL_l := hL_l.kp hk
        refine HO.val (v := .pointer (some ⟨b_2, 1, none⟩)) (want_none) rfl (q_fieldAddr fa_34_1 rfl rfl) ?_
        refine HO.sto (want_none) rfl (st_store (c' := #[.bool out_0_1, vr_2]) hS (i := 4) rfl to_22 rfl rfl (shp (hS.own 0 rfl).slice).cells (shp (hS.own 0 rfl).slice).one (Nat.le_of_ble_eq_true rfl) rfl) ?_
        rintro h_9 ⟨hS, hk⟩
        replace hS : St F_4 (Ow.own 44 17 e_api_Addr vr_2 r_2 :: Ow.box b_3 34 #[.bool ((gi l n_1).1), ((gi l n_1).2).1] :: Ow.box b_1 34 #[.bool false, .slice none 0 0] :: Ow.own 44 17 e_api_Addr vsome_1 some_1 :: Ow.box b_2 34 #[.bool out_0_1, vr_2] :: fr) h_9 := hS
        replace hK := hK.trans hk
        replace hN_l := hN_l.kp hk
        replace hL_l := hL_l.kp hk
        refine HO.nil (blockQ_normal (blockQ_normal (thenQ_normal (?_))))
        refine HW.region ?_
        obtain ⟨ho_4, hM⟩ := hM
        refine HO.val (v := .int .i64 (n_1 + 1)) (want_none) rfl (q_addN _ rfl rfl rfl ho_4.1 ho_4.2) ?_
        refine HO.val (v := .int .i64 (n_1 + 1)) (want_none) rfl (q_move rfl) ?_
        refine HO.nil (thenQ_normal (?_))
        obtain ⟨F_5, hS, hk, hL_3⟩ := hS.freezeOwn
        replace hK := hK.trans hk
        replace hN_l := hN_l.kp hk
        replace hL_l := hL_l.kp hk
        replace hS : St F_5 (Ow.box b_1 34 #[.bool false, .slice none 0 0] :: Ow.own 44 17 e_api_Addr vsome_1 some_1 :: Ow.box b_2 34 #[.bool out_0_1, vr_2] :: fr) h_9 := hS.perm2 [1, 2, 3] 4 rfl rfl
        rw [hKe_1] at hM
        exact ⟨(some_1, out_0_1, r_2, n_1 + 1), ⟨F_5, vsome_1, vr_2, rfl, rfl, rfl, rfl, rfl, rfl, hK, hS, hN_l, hL_l, hL_3, hM.1⟩, hM.2⟩
  · replace hM := hM.2 (of_decide_eq_false c_1)
    refine HW.exit (thenQ_exit (thenQ_exit (blockQ_exit (thenQ_normal (?_)))))
    refine HW.seq ?_
    refine HW.seq ?_
    refine HW.region ?_
    refine HO.val (v := .pointer (some ⟨b_2, 0, none⟩)) (want_none) rfl (q_fieldAddr fa_34_0 rfl rfl) ?_
    refine HO.val (v := .bool out_0_1) (want_none) rfl (q_load to_4 rfl (Blk.cell (hS.box 2 rfl) rfl)) ?_
    refine HO.val (v := .bool (!out_0_1)) (want_none) rfl (q_not rfl) ?_
    refine HO.nil (thenQ_normal (?_))
    refine HW.cond (!out_0_1) rfl (fun c_4 => ?_) (fun c_4 => ?_)
    · replace hM := hM.1 c_4
      refine HW.seq ?_
      refine HW.region ?_
      refine HO.val (v := vsome_1) (want_none) rfl (q_move rfl) ?_
      refine HO.val (v := .agg #[.bool false, vsome_1]) (want_none) rfl (q_build tp_34 (fill_cons (cs' := #[.bool false, vsome_1]) (vc := #[vsome_1]) rfl (shp (hS.own 1 rfl).slice).cells rfl (Nat.le_of_ble_eq_true rfl) rfl rfl)) ?_
      refine HO.sto (want_none) rfl (st_storeAgg (c' := #[.bool false, vsome_1]) hS (i := 0) rfl ta_34 rfl rfl rfl (List.forall_mem_cons.2 ⟨rfl, (List.forall_mem_cons.2 ⟨(shp (hS.own 1 rfl).slice).one, (fun _ h => by cases h)⟩)⟩) (Nat.le_of_ble_eq_true rfl) rfl) ?_
      rintro h_10 ⟨hS, hk⟩
      replace hS : St F_1 (Ow.box b_1 34 #[.bool false, vsome_1] :: Ow.own 44 17 e_api_Addr vsome_1 some_1 :: Ow.box b_2 34 #[.bool out_0_1, vout_1_1] :: fr) h_10 := hS
      replace hK := hK.trans hk
      replace hN_l := hN_l.kp hk
      replace hL_l := hL_l.kp hk
      refine HO.nil (thenQ_normal (?_))
      refine HW.ret (thenQ_ret (?_))
      refine ⟨.inr rfl, .agg #[.bool false, vsome_1], res1 rfl (rca (cs := [.bool false, vsome_1]) ta_34 rfl rfl (Blk.cells (k := 2) (hS.box 0 rfl) rfl)), ?_⟩
      replace hS : St F_1 (Ow.own 44 17 e_api_Addr vsome_1 some_1 :: fr) h_10 := hS.perm2 [1] 3 rfl rfl
      exact ⟨F_1, false, some_1, vsome_1, rfl, hK, hS, hN_l, hL_l, hM⟩
    · replace hM := hM.2 c_4
      refine HW.skip (thenQ_normal (?_))
      refine HW.seq ?_
      refine HW.region ?_
      refine HO.val (v := .pointer (some ⟨b_2, 1, none⟩)) (want_none) rfl (q_fieldAddr fa_34_1 rfl rfl) ?_
      refine HO.val (v := vout_1_1) (want_none) rfl (q_load to_22 rfl (Blk.cell (hS.box 2 rfl) rfl)) ?_
      refine HO.val (v := vsome_1) (want_none) rfl (q_move rfl) ?_
      replace hS : St F_1 (Ow.own 44 17 e_api_Addr vsome_1 some_1 :: Ow.box b_1 34 #[.bool false, .slice none 0 0] :: Ow.box b_2 34 #[.bool out_0_1, vout_1_1] :: fr) h_3 := hS.perm2 [1, 0, 2] 3 rfl rfl
      have hZ_2 := hS
      have hkz_2 := (hS.freeze).2
      replace hS := hS.freeze.1
      have hL_4 : SliceF (fun b => F_1 b ∨ (Ow.own 44 17 e_api_Addr vsome_1 some_1).foot b) h_3 17 e_api_Addr vsome_1 some_1 := ⟨(hZ_2.own 0 rfl).slice, fun _ b hb => .inr hb⟩
      refine HO.call (want_none) rfl (ec en_57 rfl rfl) (srcs_Minus_walk (fr := (Ow.box b_1 34 #[.bool false, .slice none 0 0] :: Ow.box b_2 34 #[.bool out_0_1, vout_1_1] :: fr)) out_1_1 some_1 vout_1_1 vsome_1 hS (hL_1.kp hkz_2) hL_4 hM) ?_
      rintro vr_3 h_11 ⟨F_6, r_3, _, rfl, hk, hS, _, _, hM⟩
      obtain ⟨hS, hk⟩ := hZ_2.back hk hS
      generalize (fun b => F_6 b ∧ ¬ (Ow.own 44 17 e_api_Addr vsome_1 some_1).foot b) = F_7 at hS hk
      replace hK := hK.trans hk
      replace hN_l := hN_l.kp hk
      replace hL_l := hL_l.kp hk
      refine HO.val (v := .pointer (some ⟨b_2, 1, none⟩)) (want_none) rfl (q_fieldAddr fa_34_1 rfl rfl) ?_
      refine HO.sto (want_none) rfl (st_store (c' := #[.bool out_0_1, vr_3]) hS (i := 3) rfl to_22 rfl rfl (shp (hS.own 1 rfl).slice).cells (shp (hS.own 1 rfl).slice).one (Nat.le_of_ble_eq_true rfl) rfl) ?_
      rintro h_12 ⟨hS, hk⟩
      replace hS : St F_7 (Ow.own 44 17 e_api_Addr vsome_1 some_1 :: Ow.own 44 17 e_api_Addr vr_3 r_3 :: Ow.box b_1 34 #[.bool false, .slice none 0 0] :: Ow.box b_2 34 #[.bool out_0_1, vr_3] :: fr) h_12 := hS
      replace hK := hK.trans hk
      replace hN_l := hN_l.kp hk
      replace hL_l := hL_l.kp hk
      refine HO.nil (thenQ_normal (?_))
      refine HW.seq ?_
      refine HW.region ?_
      refine HO.val (v := .agg #[.bool out_0_1, vr_3]) (want_none) rfl (q_loadAgg (cs := [.bool out_0_1, vr_3]) ta_34 rfl rfl (Blk.cells (k := 2) (hS.box 3 rfl) rfl)) ?_
      refine HO.sto (want_none) rfl (st_storeAgg (c' := #[.bool out_0_1, vr_3]) hS (i := 2) rfl ta_34 rfl rfl rfl (List.forall_mem_cons.2 ⟨rfl, (List.forall_mem_cons.2 ⟨(shp (hS.own 1 rfl).slice).one, (fun _ h => by cases h)⟩)⟩) (Nat.le_of_ble_eq_true rfl) rfl) ?_
      rintro h_13 ⟨hS, hk⟩
      replace hS : St F_7 (Ow.own 44 17 e_api_Addr vsome_1 some_1 :: Ow.own 44 17 e_api_Addr vr_3 r_3 :: Ow.box b_1 34 #[.bool out_0_1, vr_3] :: Ow.box b_2 34 #[.bool out_0_1, vr_3] :: fr) h_13 := hS
      replace hK := hK.trans hk
      replace hN_l := hN_l.kp hk
      replace hL_l := hL_l.kp hk
      refine HO.nil (thenQ_normal (?_))
      refine HW.ret (?_)
      refine ⟨.inr rfl, .agg #[.bool out_0_1, vr_3], res1 rfl (rca (cs := [.bool out_0_1, vr_3]) ta_34 rfl rfl (Blk.cells (k := 2) (hS.box 2 rfl) rfl)), ?_⟩
      replace hS : St F_7 (Ow.own 44 17 e_api_Addr vr_3 r_3 :: fr) h_13 := hS.perm2 [1] 4 rfl rfl
      exact ⟨F_7, out_0_1, r_3, vr_3, rfl, hK, hS, hN_l, hL_l, hM⟩

def law19_lives_W (Q : Bool → Prop) : Prop :=
  law19_four_W 1 (fun r_2 => law19_four_W 1 (fun r_3 => law19_four_W 2 (fun r_4 => ∀ b_1 : Nat, (∀ b_2 : Nat, (merge_All_W ([(false, (.slice (some ⟨b_1, 0, none⟩) 1 1, ([r_2] : List T_api_Addr))), (true, (.slice (some ⟨b_2, 0, none⟩) 2 2, ([r_3, r_4] : List T_api_Addr)))] : List T_api_Filter) (fun r_0_1 r_1_1 => (r_0_1 = true → ((r_1_1.length : Int) = 1 → ((0 : Int) ≤ 0 ∧ 0 < (r_1_1.length : Int)) ∧ (law19_four_W 2 (fun r_5 => (((gi r_1_1 0) : T_api_Addr) = r_5 → merge_Print_W r_0_1 r_1_1 (fun r_6 => Q (decide ((r_6 : Str) = [101, 120, 32, 49, 48, 46, 48, 46, 48, 46, 50])))) ∧ (¬ (((gi r_1_1 0) : T_api_Addr) = r_5) → Q false)))) ∧ (¬ ((r_1_1.length : Int) = 1) → Q false)) ∧ (r_0_1 = false → Q false)))))))
set_option maxHeartbeats 40000000 in
set_option maxRecDepth 100000 in
theorem law19_lives_walk {F : Fz} {fr : List Ow} {h0 : Heap}  (hS : St F (fr) h0) (hG_5 : RoF (Ow.box 5 160 (tab10 ()).toArray) F h0) (hG_7 : RoF (Ow.box 7 164 (arrCells tab64).toArray) F h0) (hD : DM.on = false) {Q : Bool → Prop} (hM : law19_lives_W Q) :
    HC Tryz.prog 18 #[] h0 fun u h' => ∃ (F' : Fz) (r_1 : Bool), u = .bool r_1 ∧ Kp F h0 F' h' ∧ St F' (fr) h' ∧ (RoF (Ow.box 5 160 (tab10 ()).toArray) F' h') ∧ (RoF (Ow.box 7 164 (arrCells tab64).toArray) F' h') ∧ Q r_1 := by
  unfold law19_lives_W at hM
  have hK := Kp.refl F h0
  refine HC.of_HW (n := 32) Tryz.func18 rfl rfl (Nat.le_of_ble_eq_true rfl) ?_
  refine HW.seq ?_
  refine HW.region ?_
  refine HO.val (v := .bool false) (want_none) rfl (q_assign rfl) ?_
  refine HO.nil (thenQ_normal (?_))
  refine HW.seq ?_
  refine HW.region ?_
  refine HO.call (want_none) rfl (ec en_32 rfl rfl) (law19_four_walk (fr := (fr)) 1 hS hM) ?_
  rintro _ h_1 ⟨F_1, r_2, rfl, hk, hS, hM⟩
  replace hK := hK.trans hk
  replace hG_5 := hG_5.kp hk
  replace hG_7 := hG_7.kp hk
  refine HO.eff (want_none) rfl (st_lit (enc := e_api_Addr) (cells := #[.bool r_2.1, .int .u8 (b8 r_2.2 0), .int .u8 (b8 r_2.2 1), .int .u8 (b8 r_2.2 2), .int .u8 (b8 r_2.2 3), .int .u8 (b8 r_2.2 4), .int .u8 (b8 r_2.2 5), .int .u8 (b8 r_2.2 6), .int .u8 (b8 r_2.2 7), .int .u8 (b8 r_2.2 8), .int .u8 (b8 r_2.2 9), .int .u8 (b8 r_2.2 10), .int .u8 (b8 r_2.2 11), .int .u8 (b8 r_2.2 12), .int .u8 (b8 r_2.2 13), .int .u8 (b8 r_2.2 14), .int .u8 (b8 r_2.2 15)]) #[.bool false, .int .u8 0, .int .u8 0, .int .u8 0, .int .u8 0, .int .u8 0, .int .u8 0, .int .u8 0, .int .u8 0, .int .u8 0, .int .u8 0, .int .u8 0, .int .u8 0, .int .u8 0, .int .u8 0, .int .u8 0, .int .u8 0] ([r_2] : List T_api_Addr) hS tl_22 (by decide) (by decide) (by kernel_rfl) (by kernel_rfl) rfl (by intro x hx; rfl) rfl) ?_
  rintro _ h_2 ⟨b_1, rfl, hS, hk⟩
  replace hK := hK.trans hk
  replace hG_5 := hG_5.kp hk
  replace hG_7 := hG_7.kp hk
  refine HO.val (v := .agg #[.bool false, .slice (some ⟨b_1, 0, none⟩) 1 1]) (want_none) rfl (q_build tp_34 rfl) ?_
  refine HO.call (want_none) rfl (ec en_32 rfl rfl) (law19_four_walk (fr := (Ow.own 44 17 e_api_Addr (.slice (some ⟨b_1, 0, none⟩) 1 1) ([r_2] : List T_api_Addr) :: fr)) 1 hS hM) ?_
  rintro _ h_3 ⟨F_2, r_3, rfl, hk, hS, hM⟩
  replace hK := hK.trans hk
  replace hG_5 := hG_5.kp hk
  replace hG_7 := hG_7.kp hk
  refine HO.call (want_none) rfl (ec en_32 rfl rfl) (law19_four_walk (fr := (Ow.own 44 17 e_api_Addr (.slice (some ⟨b_1, 0, none⟩) 1 1) ([r_2] : List T_api_Addr) :: fr)) 2 hS hM) ?_
  rintro _ h_4 ⟨F_3, r_4, rfl, hk, hS, hM⟩
  replace hK := hK.trans hk
  replace hG_5 := hG_5.kp hk
  replace hG_7 := hG_7.kp hk
  refine HO.eff (want_none) rfl (st_lit (enc := e_api_Addr) (cells := #[.bool r_3.1, .int .u8 (b8 r_3.2 0), .int .u8 (b8 r_3.2 1), .int .u8 (b8 r_3.2 2), .int .u8 (b8 r_3.2 3), .int .u8 (b8 r_3.2 4), .int .u8 (b8 r_3.2 5), .int .u8 (b8 r_3.2 6), .int .u8 (b8 r_3.2 7), .int .u8 (b8 r_3.2 8), .int .u8 (b8 r_3.2 9), .int .u8 (b8 r_3.2 10), .int .u8 (b8 r_3.2 11), .int .u8 (b8 r_3.2 12), .int .u8 (b8 r_3.2 13), .int .u8 (b8 r_3.2 14), .int .u8 (b8 r_3.2 15), .bool r_4.1, .int .u8 (b8 r_4.2 0), .int .u8 (b8 r_4.2 1), .int .u8 (b8 r_4.2 2), .int .u8 (b8 r_4.2 3), .int .u8 (b8 r_4.2 4), .int .u8 (b8 r_4.2 5), .int .u8 (b8 r_4.2 6), .int .u8 (b8 r_4.2 7), .int .u8 (b8 r_4.2 8), .int .u8 (b8 r_4.2 9), .int .u8 (b8 r_4.2 10), .int .u8 (b8 r_4.2 11), .int .u8 (b8 r_4.2 12), .int .u8 (b8 r_4.2 13), .int .u8 (b8 r_4.2 14), .int .u8 (b8 r_4.2 15)]) #[.bool false, .int .u8 0, .int .u8 0, .int .u8 0, .int .u8 0, .int .u8 0, .int .u8 0, .int .u8 0, .int .u8 0, .int .u8 0, .int .u8 0, .int .u8 0, .int .u8 0, .int .u8 0, .int .u8 0, .int .u8 0, .int .u8 0, .bool false, .int .u8 0, .int .u8 0, .int .u8 0, .int .u8 0, .int .u8 0, .int .u8 0, .int .u8 0, .int .u8 0, .int .u8 0, .int .u8 0, .int .u8 0, .int .u8 0, .int .u8 0, .int .u8 0, .int .u8 0, .int .u8 0] ([r_3, r_4] : List T_api_Addr) hS tl_22 (by decide) (by decide) (by kernel_rfl) (by kernel_rfl) rfl (by intro x hx; rfl) rfl) ?_
  rintro _ h_5 ⟨b_2, rfl, hS, hk⟩
  replace hK := hK.trans hk
  replace hG_5 := hG_5.kp hk
  replace hG_7 := hG_7.kp hk
  refine HO.val (v := .agg #[.bool true, .slice (some ⟨b_2, 0, none⟩) 2 2]) (want_none) rfl (q_build tp_34 rfl) ?_
  replace hS : St F_3 (Ow.own 44 17 e_api_Addr (.slice (some ⟨b_1, 0, none⟩) 1 1) ([r_2] : List T_api_Addr) :: Ow.own 44 17 e_api_Addr (.slice (some ⟨b_2, 0, none⟩) 2 2) ([r_3, r_4] : List T_api_Addr) :: fr) h_5 := hS.perm2 [1, 0] 2 rfl rfl
  obtain ⟨F_4, hS, hk, hL_1⟩ := hS.freezeOwn
  replace hK := hK.trans hk
  replace hG_5 := hG_5.kp hk
  replace hG_7 := hG_7.kp hk
  obtain ⟨F_5, hS, hk, hL_2⟩ := hS.freezeOwn
  replace hK := hK.trans hk
  replace hG_5 := hG_5.kp hk
  replace hG_7 := hG_7.kp hk
  replace hL_1 := hL_1.kp hk
  replace hM := hM b_1
  replace hM := hM b_2
  refine HO.eff (want_none) rfl (st_lit (enc := e_api_Filter) (cells := #[.bool false, .slice (some ⟨b_1, 0, none⟩) 1 1, .bool true, .slice (some ⟨b_2, 0, none⟩) 2 2]) #[.bool false, .slice none 0 0, .bool false, .slice none 0 0] ([(false, (.slice (some ⟨b_1, 0, none⟩) 1 1, ([r_2] : List T_api_Addr))), (true, (.slice (some ⟨b_2, 0, none⟩) 2 2, ([r_3, r_4] : List T_api_Addr)))] : List T_api_Filter) hS tl_70 (by decide) (by decide) (by kernel_rfl) (by kernel_rfl) rfl (by intro x hx; rfl) rfl) ?_
  rintro _ h_6 ⟨b_3, rfl, hS, hk⟩
  replace hK := hK.trans hk
  replace hG_5 := hG_5.kp hk
  replace hG_7 := hG_7.kp hk
  replace hL_1 := hL_1.kp hk
  replace hL_2 := hL_2.kp hk
  have hN_1 : NfL nf_api_Filter F_5 h_6 ([(false, (.slice (some ⟨b_1, 0, none⟩) 1 1, ([r_2] : List T_api_Addr))), (true, (.slice (some ⟨b_2, 0, none⟩) 2 2, ([r_3, r_4] : List T_api_Addr)))] : List T_api_Filter) := (NfL.cons (nfm_api_Filter (false, (.slice (some ⟨b_1, 0, none⟩) 1 1, ([r_2] : List T_api_Addr))) hL_1) (NfL.cons (nfm_api_Filter (true, (.slice (some ⟨b_2, 0, none⟩) 2 2, ([r_3, r_4] : List T_api_Addr))) hL_2) (NfL.nil _ _ _)))
  have hZ_1 := hS
  have hkz_1 := (hS.freeze).2
  replace hS := hS.freeze.1
  have hL_3 : SliceF (fun b => F_5 b ∨ (Ow.own 34 2 e_api_Filter (.slice (some ⟨b_3, 0, none⟩) 2 2) ([(false, (.slice (some ⟨b_1, 0, none⟩) 1 1, ([r_2] : List T_api_Addr))), (true, (.slice (some ⟨b_2, 0, none⟩) 2 2, ([r_3, r_4] : List T_api_Addr)))] : List T_api_Filter)).foot b) h_6 2 e_api_Filter (.slice (some ⟨b_3, 0, none⟩) 2 2) ([(false, (.slice (some ⟨b_1, 0, none⟩) 1 1, ([r_2] : List T_api_Addr))), (true, (.slice (some ⟨b_2, 0, none⟩) 2 2, ([r_3, r_4] : List T_api_Addr)))] : List T_api_Filter) := ⟨(hZ_1.own 0 rfl).slice, fun _ b hb => .inr hb⟩
  refine HO.call (want_none) rfl (ec en_31 rfl rfl) (merge_All_walk (fr := (fr)) ([(false, (.slice (some ⟨b_1, 0, none⟩) 1 1, ([r_2] : List T_api_Addr))), (true, (.slice (some ⟨b_2, 0, none⟩) 2 2, ([r_3, r_4] : List T_api_Addr)))] : List T_api_Filter) (.slice (some ⟨b_3, 0, none⟩) 2 2) hS (NfL.kp hN_1 hkz_1) hL_3 hM) ?_
  rintro _ h_7 ⟨F_6, r_0_1, r_1_1, vr_1_1, rfl, hk, hS, _, _, hM⟩
  obtain ⟨hS, hk⟩ := hZ_1.back hk hS
  generalize (fun b => F_6 b ∧ ¬ (Ow.own 34 2 e_api_Filter (.slice (some ⟨b_3, 0, none⟩) 2 2) ([(false, (.slice (some ⟨b_1, 0, none⟩) 1 1, ([r_2] : List T_api_Addr))), (true, (.slice (some ⟨b_2, 0, none⟩) 2 2, ([r_3, r_4] : List T_api_Addr)))] : List T_api_Filter)).foot b) = F_7 at hS hk
  replace hK := hK.trans hk
  replace hG_5 := hG_5.kp hk
  replace hG_7 := hG_7.kp hk
  refine HO.eff (want_none) rfl (st_alloc (c := #[.bool false, .slice none 0 0]) hS tz_34 rfl) ?_
  rintro _ h_8 ⟨b_4, rfl, hS, hk⟩
  replace hK := hK.trans hk
  replace hG_5 := hG_5.kp hk
  replace hG_7 := hG_7.kp hk
  refine HO.sto (want_none) rfl (st_storeAgg (c' := #[.bool r_0_1, vr_1_1]) hS (i := 0) rfl ta_34 rfl rfl rfl (List.forall_mem_cons.2 ⟨rfl, (List.forall_mem_cons.2 ⟨(shp (hS.own 2 rfl).slice).one, (fun _ h => by cases h)⟩)⟩) (Nat.le_of_ble_eq_true rfl) rfl) ?_
  rintro h_9 ⟨hS, hk⟩
  replace hS : St F_7 (Ow.box b_4 34 #[.bool r_0_1, vr_1_1] :: Ow.own 34 2 e_api_Filter (.slice (some ⟨b_3, 0, none⟩) 2 2) ([(false, (.slice (some ⟨b_1, 0, none⟩) 1 1, ([r_2] : List T_api_Addr))), (true, (.slice (some ⟨b_2, 0, none⟩) 2 2, ([r_3, r_4] : List T_api_Addr)))] : List T_api_Filter) :: Ow.own 44 17 e_api_Addr vr_1_1 r_1_1 :: fr) h_9 := hS
  replace hK := hK.trans hk
  replace hG_5 := hG_5.kp hk
  replace hG_7 := hG_7.kp hk
  refine HO.nil (thenQ_normal (?_))
  refine HW.seq ?_
  refine HW.regionA 22 mixed (fun h => (Blk h b_4 (.cells #[.bool r_0_1, vr_1_1] 34 (0, 0))) ∧ (OwnIs h 0 44 17 e_api_Addr vr_1_1 r_1_1)) [] (by kernel_rfl) ?_
  refine HA.val (k := 0) (v := .pointer (some ⟨b_4, 0, none⟩)) rfl rfl (by kernel_rfl) (by kernel_rfl) (want_none) rfl (fun _ ⟨c205, c204⟩ => q_fieldAddr fa_34_0 rfl rfl) ?_
  refine HA.val (k := 1) (v := .bool r_0_1) rfl rfl (by kernel_rfl) (by kernel_rfl) (want_none) rfl (fun _ ⟨c205, c204⟩ => q_load to_4 rfl (Blk.cell c205 rfl)) ?_
  refine HA.val (k := 2) (v := .bool r_0_1) rfl rfl (by kernel_rfl) (by kernel_rfl) (want_none) rfl (fun _ ⟨c205, c204⟩ => q_move rfl) ?_
  rcases Bool.eq_false_or_eq_true r_0_1 with c_1 | c_1
  · replace hM := hM.1 c_1
    refine HA.val (k := 3) (v := .pointer (some ⟨b_4, 1, none⟩)) rfl rfl (by kernel_rfl) (by kernel_rfl) (want_by rfl rfl c_1) rfl (fun _ ⟨c205, c204⟩ => q_fieldAddr fa_34_1 rfl rfl) ?_
    refine HA.val (k := 4) (v := vr_1_1) rfl rfl (by kernel_rfl) (by kernel_rfl) (want_by rfl rfl c_1) rfl (fun _ ⟨c205, c204⟩ => q_load to_22 rfl (Blk.cell c205 rfl)) ?_
    refine HA.val (k := 5) (v := .int .i64 (r_1_1.length : Int)) rfl rfl (by kernel_rfl) (by kernel_rfl) (want_by rfl rfl c_1) rfl (fun _ ⟨c205, c204⟩ => q_len ts_22 (shp c204.slice) rfl rfl) ?_
    refine HA.val (k := 6) (v := .bool (decide ((r_1_1.length : Int) = 1))) rfl rfl (by kernel_rfl) (by kernel_rfl) (want_by rfl rfl c_1) rfl (fun _ ⟨c205, c204⟩ => q_eql rfl rfl) ?_
    refine HA.val (k := 7) (v := .bool (decide ((r_1_1.length : Int) = 1))) rfl rfl (by kernel_rfl) (by kernel_rfl) (want_none) rfl (fun _ ⟨c205, c204⟩ => q_pickK true rfl c_1 rfl) ?_
    refine HA.val (k := 8) (v := .bool (decide ((r_1_1.length : Int) = 1))) rfl rfl (by kernel_rfl) (by kernel_rfl) (want_none) rfl (fun _ ⟨c205, c204⟩ => q_move rfl) ?_
    rcases Bool.eq_false_or_eq_true (decide ((r_1_1.length : Int) = 1)) with c_2 | c_2
    · replace hM := hM.1 (of_decide_eq_true c_2)
      refine HA.val (k := 9) (v := .pointer (some ⟨b_4, 1, none⟩)) rfl rfl (by kernel_rfl) (by kernel_rfl) (want_by rfl rfl c_2) rfl (fun _ ⟨c205, c204⟩ => q_fieldAddr fa_34_1 rfl rfl) ?_
      refine HA.val (k := 10) (v := vr_1_1) rfl rfl (by kernel_rfl) (by kernel_rfl) (want_by rfl rfl c_2) rfl (fun _ ⟨c205, c204⟩ => q_load to_22 rfl (Blk.cell c205 rfl)) ?_
      obtain ⟨ho_1, hM⟩ := hM
      refine HA.val (k := 11) (v := elemPtr 17 vr_1_1 (0 : Int).toNat) rfl rfl (by kernel_rfl) (by kernel_rfl) (want_by rfl rfl c_2) rfl (fun _ ⟨c205, c204⟩ => q_idx ts_22 c204.slice rfl rfl ho_1) ?_
      refine HA.val (k := 12) (v := .agg (e_api_Addr (gi r_1_1 0)).toArray) rfl rfl (by kernel_rfl) (by kernel_rfl) (want_by rfl rfl c_2) rfl (fun _ ⟨c205, c204⟩ => q_ldElemAgg (cs := (e_api_Addr (gi r_1_1 0))) ta_44 c204.slice rfl ho_1 rfl) ?_
      refine HA.one (k := 13) ⟨⟨(hS.box 0 rfl), (hS.own 2 rfl)⟩, (Go.Wk.at_nil _ _)⟩ (by kernel_rfl) ?_
      refine HS.call rfl (want_by rfl rfl c_2) rfl (ec en_32 rfl rfl) (law19_four_walk (fr := (Ow.box b_4 34 #[.bool r_0_1, vr_1_1] :: Ow.own 34 2 e_api_Filter (.slice (some ⟨b_3, 0, none⟩) 2 2) ([(false, (.slice (some ⟨b_1, 0, none⟩) 1 1, ([r_2] : List T_api_Addr))), (true, (.slice (some ⟨b_2, 0, none⟩) 2 2, ([r_3, r_4] : List T_api_Addr)))] : List T_api_Filter) :: Ow.own 44 17 e_api_Addr vr_1_1 r_1_1 :: fr)) 2 hS hM) ?_
      rintro _ h_10 ⟨F_8, r_5, rfl, hk, hS, hM⟩
      replace hK := hK.trans hk
      replace hG_5 := hG_5.kp hk
      replace hG_7 := hG_7.kp hk
      refine HA.val (k := 14) (v := .bool (decide (((gi r_1_1 0) : T_api_Addr) = r_5))) rfl rfl (by kernel_rfl) (by kernel_rfl) (want_by rfl rfl c_2) rfl (fun _ ⟨c205, c204⟩ => q_eqlAgg (a := (gi r_1_1 0)) (b := r_5) (fun a b w => teq_44 9997 a b w) (by kernel_rfl) rfl rfl rfl rfl) ?_
      refine HA.val (k := 15) (v := .bool (decide (((gi r_1_1 0) : T_api_Addr) = r_5))) rfl rfl (by kernel_rfl) (by kernel_rfl) (want_none) rfl (fun _ ⟨c205, c204⟩ => q_pickK true rfl c_2 rfl) ?_
      refine HA.val (k := 16) (v := .bool (decide (((gi r_1_1 0) : T_api_Addr) = r_5))) rfl rfl (by kernel_rfl) (by kernel_rfl) (want_none) rfl (fun _ ⟨c205, c204⟩ => q_move rfl) ?_
      rcases Bool.eq_false_or_eq_true (decide (((gi r_1_1 0) : T_api_Addr) = r_5)) with c_3 | c_3
      · replace hM := hM.1 (of_decide_eq_true c_3)
        refine HA.val (k := 17) (v := .agg #[.bool r_0_1, vr_1_1]) rfl rfl (by kernel_rfl) (by kernel_rfl) (want_by rfl rfl c_3) rfl (fun _ ⟨c205, c204⟩ => q_loadAgg (cs := [.bool r_0_1, vr_1_1]) ta_34 rfl rfl (Blk.cells (k := 2) c205 rfl)) ?_
        refine HA.one (k := 18) ⟨⟨(hS.box 0 rfl), (hS.own 2 rfl)⟩, (Go.Wk.at_nil _ _)⟩ (by kernel_rfl) ?_
        replace hS : St F_8 (Ow.own 44 17 e_api_Addr vr_1_1 r_1_1 :: Ow.box b_4 34 #[.bool r_0_1, vr_1_1] :: Ow.own 34 2 e_api_Filter (.slice (some ⟨b_3, 0, none⟩) 2 2) ([(false, (.slice (some ⟨b_1, 0, none⟩) 1 1, ([r_2] : List T_api_Addr))), (true, (.slice (some ⟨b_2, 0, none⟩) 2 2, ([r_3, r_4] : List T_api_Addr)))] : List T_api_Filter) :: fr) h_10 := hS.perm2 [2, 0, 1] 3 rfl rfl
        have hZ_2 := hS
        have hkz_2 := (hS.freeze).2
        replace hS := hS.freeze.1
        have hL_4 : SliceF (fun b => F_8 b ∨ (Ow.own 44 17 e_api_Addr vr_1_1 r_1_1).foot b) h_10 17 e_api_Addr vr_1_1 r_1_1 := ⟨(hZ_2.own 0 rfl).slice, fun _ b hb => .inr hb⟩
        refine HS.call rfl (want_by rfl rfl c_3) rfl (ec en_16 rfl rfl) (merge_Print_walk (fr := (Ow.box b_4 34 #[.bool r_0_1, vr_1_1] :: Ow.own 34 2 e_api_Filter (.slice (some ⟨b_3, 0, none⟩) 2 2) ([(false, (.slice (some ⟨b_1, 0, none⟩) 1 1, ([r_2] : List T_api_Addr))), (true, (.slice (some ⟨b_2, 0, none⟩) 2 2, ([r_3, r_4] : List T_api_Addr)))] : List T_api_Filter) :: fr)) r_0_1 r_1_1 vr_1_1 hS hL_4 (hG_5.kp hkz_2) (hG_7.kp hkz_2) hD hM) ?_
        rintro _ h_11 ⟨F_9, r_6, rfl, hk, hS, _, _, _, hM⟩
        obtain ⟨hS, hk⟩ := hZ_2.back hk hS
        generalize (fun b => F_9 b ∧ ¬ (Ow.own 44 17 e_api_Addr vr_1_1 r_1_1).foot b) = F_10 at hS hk
        replace hK := hK.trans hk
        replace hG_5 := hG_5.kp hk
        replace hG_7 := hG_7.kp hk
        refine HA.val (k := 19) (v := .bool (decide ((r_6 : Str) = [101, 120, 32, 49, 48, 46, 48, 46, 48, 46, 50]))) rfl rfl (by kernel_rfl) (by kernel_rfl) (want_by rfl rfl c_3) rfl (fun _ ⟨c205, c204⟩ => q_eqlT rfl rfl) ?_
        refine HA.val (k := 20) (v := .bool (decide ((r_6 : Str) = [101, 120, 32, 49, 48, 46, 48, 46, 48, 46, 50]))) rfl rfl (by kernel_rfl) (by kernel_rfl) (want_none) rfl (fun _ ⟨c205, c204⟩ => q_pickK true rfl c_3 rfl) ?_
        refine HA.val (k := 21) (v := .bool (decide ((r_6 : Str) = [101, 120, 32, 49, 48, 46, 48, 46, 48, 46, 50]))) rfl rfl (by kernel_rfl) (by kernel_rfl) (want_none) rfl (fun _ ⟨c205, c204⟩ => q_assign rfl) ?_
        refine HA.nil ⟨⟨(hS.box 1 rfl), (hS.own 0 rfl)⟩, (Go.Wk.at_nil _ _)⟩ (by kernel_rfl) (thenQ_normal (?_))
        refine HW.ret (?_)
        refine ⟨.inr rfl, .bool (decide ((r_6 : Str) = [101, 120, 32, 49, 48, 46, 48, 46, 48, 46, 50])), res1 rfl (rt rfl), ?_⟩
        replace hS : St F_10 (fr) h_11 := hS.perm2 [] 3 rfl rfl
        exact ⟨F_10, decide ((r_6 : Str) = [101, 120, 32, 49, 48, 46, 48, 46, 48, 46, 50]), rfl, hK, hS, hG_5, hG_7, hM⟩
      · replace hM := hM.2 (of_decide_eq_false c_3)
        refine HA.past (k := 17) rfl rfl (by kernel_rfl) (by kernel_rfl) (past_by rfl rfl c_3) rfl ?_
        refine HA.one (k := 18) ⟨⟨(hS.box 0 rfl), (hS.own 2 rfl)⟩, (Go.Wk.at_nil _ _)⟩ (by kernel_rfl) ?_
        refine HS.past rfl (past_by rfl rfl c_3) rfl ?_
        refine HA.past (k := 19) rfl rfl (by kernel_rfl) (by kernel_rfl) (past_by rfl rfl c_3) rfl ?_
        refine HA.val (k := 20) (v := .bool false) rfl rfl (by kernel_rfl) (by kernel_rfl) (want_none) rfl (fun _ ⟨c205, c204⟩ => q_pickK false rfl c_3 rfl) ?_
        refine HA.val (k := 21) (v := .bool false) rfl rfl (by kernel_rfl) (by kernel_rfl) (want_none) rfl (fun _ ⟨c205, c204⟩ => q_assign rfl) ?_
        refine HA.nil ⟨⟨(hS.box 0 rfl), (hS.own 2 rfl)⟩, (Go.Wk.at_nil _ _)⟩ (by kernel_rfl) (thenQ_normal (?_))
        refine HW.ret (?_)
        refine ⟨.inr rfl, .bool false, res1 rfl (rt rfl), ?_⟩
        replace hS : St F_8 (fr) h_10 := hS.perm2 [] 3 rfl rfl
        exact ⟨F_8, false, rfl, hK, hS, hG_5, hG_7, hM⟩
    · replace hM := hM.2 (of_decide_eq_false c_2)
      refine HA.past (k := 9) rfl rfl (by kernel_rfl) (by kernel_rfl) (past_by rfl rfl c_2) rfl ?_
      refine HA.past (k := 10) rfl rfl (by kernel_rfl) (by kernel_rfl) (past_by rfl rfl c_2) rfl ?_
      refine HA.past (k := 11) rfl rfl (by kernel_rfl) (by kernel_rfl) (past_by rfl rfl c_2) rfl ?_
      refine HA.past (k := 12) rfl rfl (by kernel_rfl) (by kernel_rfl) (past_by rfl rfl c_2) rfl ?_
      refine HA.one (k := 13) ⟨⟨(hS.box 0 rfl), (hS.own 2 rfl)⟩, (Go.Wk.at_nil _ _)⟩ (by kernel_rfl) ?_
      refine HS.past rfl (past_by rfl rfl c_2) rfl ?_
      refine HA.past (k := 14) rfl rfl (by kernel_rfl) (by kernel_rfl) (past_by rfl rfl c_2) rfl ?_
      refine HA.val (k := 15) (v := .bool false) rfl rfl (by kernel_rfl) (by kernel_rfl) (want_none) rfl (fun _ ⟨c205, c204⟩ => q_pickK false rfl c_2 rfl) ?_
      refine HA.val (k := 16) (v := .bool false) rfl rfl (by kernel_rfl) (by kernel_rfl) (want_none) rfl (fun _ ⟨c205, c204⟩ => q_move rfl) ?_
      refine HA.past (k := 17) rfl rfl (by kernel_rfl) (by kernel_rfl) (past_some rfl rfl) rfl ?_
      refine HA.one (k := 18) ⟨⟨(hS.box 0 rfl), (hS.own 2 rfl)⟩, (Go.Wk.at_nil _ _)⟩ (by kernel_rfl) ?_
      refine HS.past rfl (past_some rfl rfl) rfl ?_
      refine HA.past (k := 19) rfl rfl (by kernel_rfl) (by kernel_rfl) (past_some rfl rfl) rfl ?_
      refine HA.val (k := 20) (v := .bool false) rfl rfl (by kernel_rfl) (by kernel_rfl) (want_none) rfl (fun _ ⟨c205, c204⟩ => q_pick rfl rfl) ?_
      refine HA.val (k := 21) (v := .bool false) rfl rfl (by kernel_rfl) (by kernel_rfl) (want_none) rfl (fun _ ⟨c205, c204⟩ => q_assign rfl) ?_
      refine HA.nil ⟨⟨(hS.box 0 rfl), (hS.own 2 rfl)⟩, (Go.Wk.at_nil _ _)⟩ (by kernel_rfl) (thenQ_normal (?_))
      refine HW.ret (?_)
      refine ⟨.inr rfl, .bool false, res1 rfl (rt rfl), ?_⟩
      replace hS : St F_7 (fr) h_9 := hS.perm2 [] 3 rfl rfl
      exact ⟨F_7, false, rfl, hK, hS, hG_5, hG_7, hM⟩
  · replace hM := hM.2 c_1
    refine HA.past (k := 3) rfl rfl (by kernel_rfl) (by kernel_rfl) (past_by rfl rfl c_1) rfl ?_
    refine HA.past (k := 4) rfl rfl (by kernel_rfl) (by kernel_rfl) (past_by rfl rfl c_1) rfl ?_
    refine HA.past (k := 5) rfl rfl (by kernel_rfl) (by kernel_rfl) (past_by rfl rfl c_1) rfl ?_
    refine HA.past (k := 6) rfl rfl (by kernel_rfl) (by kernel_rfl) (past_by rfl rfl c_1) rfl ?_
    refine HA.val (k := 7) (v := .bool false) rfl rfl (by kernel_rfl) (by kernel_rfl) (want_none) rfl (fun _ ⟨c205, c204⟩ => q_pickK false rfl c_1 rfl) ?_
    refine HA.val (k := 8) (v := .bool false) rfl rfl (by kernel_rfl) (by kernel_rfl) (want_none) rfl (fun _ ⟨c205, c204⟩ => q_move rfl) ?_
    refine HA.past (k := 9) rfl rfl (by kernel_rfl) (by kernel_rfl) (past_some rfl rfl) rfl ?_
    refine HA.past (k := 10) rfl rfl (by kernel_rfl) (by kernel_rfl) (past_some rfl rfl) rfl ?_
    refine HA.past (k := 11) rfl rfl (by kernel_rfl) (by kernel_rfl) (past_some rfl rfl) rfl ?_
    refine HA.past (k := 12) rfl rfl (by kernel_rfl) (by kernel_rfl) (past_some rfl rfl) rfl ?_
    refine HA.one (k := 13) ⟨⟨(hS.box 0 rfl), (hS.own 2 rfl)⟩, (Go.Wk.at_nil _ _)⟩ (by kernel_rfl) ?_
    refine HS.past rfl (past_some rfl rfl) rfl ?_
    refine HA.past (k := 14) rfl rfl (by kernel_rfl) (by kernel_rfl) (past_some rfl rfl) rfl ?_
    refine HA.val (k := 15) (v := .bool false) rfl rfl (by kernel_rfl) (by kernel_rfl) (want_none) rfl (fun _ ⟨c205, c204⟩ => q_pick rfl rfl) ?_
    refine HA.val (k := 16) (v := .bool false) rfl rfl (by kernel_rfl) (by kernel_rfl) (want_none) rfl (fun _ ⟨c205, c204⟩ => q_move rfl) ?_
    refine HA.past (k := 17) rfl rfl (by kernel_rfl) (by kernel_rfl) (past_some rfl rfl) rfl ?_
    refine HA.one (k := 18) ⟨⟨(hS.box 0 rfl), (hS.own 2 rfl)⟩, (Go.Wk.at_nil _ _)⟩ (by kernel_rfl) ?_
    refine HS.past rfl (past_some rfl rfl) rfl ?_
    refine HA.past (k := 19) rfl rfl (by kernel_rfl) (by kernel_rfl) (past_some rfl rfl) rfl ?_
    refine HA.val (k := 20) (v := .bool false) rfl rfl (by kernel_rfl) (by kernel_rfl) (want_none) rfl (fun _ ⟨c205, c204⟩ => q_pick rfl rfl) ?_
    refine HA.val (k := 21) (v := .bool false) rfl rfl (by kernel_rfl) (by kernel_rfl) (want_none) rfl (fun _ ⟨c205, c204⟩ => q_assign rfl) ?_
    refine HA.nil ⟨⟨(hS.box 0 rfl), (hS.own 2 rfl)⟩, (Go.Wk.at_nil _ _)⟩ (by kernel_rfl) (thenQ_normal (?_))
    refine HW.ret (?_)
    refine ⟨.inr rfl, .bool false, res1 rfl (rt rfl), ?_⟩
    replace hS : St F_7 (fr) h_9 := hS.perm2 [] 3 rfl rfl
    exact ⟨F_7, false, rfl, hK, hS, hG_5, hG_7, hM⟩

def law19_MergeTexts_j2 (Q : Bool → Prop) (b_5 : Bool) : Prop :=
  Q b_5
def law19_MergeTexts_j1 (Q : Bool → Prop) (r_2 : Str) (r0_0_2 : Bool) (r0_1_2 : List T_api_Addr) (r1_2 : Int) (b_4 : Bool) : Prop :=
  (b_4 = true → Q false) ∧ (b_4 = false → (¬ (r1_2 = 0) → ref19_Same_W r0_0_2 r0_1_2 false [] (fun r_7 => (r_7 = true → (r1_2 = 2 → law19_lives_W  (fun r_8 => law19_MergeTexts_j2 Q r_8)) ∧ (¬ (r1_2 = 2) → law19_MergeTexts_j2 Q false)) ∧ (r_7 = false → law19_MergeTexts_j2 Q false))) ∧ (r1_2 = 0 → ref19_Print_W r0_0_2 r0_1_2 (fun r_9 => ((r_9 : Str) = r_2 → law19_lives_W  (fun r_10 => Q r_10)) ∧ (¬ ((r_9 : Str) = r_2) → Q false))))
def law19_MergeTexts_W (f_Exclude : Bool) (f_Sources : List T_api_Addr) (s1 : Str) (Q : Bool → Prop) : Prop :=
  law19_Few_W f_Exclude f_Sources (fun r_0_1 r_1_1 => law01_Cut_W s1 80 (fun r_2 => ref19_Print_W r_0_1 r_1_1 (fun r_3 => merge_Parse_W r_3 (fun r0_0_1 r0_1_1 r1_1 => merge_Parse_W r_2 (fun r0_0_2 r0_1_2 r1_2 => law19_Few_W r_0_1 r_1_1 (fun r_0_2 r_1_2 => merge_Print_W r_0_2 r_1_2 (fun r_4 => ref19_Print_W r_0_1 r_1_1 (fun r_5 => (¬ ((r_4 : Str) = r_5) → law19_MergeTexts_j1 Q r_2 r0_0_2 r0_1_2 r1_2 true) ∧ ((r_4 : Str) = r_5 → ref19_Same_W r0_0_1 r0_1_1 r_0_1 r_1_1 (fun r_6 => ((!r_6) = true → law19_MergeTexts_j1 Q r_2 r0_0_2 r0_1_2 r1_2 true) ∧ ((!r_6) = false → law19_MergeTexts_j1 Q r_2 r0_0_2 r0_1_2 r1_2 (!decide (r1_1 = 0)))))))))))))
set_option maxHeartbeats 40000000 in
set_option maxRecDepth 100000 in
theorem law19_MergeTexts_walk {F : Fz} {fr : List Ow} {h0 : Heap} (f_Exclude : Bool) (f_Sources : List T_api_Addr) (s1 : Str) (vf_Sources : Value) (gm : Int) (gvS : Value) (gbS : Bool) (gvR : Value) (gbR : Bool) (hS : St F (fr) h0) (hL_f_Sources : SliceF F h0 17 e_api_Addr vf_Sources f_Sources) (hG_0 : RoF (Ow.box 0 3 #[.int .i64 gm]) F h0) (hG_3 : RoF (Ow.box 3 75 #[gvS]) F h0) (hE_gvS : ErrF gbS gvS F h0) (hG_4 : RoF (Ow.box 4 75 #[gvR]) F h0) (hE_gvR : ErrF gbR gvR F h0) (hG_5 : RoF (Ow.box 5 160 (tab10 ()).toArray) F h0) (hG_7 : RoF (Ow.box 7 164 (arrCells tab64).toArray) F h0) (hD : DM.on = false) {Q : Bool → Prop} (hM : law19_MergeTexts_W f_Exclude f_Sources s1 Q) :
    HC Tryz.prog 4 #[.agg #[.bool f_Exclude, vf_Sources], .string (bs s1)] h0 fun u h' => ∃ (F' : Fz) (r_1 : Bool), u = .bool r_1 ∧ Kp F h0 F' h' ∧ St F' (fr) h' ∧ (SliceF F' h' 17 e_api_Addr vf_Sources f_Sources) ∧ (RoF (Ow.box 0 3 #[.int .i64 gm]) F' h') ∧ (RoF (Ow.box 3 75 #[gvS]) F' h') ∧ (ErrF gbS gvS F' h') ∧ (RoF (Ow.box 4 75 #[gvR]) F' h') ∧ (ErrF gbR gvR F' h') ∧ (RoF (Ow.box 5 160 (tab10 ()).toArray) F' h') ∧ (RoF (Ow.box 7 164 (arrCells tab64).toArray) F' h') ∧ Q r_1 := by
  unfold law19_MergeTexts_W at hM
  have hK := Kp.refl F h0
  refine HC.of_HW (n := 59) Tryz.func4 rfl rfl (Nat.le_of_ble_eq_true rfl) ?_
  refine HW.seq ?_
  refine HW.region ?_
  refine HO.eff (want_none) rfl (st_box (c := #[.bool f_Exclude, vf_Sources]) (k' := 2) hS rfl rfl) ?_
  rintro _ h_1 ⟨b_1, rfl, hS, hk⟩
  replace hK := hK.trans hk
  replace hL_f_Sources := hL_f_Sources.kp hk
  replace hG_0 := hG_0.kp hk
  replace hG_3 := hG_3.kp hk
  replace hE_gvS := hE_gvS.kp hk
  replace hG_4 := hG_4.kp hk
  replace hE_gvR := hE_gvR.kp hk
  replace hG_5 := hG_5.kp hk
  replace hG_7 := hG_7.kp hk
  refine HO.val (v := .bool false) (want_none) rfl (q_assign rfl) ?_
  refine HO.nil (thenQ_normal (?_))
  refine HW.seq ?_
  refine HW.region ?_
  refine HO.val (v := .agg #[.bool f_Exclude, vf_Sources]) (want_none) rfl (q_loadAgg (cs := [.bool f_Exclude, vf_Sources]) ta_34 rfl rfl (Blk.cells (k := 2) (hS.box 0 rfl) rfl)) ?_
  refine HO.call (want_none) rfl (ec en_13 rfl rfl) (law19_Few_walk (fr := (Ow.box b_1 34 #[.bool f_Exclude, vf_Sources] :: fr)) f_Exclude f_Sources vf_Sources hS hL_f_Sources hM) ?_
  rintro _ h_2 ⟨F_1, r_0_1, r_1_1, vr_1_1, rfl, hk, hS, _, hL_1, hM⟩
  replace hK := hK.trans hk
  replace hL_f_Sources := hL_f_Sources.kp hk
  replace hG_0 := hG_0.kp hk
  replace hG_3 := hG_3.kp hk
  replace hE_gvS := hE_gvS.kp hk
  replace hG_4 := hG_4.kp hk
  replace hE_gvR := hE_gvR.kp hk
  replace hG_5 := hG_5.kp hk
  replace hG_7 := hG_7.kp hk
  refine HO.val (v := .string (bs s1)) (want_none) rfl (q_move rfl) ?_
  refine HO.call (want_none) rfl (ec en_5 rfl rfl) (law01_Cut_walk (fr := (Ow.box b_1 34 #[.bool f_Exclude, vf_Sources] :: fr)) s1 80 hS hM) ?_
  rintro _ h_3 ⟨F_2, r_2, rfl, hk, hS, hM⟩
  replace hK := hK.trans hk
  replace hL_f_Sources := hL_f_Sources.kp hk
  replace hG_0 := hG_0.kp hk
  replace hG_3 := hG_3.kp hk
  replace hE_gvS := hE_gvS.kp hk
  replace hG_4 := hG_4.kp hk
  replace hE_gvR := hE_gvR.kp hk
  replace hG_5 := hG_5.kp hk
  replace hG_7 := hG_7.kp hk
  replace hL_1 := hL_1.kp hk
  refine HO.sto (want_none) rfl (st_storeAgg (c' := #[.bool r_0_1, vr_1_1]) hS (i := 0) rfl ta_34 rfl rfl rfl (List.forall_mem_cons.2 ⟨rfl, (List.forall_mem_cons.2 ⟨(shp hL_1.is).one, (fun _ h => by cases h)⟩)⟩) (Nat.le_of_ble_eq_true rfl) rfl) ?_
  rintro h_4 ⟨hS, hk⟩
  replace hS : St F_2 (Ow.box b_1 34 #[.bool r_0_1, vr_1_1] :: fr) h_4 := hS
  replace hK := hK.trans hk
  replace hL_f_Sources := hL_f_Sources.kp hk
  replace hG_0 := hG_0.kp hk
  replace hG_3 := hG_3.kp hk
  replace hE_gvS := hE_gvS.kp hk
  replace hG_4 := hG_4.kp hk
  replace hE_gvR := hE_gvR.kp hk
  replace hG_5 := hG_5.kp hk
  replace hG_7 := hG_7.kp hk
  replace hL_1 := hL_1.kp hk
  refine HO.val (v := .string (bs r_2)) (want_none) rfl (q_assign rfl) ?_
  refine HO.nil (thenQ_normal (?_))
  refine HW.seq ?_
  refine HW.region ?_
  refine HO.val (v := .agg #[.bool r_0_1, vr_1_1]) (want_none) rfl (q_loadAgg (cs := [.bool r_0_1, vr_1_1]) ta_34 rfl rfl (Blk.cells (k := 2) (hS.box 0 rfl) rfl)) ?_
  refine HO.call (want_none) rfl (ec en_15 rfl rfl) (ref19_Print_walk (fr := (Ow.box b_1 34 #[.bool r_0_1, vr_1_1] :: fr)) r_0_1 r_1_1 vr_1_1 hS hL_1 hM) ?_
  rintro _ h_5 ⟨F_3, r_3, rfl, hk, hS, _, hM⟩
  replace hK := hK.trans hk
  replace hL_f_Sources := hL_f_Sources.kp hk
  replace hG_0 := hG_0.kp hk
  replace hG_3 := hG_3.kp hk
  replace hE_gvS := hE_gvS.kp hk
  replace hG_4 := hG_4.kp hk
  replace hE_gvR := hE_gvR.kp hk
  replace hG_5 := hG_5.kp hk
  replace hG_7 := hG_7.kp hk
  replace hL_1 := hL_1.kp hk
  refine HO.call (want_none) rfl (ec en_14 rfl rfl) (merge_Parse_walk (fr := (Ow.box b_1 34 #[.bool r_0_1, vr_1_1] :: fr)) r_3 gm gvS gbS gvR gbR hS hG_0 hG_3 hE_gvS hG_4 hE_gvR hG_5 hG_7 hD hM) ?_
  rintro _ h_6 ⟨F_4, r0_0_1, r0_1_1, r1_1, vr0_1_1, rfl, hk, hS, _, _, _, _, _, _, _, hM⟩
  replace hK := hK.trans hk
  replace hL_f_Sources := hL_f_Sources.kp hk
  replace hG_0 := hG_0.kp hk
  replace hG_3 := hG_3.kp hk
  replace hE_gvS := hE_gvS.kp hk
  replace hG_4 := hG_4.kp hk
  replace hE_gvR := hE_gvR.kp hk
  replace hG_5 := hG_5.kp hk
  replace hG_7 := hG_7.kp hk
  replace hL_1 := hL_1.kp hk
  refine HO.val (v := .tuple #[.agg #[.bool r0_0_1, vr0_1_1], .int .i64 r1_1]) (want_none) rfl (q_move rfl) ?_
  refine HO.val (v := .agg #[.bool r0_0_1, vr0_1_1]) (want_none) rfl (q_extract rfl rfl) ?_
  refine HO.val (v := .int .i64 r1_1) (want_none) rfl (q_extract rfl rfl) ?_
  refine HO.eff (want_none) rfl (st_alloc (c := #[.bool false, .slice none 0 0]) hS tz_34 rfl) ?_
  rintro _ h_7 ⟨b_2, rfl, hS, hk⟩
  replace hK := hK.trans hk
  replace hL_f_Sources := hL_f_Sources.kp hk
  replace hG_0 := hG_0.kp hk
  replace hG_3 := hG_3.kp hk
  replace hE_gvS := hE_gvS.kp hk
  replace hG_4 := hG_4.kp hk
  replace hE_gvR := hE_gvR.kp hk
  replace hG_5 := hG_5.kp hk
  replace hG_7 := hG_7.kp hk
  replace hL_1 := hL_1.kp hk
  refine HO.sto (want_none) rfl (st_storeAgg (c' := #[.bool r0_0_1, vr0_1_1]) hS (i := 0) rfl ta_34 rfl rfl rfl (List.forall_mem_cons.2 ⟨rfl, (List.forall_mem_cons.2 ⟨(shp (hS.own 1 rfl).slice).one, (fun _ h => by cases h)⟩)⟩) (Nat.le_of_ble_eq_true rfl) rfl) ?_
  rintro h_8 ⟨hS, hk⟩
  replace hS : St F_4 (Ow.box b_2 34 #[.bool r0_0_1, vr0_1_1] :: Ow.own 44 17 e_api_Addr vr0_1_1 r0_1_1 :: Ow.box b_1 34 #[.bool r_0_1, vr_1_1] :: fr) h_8 := hS
  replace hK := hK.trans hk
  replace hL_f_Sources := hL_f_Sources.kp hk
  replace hG_0 := hG_0.kp hk
  replace hG_3 := hG_3.kp hk
  replace hE_gvS := hE_gvS.kp hk
  replace hG_4 := hG_4.kp hk
  replace hE_gvR := hE_gvR.kp hk
  replace hG_5 := hG_5.kp hk
  replace hG_7 := hG_7.kp hk
  replace hL_1 := hL_1.kp hk
  refine HO.val (v := .int .i64 r1_1) (want_none) rfl (q_assign rfl) ?_
  refine HO.nil (thenQ_normal (?_))
  refine HW.seq ?_
  refine HW.region ?_
  refine HO.val (v := .string (bs r_2)) (want_none) rfl (q_move rfl) ?_
  refine HO.call (want_none) rfl (ec en_14 rfl rfl) (merge_Parse_walk (fr := (Ow.box b_2 34 #[.bool r0_0_1, vr0_1_1] :: Ow.own 44 17 e_api_Addr vr0_1_1 r0_1_1 :: Ow.box b_1 34 #[.bool r_0_1, vr_1_1] :: fr)) r_2 gm gvS gbS gvR gbR hS hG_0 hG_3 hE_gvS hG_4 hE_gvR hG_5 hG_7 hD hM) ?_
  rintro _ h_9 ⟨F_5, r0_0_2, r0_1_2, r1_2, vr0_1_2, rfl, hk, hS, _, _, _, _, _, _, _, hM⟩
  replace hK := hK.trans hk
  replace hL_f_Sources := hL_f_Sources.kp hk
  replace hG_0 := hG_0.kp hk
  replace hG_3 := hG_3.kp hk
  replace hE_gvS := hE_gvS.kp hk
  replace hG_4 := hG_4.kp hk
  replace hE_gvR := hE_gvR.kp hk
  replace hG_5 := hG_5.kp hk
  replace hG_7 := hG_7.kp hk
  replace hL_1 := hL_1.kp hk
  refine HO.val (v := .tuple #[.agg #[.bool r0_0_2, vr0_1_2], .int .i64 r1_2]) (want_none) rfl (q_move rfl) ?_
  refine HO.val (v := .agg #[.bool r0_0_2, vr0_1_2]) (want_none) rfl (q_extract rfl rfl) ?_
  refine HO.val (v := .int .i64 r1_2) (want_none) rfl (q_extract rfl rfl) ?_
  refine HO.eff (want_none) rfl (st_alloc (c := #[.bool false, .slice none 0 0]) hS tz_34 rfl) ?_
  rintro _ h_10 ⟨b_3, rfl, hS, hk⟩
  replace hK := hK.trans hk
  replace hL_f_Sources := hL_f_Sources.kp hk
  replace hG_0 := hG_0.kp hk
  replace hG_3 := hG_3.kp hk
  replace hE_gvS := hE_gvS.kp hk
  replace hG_4 := hG_4.kp hk
  replace hE_gvR := hE_gvR.kp hk
  replace hG_5 := hG_5.kp hk
  replace hG_7 := hG_7.kp hk
  replace hL_1 := hL_1.kp hk
  refine HO.sto (want_none) rfl (st_storeAgg (c' := #[.bool r0_0_2, vr0_1_2]) hS (i := 0) rfl ta_34 rfl rfl rfl (List.forall_mem_cons.2 ⟨rfl, (List.forall_mem_cons.2 ⟨(shp (hS.own 1 rfl).slice).one, (fun _ h => by cases h)⟩)⟩) (Nat.le_of_ble_eq_true rfl) rfl) ?_
  rintro h_11 ⟨hS, hk⟩
  replace hS : St F_5 (Ow.box b_3 34 #[.bool r0_0_2, vr0_1_2] :: Ow.own 44 17 e_api_Addr vr0_1_2 r0_1_2 :: Ow.box b_2 34 #[.bool r0_0_1, vr0_1_1] :: Ow.own 44 17 e_api_Addr vr0_1_1 r0_1_1 :: Ow.box b_1 34 #[.bool r_0_1, vr_1_1] :: fr) h_11 := hS
  replace hK := hK.trans hk
  replace hL_f_Sources := hL_f_Sources.kp hk
  replace hG_0 := hG_0.kp hk
  replace hG_3 := hG_3.kp hk
  replace hE_gvS := hE_gvS.kp hk
  replace hG_4 := hG_4.kp hk
  replace hE_gvR := hE_gvR.kp hk
  replace hG_5 := hG_5.kp hk
  replace hG_7 := hG_7.kp hk
  replace hL_1 := hL_1.kp hk
  refine HO.val (v := .int .i64 r1_2) (want_none) rfl (q_assign rfl) ?_
  refine HO.nil (thenQ_normal (?_))
  refine HW.seq ?_
  refine HW.seq_mid (fun f h => ∃ (F' : Fz) (b_4 : Bool), f 1 = .string (bs r_2) ∧ f 4 = .bool false ∧ f 7 = .pointer (some ⟨b_3, 0, none⟩) ∧ f 8 = .int .i64 r1_2 ∧ f 39 = .bool b_4 ∧ Kp F h0 F' h ∧ St F' (Ow.box b_3 34 #[.bool r0_0_2, vr0_1_2] :: Ow.own 44 17 e_api_Addr vr0_1_2 r0_1_2 :: fr) h ∧ (SliceF F' h 17 e_api_Addr vf_Sources f_Sources) ∧ (RoF (Ow.box 0 3 #[.int .i64 gm]) F' h) ∧ (RoF (Ow.box 3 75 #[gvS]) F' h) ∧ (ErrF gbS gvS F' h) ∧ (RoF (Ow.box 4 75 #[gvR]) F' h) ∧ (ErrF gbR gvR F' h) ∧ (RoF (Ow.box 5 160 (tab10 ()).toArray) F' h) ∧ (RoF (Ow.box 7 164 (arrCells tab64).toArray) F' h) ∧ (SliceF F' h 17 e_api_Addr vr_1_1 r_1_1) ∧ law19_MergeTexts_j1 Q r_2 r0_0_2 r0_1_2 r1_2 b_4) ?_ ?_
  · refine HW.regionA 16 mixed (fun h => (Blk h b_2 (.cells #[.bool r0_0_1, vr0_1_1] 34 (0, 0))) ∧ (Blk h b_1 (.cells #[.bool r_0_1, vr_1_1] 34 (0, 0)))) [] (by kernel_rfl) ?_
    refine HA.val (k := 0) (v := .agg #[.bool r_0_1, vr_1_1]) rfl rfl (by kernel_rfl) (by kernel_rfl) (want_none) rfl (fun _ ⟨c203, c201⟩ => q_loadAgg (cs := [.bool r_0_1, vr_1_1]) ta_34 rfl rfl (Blk.cells (k := 2) c201 rfl)) ?_
    refine HA.val (k := 3) (v := .agg #[.bool r_0_1, vr_1_1]) rfl rfl (by kernel_rfl) (by kernel_rfl) (want_none) rfl (fun _ ⟨c203, c201⟩ => q_loadAgg (cs := [.bool r_0_1, vr_1_1]) ta_34 rfl rfl (Blk.cells (k := 2) c201 rfl)) ?_
    refine HA.one (k := 1) ⟨⟨(hS.box 2 rfl), (hS.box 4 rfl)⟩, (Go.Wk.at_nil _ _)⟩ (by kernel_rfl) ?_
    refine HS.call rfl (want_none) rfl (ec en_13 rfl rfl) (law19_Few_walk (fr := (Ow.box b_3 34 #[.bool r0_0_2, vr0_1_2] :: Ow.own 44 17 e_api_Addr vr0_1_2 r0_1_2 :: Ow.box b_2 34 #[.bool r0_0_1, vr0_1_1] :: Ow.own 44 17 e_api_Addr vr0_1_1 r0_1_1 :: Ow.box b_1 34 #[.bool r_0_1, vr_1_1] :: fr)) r_0_1 r_1_1 vr_1_1 hS hL_1 hM) ?_
    rintro _ h_12 ⟨F_6, r_0_2, r_1_2, vr_1_2, rfl, hk, hS, _, hL_2, hM⟩
    replace hK := hK.trans hk
    replace hL_f_Sources := hL_f_Sources.kp hk
    replace hG_0 := hG_0.kp hk
    replace hG_3 := hG_3.kp hk
    replace hE_gvS := hE_gvS.kp hk
    replace hG_4 := hG_4.kp hk
    replace hE_gvR := hE_gvR.kp hk
    replace hG_5 := hG_5.kp hk
    replace hG_7 := hG_7.kp hk
    replace hL_1 := hL_1.kp hk
    refine HA.one (k := 2) ⟨⟨(hS.box 2 rfl), (hS.box 4 rfl)⟩, (Go.Wk.at_nil _ _)⟩ (by kernel_rfl) ?_
    refine HS.call rfl (want_none) rfl (ec en_16 rfl rfl) (merge_Print_walk (fr := (Ow.box b_3 34 #[.bool r0_0_2, vr0_1_2] :: Ow.own 44 17 e_api_Addr vr0_1_2 r0_1_2 :: Ow.box b_2 34 #[.bool r0_0_1, vr0_1_1] :: Ow.own 44 17 e_api_Addr vr0_1_1 r0_1_1 :: Ow.box b_1 34 #[.bool r_0_1, vr_1_1] :: fr)) r_0_2 r_1_2 vr_1_2 hS hL_2 hG_5 hG_7 hD hM) ?_
    rintro _ h_13 ⟨F_7, r_4, rfl, hk, hS, _, _, _, hM⟩
    replace hK := hK.trans hk
    replace hL_f_Sources := hL_f_Sources.kp hk
    replace hG_0 := hG_0.kp hk
    replace hG_3 := hG_3.kp hk
    replace hE_gvS := hE_gvS.kp hk
    replace hG_4 := hG_4.kp hk
    replace hE_gvR := hE_gvR.kp hk
    replace hG_5 := hG_5.kp hk
    replace hG_7 := hG_7.kp hk
    replace hL_1 := hL_1.kp hk
    refine HA.one (k := 4) ⟨⟨(hS.box 2 rfl), (hS.box 4 rfl)⟩, (Go.Wk.at_nil _ _)⟩ (by kernel_rfl) ?_
    refine HS.call rfl (want_none) rfl (ec en_15 rfl rfl) (ref19_Print_walk (fr := (Ow.box b_3 34 #[.bool r0_0_2, vr0_1_2] :: Ow.own 44 17 e_api_Addr vr0_1_2 r0_1_2 :: Ow.box b_2 34 #[.bool r0_0_1, vr0_1_1] :: Ow.own 44 17 e_api_Addr vr0_1_1 r0_1_1 :: Ow.box b_1 34 #[.bool r_0_1, vr_1_1] :: fr)) r_0_1 r_1_1 vr_1_1 hS hL_1 hM) ?_
    rintro _ h_14 ⟨F_8, r_5, rfl, hk, hS, _, hM⟩
    replace hK := hK.trans hk
    replace hL_f_Sources := hL_f_Sources.kp hk
    replace hG_0 := hG_0.kp hk
    replace hG_3 := hG_3.kp hk
    replace hE_gvS := hE_gvS.kp hk
    replace hG_4 := hG_4.kp hk
    replace hE_gvR := hE_gvR.kp hk
    replace hG_5 := hG_5.kp hk
    replace hG_7 := hG_7.kp hk
    replace hL_1 := hL_1.kp hk
    refine HA.val (k := 5) (v := .bool (!decide ((r_4 : Str) = r_5))) rfl rfl (by kernel_rfl) (by kernel_rfl) (want_none) rfl (fun _ ⟨c203, c201⟩ => q_neqT rfl rfl) ?_
    refine HA.val (k := 6) (v := .bool (!decide ((r_4 : Str) = r_5))) rfl rfl (by kernel_rfl) (by kernel_rfl) (want_none) rfl (fun _ ⟨c203, c201⟩ => q_move rfl) ?_
    rcases Bool.eq_false_or_eq_true (!decide ((r_4 : Str) = r_5)) with c_1 | c_1
    · replace hM := hM.1 (nd_true c_1)
      refine HA.past (k := 7) rfl rfl (by kernel_rfl) (by kernel_rfl) (past_by rfl rfl c_1) rfl ?_
      refine HA.past (k := 8) rfl rfl (by kernel_rfl) (by kernel_rfl) (past_by rfl rfl c_1) rfl ?_
      refine HA.one (k := 9) ⟨⟨(hS.box 2 rfl), (hS.box 4 rfl)⟩, (Go.Wk.at_nil _ _)⟩ (by kernel_rfl) ?_
      refine HS.past rfl (past_by rfl rfl c_1) rfl ?_
      refine HA.past (k := 10) rfl rfl (by kernel_rfl) (by kernel_rfl) (past_by rfl rfl c_1) rfl ?_
      refine HA.val (k := 11) (v := .bool true) rfl rfl (by kernel_rfl) (by kernel_rfl) (want_none) rfl (fun _ ⟨c203, c201⟩ => q_pickK true rfl c_1 rfl) ?_
      refine HA.val (k := 12) (v := .bool true) rfl rfl (by kernel_rfl) (by kernel_rfl) (want_none) rfl (fun _ ⟨c203, c201⟩ => q_move rfl) ?_
      refine HA.past (k := 13) rfl rfl (by kernel_rfl) (by kernel_rfl) (past_some rfl rfl) rfl ?_
      refine HA.past (k := 14) rfl rfl (by kernel_rfl) (by kernel_rfl) (past_some rfl rfl) rfl ?_
      refine HA.val (k := 15) (v := .bool true) rfl rfl (by kernel_rfl) (by kernel_rfl) (want_none) rfl (fun _ ⟨c203, c201⟩ => q_pick rfl rfl) ?_
      refine HA.nil ⟨⟨(hS.box 2 rfl), (hS.box 4 rfl)⟩, (Go.Wk.at_nil _ _)⟩ (by kernel_rfl) (thenQ_normal (?_))
      replace hS : St F_8 (Ow.box b_3 34 #[.bool r0_0_2, vr0_1_2] :: Ow.own 44 17 e_api_Addr vr0_1_2 r0_1_2 :: fr) h_14 := hS.perm2 [0, 1] 5 rfl rfl
      exact ⟨F_8, true, rfl, rfl, rfl, rfl, rfl, hK, hS, hL_f_Sources, hG_0, hG_3, hE_gvS, hG_4, hE_gvR, hG_5, hG_7, hL_1, hM⟩
    · replace hM := hM.2 (nd_false c_1)
      refine HA.val (k := 7) (v := .agg #[.bool r0_0_1, vr0_1_1]) rfl rfl (by kernel_rfl) (by kernel_rfl) (want_by rfl rfl c_1) rfl (fun _ ⟨c203, c201⟩ => q_loadAgg (cs := [.bool r0_0_1, vr0_1_1]) ta_34 rfl rfl (Blk.cells (k := 2) c203 rfl)) ?_
      refine HA.val (k := 8) (v := .agg #[.bool r_0_1, vr_1_1]) rfl rfl (by kernel_rfl) (by kernel_rfl) (want_by rfl rfl c_1) rfl (fun _ ⟨c203, c201⟩ => q_loadAgg (cs := [.bool r_0_1, vr_1_1]) ta_34 rfl rfl (Blk.cells (k := 2) c201 rfl)) ?_
      refine HA.one (k := 9) ⟨⟨(hS.box 2 rfl), (hS.box 4 rfl)⟩, (Go.Wk.at_nil _ _)⟩ (by kernel_rfl) ?_
      replace hS : St F_8 (Ow.own 44 17 e_api_Addr vr0_1_1 r0_1_1 :: Ow.box b_3 34 #[.bool r0_0_2, vr0_1_2] :: Ow.own 44 17 e_api_Addr vr0_1_2 r0_1_2 :: Ow.box b_2 34 #[.bool r0_0_1, vr0_1_1] :: Ow.box b_1 34 #[.bool r_0_1, vr_1_1] :: fr) h_14 := hS.perm2 [3, 0, 1, 2, 4] 5 rfl rfl
      have hZ_1 := hS
      have hkz_1 := (hS.freeze).2
      replace hS := hS.freeze.1
      have hL_3 : SliceF (fun b => F_8 b ∨ (Ow.own 44 17 e_api_Addr vr0_1_1 r0_1_1).foot b) h_14 17 e_api_Addr vr0_1_1 r0_1_1 := ⟨(hZ_1.own 0 rfl).slice, fun _ b hb => .inr hb⟩
      refine HS.call rfl (want_by rfl rfl c_1) rfl (ec en_17 rfl rfl) (ref19_Same_walk (fr := (Ow.box b_3 34 #[.bool r0_0_2, vr0_1_2] :: Ow.own 44 17 e_api_Addr vr0_1_2 r0_1_2 :: Ow.box b_2 34 #[.bool r0_0_1, vr0_1_1] :: Ow.box b_1 34 #[.bool r_0_1, vr_1_1] :: fr)) r0_0_1 r0_1_1 r_0_1 r_1_1 vr0_1_1 vr_1_1 hS hL_3 (hL_1.kp hkz_1) hM) ?_
      rintro _ h_15 ⟨F_9, r_6, rfl, hk, hS, _, _, hM⟩
      obtain ⟨hS, hk⟩ := hZ_1.back hk hS
      generalize (fun b => F_9 b ∧ ¬ (Ow.own 44 17 e_api_Addr vr0_1_1 r0_1_1).foot b) = F_10 at hS hk
      replace hK := hK.trans hk
      replace hL_f_Sources := hL_f_Sources.kp hk
      replace hG_0 := hG_0.kp hk
      replace hG_3 := hG_3.kp hk
      replace hE_gvS := hE_gvS.kp hk
      replace hG_4 := hG_4.kp hk
      replace hE_gvR := hE_gvR.kp hk
      replace hG_5 := hG_5.kp hk
      replace hG_7 := hG_7.kp hk
      replace hL_1 := hL_1.kp hk
      refine HA.val (k := 10) (v := .bool (!r_6)) rfl rfl (by kernel_rfl) (by kernel_rfl) (want_by rfl rfl c_1) rfl (fun _ ⟨c203, c201⟩ => q_not rfl) ?_
      refine HA.val (k := 11) (v := .bool (!r_6)) rfl rfl (by kernel_rfl) (by kernel_rfl) (want_none) rfl (fun _ ⟨c203, c201⟩ => q_pickK false rfl c_1 rfl) ?_
      refine HA.val (k := 12) (v := .bool (!r_6)) rfl rfl (by kernel_rfl) (by kernel_rfl) (want_none) rfl (fun _ ⟨c203, c201⟩ => q_move rfl) ?_
      rcases Bool.eq_false_or_eq_true (!r_6) with c_2 | c_2
      · replace hM := hM.1 c_2
        refine HA.past (k := 13) rfl rfl (by kernel_rfl) (by kernel_rfl) (past_by rfl rfl c_2) rfl ?_
        refine HA.past (k := 14) rfl rfl (by kernel_rfl) (by kernel_rfl) (past_by rfl rfl c_2) rfl ?_
        refine HA.val (k := 15) (v := .bool true) rfl rfl (by kernel_rfl) (by kernel_rfl) (want_none) rfl (fun _ ⟨c203, c201⟩ => q_pickK true rfl c_2 rfl) ?_
        refine HA.nil ⟨⟨(hS.box 3 rfl), (hS.box 4 rfl)⟩, (Go.Wk.at_nil _ _)⟩ (by kernel_rfl) (thenQ_normal (?_))
        replace hS : St F_10 (Ow.box b_3 34 #[.bool r0_0_2, vr0_1_2] :: Ow.own 44 17 e_api_Addr vr0_1_2 r0_1_2 :: fr) h_15 := hS.perm2 [1, 2] 5 rfl rfl
        exact ⟨F_10, true, rfl, rfl, rfl, rfl, rfl, hK, hS, hL_f_Sources, hG_0, hG_3, hE_gvS, hG_4, hE_gvR, hG_5, hG_7, hL_1, hM⟩
      · replace hM := hM.2 c_2
        refine HA.val (k := 13) (v := .int .i64 r1_1) rfl rfl (by kernel_rfl) (by kernel_rfl) (want_by rfl rfl c_2) rfl (fun _ ⟨c203, c201⟩ => q_move rfl) ?_
        refine HA.val (k := 14) (v := .bool (!decide (r1_1 = 0))) rfl rfl (by kernel_rfl) (by kernel_rfl) (want_by rfl rfl c_2) rfl (fun _ ⟨c203, c201⟩ => q_neq rfl rfl) ?_
        refine HA.val (k := 15) (v := .bool (!decide (r1_1 = 0))) rfl rfl (by kernel_rfl) (by kernel_rfl) (want_none) rfl (fun _ ⟨c203, c201⟩ => q_pickK false rfl c_2 rfl) ?_
        refine HA.nil ⟨⟨(hS.box 3 rfl), (hS.box 4 rfl)⟩, (Go.Wk.at_nil _ _)⟩ (by kernel_rfl) (thenQ_normal (?_))
        replace hS : St F_10 (Ow.box b_3 34 #[.bool r0_0_2, vr0_1_2] :: Ow.own 44 17 e_api_Addr vr0_1_2 r0_1_2 :: fr) h_15 := hS.perm2 [1, 2] 5 rfl rfl
        exact ⟨F_10, !decide (r1_1 = 0), rfl, rfl, rfl, rfl, rfl, hK, hS, hL_f_Sources, hG_0, hG_3, hE_gvS, hG_4, hE_gvR, hG_5, hG_7, hL_1, hM⟩
  · rintro f_1 h_16 ⟨F_11, b_4, e1, e4, e7, e8, e39, hK, hS, hL_f_Sources, hG_0, hG_3, hE_gvS, hG_4, hE_gvR, hG_5, hG_7, hL_1, hM⟩
    unfold law19_MergeTexts_j1 at hM
    refine HW.fr [(1, .string (bs r_2)), (4, .bool false), (7, .pointer (some ⟨b_3, 0, none⟩)), (8, .int .i64 r1_2), (39, .bool b_4)] ⟨e1, e4, e7, e8, e39, trivial⟩ ?_
    refine HW.cond b_4 rfl (fun c_3 => ?_) (fun c_3 => ?_)
    · replace hM := hM.1 c_3
      refine HW.seq ?_
      refine HW.region ?_
      refine HO.val (v := .bool false) (want_none) rfl (q_assign rfl) ?_
      refine HO.nil (thenQ_normal (?_))
      refine HW.ret (thenQ_ret (?_))
      refine ⟨.inr rfl, .bool false, res1 rfl (rt rfl), ?_⟩
      replace hS : St F_11 (fr) h_16 := hS.perm2 [] 2 rfl rfl
      exact ⟨F_11, false, rfl, hK, hS, hL_f_Sources, hG_0, hG_3, hE_gvS, hG_4, hE_gvR, hG_5, hG_7, hM⟩
    · replace hM := hM.2 c_3
      refine HW.skip (thenQ_normal (?_))
      refine HW.seq ?_
      refine HW.seq ?_
      refine HW.region ?_
      refine HO.val (v := .int .i64 r1_2) (want_none) rfl (q_move rfl) ?_
      refine HO.val (v := .bool (!decide (r1_2 = 0))) (want_none) rfl (q_neq rfl rfl) ?_
      refine HO.nil (thenQ_normal (?_))
      refine HW.cond (!decide (r1_2 = 0)) rfl (fun c_4 => ?_) (fun c_4 => ?_)
      · replace hM := hM.1 (nd_true c_4)
        refine HW.seq_mid (fun f h => ∃ (F' : Fz) (b_5 : Bool), f 1 = .string (bs r_2) ∧ f 4 = .bool b_5 ∧ f 7 = .pointer (some ⟨b_3, 0, none⟩) ∧ Kp F h0 F' h ∧ St F' (Ow.box b_3 34 #[.bool r0_0_2, vr0_1_2] :: Ow.own 44 17 e_api_Addr vr0_1_2 r0_1_2 :: fr) h ∧ (SliceF F' h 17 e_api_Addr vf_Sources f_Sources) ∧ (RoF (Ow.box 0 3 #[.int .i64 gm]) F' h) ∧ (RoF (Ow.box 3 75 #[gvS]) F' h) ∧ (ErrF gbS gvS F' h) ∧ (RoF (Ow.box 4 75 #[gvR]) F' h) ∧ (ErrF gbR gvR F' h) ∧ (RoF (Ow.box 5 160 (tab10 ()).toArray) F' h) ∧ (RoF (Ow.box 7 164 (arrCells tab64).toArray) F' h) ∧ (SliceF F' h 17 e_api_Addr vr_1_1 r_1_1) ∧ law19_MergeTexts_j2 Q b_5) ?_ ?_
        · refine HW.region ?_
          refine HO.val (v := .agg #[.bool r0_0_2, vr0_1_2]) (want_none) rfl (q_loadAgg (cs := [.bool r0_0_2, vr0_1_2]) ta_34 rfl rfl (Blk.cells (k := 2) (hS.box 0 rfl) rfl)) ?_
          refine HO.val (v := .agg #[.bool false, .slice none 0 0]) (want_none) rfl (q_build tp_34 rfl) ?_
          replace hS : St F_11 (Ow.own 44 17 e_api_Addr vr0_1_2 r0_1_2 :: Ow.box b_3 34 #[.bool r0_0_2, vr0_1_2] :: fr) h_16 := hS.perm2 [1, 0] 2 rfl rfl
          have hZ_2 := hS
          have hkz_2 := (hS.freeze).2
          replace hS := hS.freeze.1
          have hL_4 : SliceF (fun b => F_11 b ∨ (Ow.own 44 17 e_api_Addr vr0_1_2 r0_1_2).foot b) h_16 17 e_api_Addr vr0_1_2 r0_1_2 := ⟨(hZ_2.own 0 rfl).slice, fun _ b hb => .inr hb⟩
          refine HO.call (want_none) rfl (ec en_17 rfl rfl) (ref19_Same_walk (fr := (Ow.box b_3 34 #[.bool r0_0_2, vr0_1_2] :: fr)) r0_0_2 r0_1_2 false [] vr0_1_2 (.slice none 0 0) hS hL_4 (SliceF.nil _ _ _ _) hM) ?_
          rintro _ h_17 ⟨F_12, r_7, rfl, hk, hS, _, _, hM⟩
          obtain ⟨hS, hk⟩ := hZ_2.back hk hS
          generalize (fun b => F_12 b ∧ ¬ (Ow.own 44 17 e_api_Addr vr0_1_2 r0_1_2).foot b) = F_13 at hS hk
          replace hK := hK.trans hk
          replace hL_f_Sources := hL_f_Sources.kp hk
          replace hG_0 := hG_0.kp hk
          replace hG_3 := hG_3.kp hk
          replace hE_gvS := hE_gvS.kp hk
          replace hG_4 := hG_4.kp hk
          replace hE_gvR := hE_gvR.kp hk
          replace hG_5 := hG_5.kp hk
          replace hG_7 := hG_7.kp hk
          replace hL_1 := hL_1.kp hk
          refine HO.val (v := .bool r_7) (want_none) rfl (q_move rfl) ?_
          rcases Bool.eq_false_or_eq_true r_7 with c_5 | c_5
          · replace hM := hM.1 c_5
            refine HO.val (v := .int .i64 r1_2) (want_by rfl rfl c_5) rfl (q_move rfl) ?_
            refine HO.val (v := .bool (decide (r1_2 = 2))) (want_by rfl rfl c_5) rfl (q_eql rfl rfl) ?_
            refine HO.val (v := .bool (decide (r1_2 = 2))) (want_none) rfl (q_pickK true rfl c_5 rfl) ?_
            refine HO.val (v := .bool (decide (r1_2 = 2))) (want_none) rfl (q_move rfl) ?_
            rcases Bool.eq_false_or_eq_true (decide (r1_2 = 2)) with c_6 | c_6
            · replace hM := hM.1 (of_decide_eq_true c_6)
              refine HO.call (want_by rfl rfl c_6) rfl (ec en_18 rfl rfl) (law19_lives_walk (fr := (Ow.own 44 17 e_api_Addr vr0_1_2 r0_1_2 :: Ow.box b_3 34 #[.bool r0_0_2, vr0_1_2] :: fr))  hS hG_5 hG_7 hD hM) ?_
              rintro _ h_18 ⟨F_14, r_8, rfl, hk, hS, _, _, hM⟩
              replace hK := hK.trans hk
              replace hL_f_Sources := hL_f_Sources.kp hk
              replace hG_0 := hG_0.kp hk
              replace hG_3 := hG_3.kp hk
              replace hE_gvS := hE_gvS.kp hk
              replace hG_4 := hG_4.kp hk
              replace hE_gvR := hE_gvR.kp hk
              replace hG_5 := hG_5.kp hk
              replace hG_7 := hG_7.kp hk
              replace hL_1 := hL_1.kp hk
              refine HO.val (v := .bool r_8) (want_none) rfl (q_pickK true rfl c_6 rfl) ?_
              refine HO.val (v := .bool r_8) (want_none) rfl (q_assign rfl) ?_
              refine HO.nil (thenQ_normal (?_))
              replace hS : St F_14 (Ow.box b_3 34 #[.bool r0_0_2, vr0_1_2] :: Ow.own 44 17 e_api_Addr vr0_1_2 r0_1_2 :: fr) h_18 := hS.perm2 [1, 0] 2 rfl rfl
              exact ⟨F_14, r_8, rfl, rfl, rfl, hK, hS, hL_f_Sources, hG_0, hG_3, hE_gvS, hG_4, hE_gvR, hG_5, hG_7, hL_1, hM⟩
            · replace hM := hM.2 (of_decide_eq_false c_6)
              refine HO.past (past_by rfl rfl c_6) rfl ?_
              refine HO.val (v := .bool false) (want_none) rfl (q_pickK false rfl c_6 rfl) ?_
              refine HO.val (v := .bool false) (want_none) rfl (q_assign rfl) ?_
              refine HO.nil (thenQ_normal (?_))
              replace hS : St F_13 (Ow.box b_3 34 #[.bool r0_0_2, vr0_1_2] :: Ow.own 44 17 e_api_Addr vr0_1_2 r0_1_2 :: fr) h_17 := hS.perm2 [1, 0] 2 rfl rfl
              exact ⟨F_13, false, rfl, rfl, rfl, hK, hS, hL_f_Sources, hG_0, hG_3, hE_gvS, hG_4, hE_gvR, hG_5, hG_7, hL_1, hM⟩
          · replace hM := hM.2 c_5
            refine HO.past (past_by rfl rfl c_5) rfl ?_
            refine HO.past (past_by rfl rfl c_5) rfl ?_
            refine HO.val (v := .bool false) (want_none) rfl (q_pickK false rfl c_5 rfl) ?_
            refine HO.val (v := .bool false) (want_none) rfl (q_move rfl) ?_
            refine HO.past (past_some rfl rfl) rfl ?_
            refine HO.val (v := .bool false) (want_none) rfl (q_pick rfl rfl) ?_
            refine HO.val (v := .bool false) (want_none) rfl (q_assign rfl) ?_
            refine HO.nil (thenQ_normal (?_))
            replace hS : St F_13 (Ow.box b_3 34 #[.bool r0_0_2, vr0_1_2] :: Ow.own 44 17 e_api_Addr vr0_1_2 r0_1_2 :: fr) h_17 := hS.perm2 [1, 0] 2 rfl rfl
            exact ⟨F_13, false, rfl, rfl, rfl, hK, hS, hL_f_Sources, hG_0, hG_3, hE_gvS, hG_4, hE_gvR, hG_5, hG_7, hL_1, hM⟩
        · rintro f_2 h_19 ⟨F_15, b_5, e1, e4, e7, hK, hS, hL_f_Sources, hG_0, hG_3, hE_gvS, hG_4, hE_gvR, hG_5, hG_7, hL_1, hM⟩
          unfold law19_MergeTexts_j2 at hM
          refine HW.fr [(1, .string (bs r_2)), (4, .bool b_5), (7, .pointer (some ⟨b_3, 0, none⟩))] ⟨e1, e4, e7, trivial⟩ ?_
          refine HW.ret (thenQ_ret (?_))
          refine ⟨.inr rfl, .bool b_5, res1 rfl (rt rfl), ?_⟩
          replace hS : St F_15 (fr) h_19 := hS.perm2 [] 2 rfl rfl
          exact ⟨F_15, b_5, rfl, hK, hS, hL_f_Sources, hG_0, hG_3, hE_gvS, hG_4, hE_gvR, hG_5, hG_7, hM⟩
      · replace hM := hM.2 (nd_false c_4)
        refine HW.skip (thenQ_normal (?_))
        refine HW.seq ?_
        refine HW.region ?_
        refine HO.val (v := .agg #[.bool r0_0_2, vr0_1_2]) (want_none) rfl (q_loadAgg (cs := [.bool r0_0_2, vr0_1_2]) ta_34 rfl rfl (Blk.cells (k := 2) (hS.box 0 rfl) rfl)) ?_
        replace hS : St F_11 (Ow.own 44 17 e_api_Addr vr0_1_2 r0_1_2 :: Ow.box b_3 34 #[.bool r0_0_2, vr0_1_2] :: fr) h_16 := hS.perm2 [1, 0] 2 rfl rfl
        have hZ_3 := hS
        have hkz_3 := (hS.freeze).2
        replace hS := hS.freeze.1
        have hL_5 : SliceF (fun b => F_11 b ∨ (Ow.own 44 17 e_api_Addr vr0_1_2 r0_1_2).foot b) h_16 17 e_api_Addr vr0_1_2 r0_1_2 := ⟨(hZ_3.own 0 rfl).slice, fun _ b hb => .inr hb⟩
        refine HO.call (want_none) rfl (ec en_15 rfl rfl) (ref19_Print_walk (fr := (Ow.box b_3 34 #[.bool r0_0_2, vr0_1_2] :: fr)) r0_0_2 r0_1_2 vr0_1_2 hS hL_5 hM) ?_
        rintro _ h_20 ⟨F_16, r_9, rfl, hk, hS, _, hM⟩
        obtain ⟨hS, hk⟩ := hZ_3.back hk hS
        generalize (fun b => F_16 b ∧ ¬ (Ow.own 44 17 e_api_Addr vr0_1_2 r0_1_2).foot b) = F_17 at hS hk
        replace hK := hK.trans hk
        replace hL_f_Sources := hL_f_Sources.kp hk
        replace hG_0 := hG_0.kp hk
        replace hG_3 := hG_3.kp hk
        replace hE_gvS := hE_gvS.kp hk
        replace hG_4 := hG_4.kp hk
        replace hE_gvR := hE_gvR.kp hk
        replace hG_5 := hG_5.kp hk
        replace hG_7 := hG_7.kp hk
        refine HO.val (v := .string (bs r_2)) (want_none) rfl (q_move rfl) ?_
        refine HO.val (v := .bool (decide ((r_9 : Str) = r_2))) (want_none) rfl (q_eqlT rfl rfl) ?_
        refine HO.val (v := .bool (decide ((r_9 : Str) = r_2))) (want_none) rfl (q_move rfl) ?_
        rcases Bool.eq_false_or_eq_true (decide ((r_9 : Str) = r_2)) with c_7 | c_7
        · replace hM := hM.1 (of_decide_eq_true c_7)
          refine HO.call (want_by rfl rfl c_7) rfl (ec en_18 rfl rfl) (law19_lives_walk (fr := (Ow.own 44 17 e_api_Addr vr0_1_2 r0_1_2 :: Ow.box b_3 34 #[.bool r0_0_2, vr0_1_2] :: fr))  hS hG_5 hG_7 hD hM) ?_
          rintro _ h_21 ⟨F_18, r_10, rfl, hk, hS, _, _, hM⟩
          replace hK := hK.trans hk
          replace hL_f_Sources := hL_f_Sources.kp hk
          replace hG_0 := hG_0.kp hk
          replace hG_3 := hG_3.kp hk
          replace hE_gvS := hE_gvS.kp hk
          replace hG_4 := hG_4.kp hk
          replace hE_gvR := hE_gvR.kp hk
          replace hG_5 := hG_5.kp hk
          replace hG_7 := hG_7.kp hk
          refine HO.val (v := .bool r_10) (want_none) rfl (q_pickK true rfl c_7 rfl) ?_
          refine HO.val (v := .bool r_10) (want_none) rfl (q_assign rfl) ?_
          refine HO.nil (thenQ_normal (?_))
          refine HW.ret (?_)
          refine ⟨.inr rfl, .bool r_10, res1 rfl (rt rfl), ?_⟩
          replace hS : St F_18 (fr) h_21 := hS.perm2 [] 2 rfl rfl
          exact ⟨F_18, r_10, rfl, hK, hS, hL_f_Sources, hG_0, hG_3, hE_gvS, hG_4, hE_gvR, hG_5, hG_7, hM⟩
        · replace hM := hM.2 (of_decide_eq_false c_7)
          refine HO.past (past_by rfl rfl c_7) rfl ?_
          refine HO.val (v := .bool false) (want_none) rfl (q_pickK false rfl c_7 rfl) ?_
          refine HO.val (v := .bool false) (want_none) rfl (q_assign rfl) ?_
          refine HO.nil (thenQ_normal (?_))
          refine HW.ret (?_)
          refine ⟨.inr rfl, .bool false, res1 rfl (rt rfl), ?_⟩
          replace hS : St F_17 (fr) h_20 := hS.perm2 [] 2 rfl rfl
          exact ⟨F_17, false, rfl, hK, hS, hL_f_Sources, hG_0, hG_3, hE_gvS, hG_4, hE_gvR, hG_5, hG_7, hM⟩
end Go.Wk
