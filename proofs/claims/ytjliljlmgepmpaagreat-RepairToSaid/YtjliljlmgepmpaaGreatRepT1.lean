/- The walks of RepairTo. -/
import Derived.Test.YtjliljlmgepmpaaGreatRepA4
set_option linter.unusedSimpArgs false
set_option linter.unusedVariables false
set_option linter.unusedSectionVars false
set_option maxHeartbeats 40000000
set_option maxRecDepth 100000
namespace Go.Wk
open Go.HL
open Go.Proofs hiding encI
variable [DM]
theorem en_80 (args : Array Value) (w : World) : (callFunc 80 args).run Tryz.prog w = .ok (.enter 80 args) w := by kernel_rfl
theorem en_48 (args : Array Value) (w : World) : (callFunc 48 args).run Tryz.prog w = .ok (.enter 48 args) w := by kernel_rfl
theorem en_69 (args : Array Value) (w : World) : (callFunc 69 args).run Tryz.prog w = .ok (.enter 69 args) w := by kernel_rfl
theorem en_45 (args : Array Value) (w : World) : (callFunc 45 args).run Tryz.prog w = .ok (.enter 45 args) w := by kernel_rfl
theorem en_15 (args : Array Value) (w : World) : (callFunc 15 args).run Tryz.prog w = .ok (.enter 15 args) w := by kernel_rfl
theorem en_18 (args : Array Value) (w : World) : (callFunc 18 args).run Tryz.prog w = .ok (.enter 18 args) w := by kernel_rfl
theorem ta_24 : TAgg Tryz.prog 24 4 := ⟨Tryz.isAgg24, Tryz.sizeOf24⟩
theorem en_5 (args : Array Value) (w : World) : (callFunc 5 args).run Tryz.prog w = .ok (.enter 5 args) w := by kernel_rfl
theorem en_6 (args : Array Value) (w : World) : (callFunc 6 args).run Tryz.prog w = .ok (.enter 6 args) w := by kernel_rfl
theorem en_24 (args : Array Value) (w : World) : (callFunc 24 args).run Tryz.prog w = .ok (.enter 24 args) w := by kernel_rfl
theorem en_10 (args : Array Value) (w : World) : (callFunc 10 args).run Tryz.prog w = .ok (.enter 10 args) w := by kernel_rfl
theorem en_25 (args : Array Value) (w : World) : (callFunc 25 args).run Tryz.prog w = .ok (.enter 25 args) w := by kernel_rfl
theorem en_26 (args : Array Value) (w : World) : (callFunc 26 args).run Tryz.prog w = .ok (.enter 26 args) w := by kernel_rfl
theorem en_19 (args : Array Value) (w : World) : (callFunc 19 args).run Tryz.prog w = .ok (.enter 19 args) w := by kernel_rfl
def slices_Index_s_int_int_l1 (s1 : List Int) (v : Int) (Q : Int → Prop) (K_1 : Int → Prop) (n_1 : Int) : Prop :=
 (n_1 < (s1.length : Int) → ((0 : Int) ≤ n_1 ∧ n_1 < (s1.length : Int)) ∧ ((v = (gi s1 n_1) → Q n_1) ∧ (¬ (v = (gi s1 n_1)) → (I64 (n_1 + 1)) ∧ (K_1 (n_1 + 1))))) ∧ (¬ (n_1 < (s1.length : Int)) → Q (-1))
def slices_Index_s_int_int_W (s1 : List Int) (v : Int) (Q : Int → Prop) : Prop :=
 loopW (fun (K_1 : Int → Prop) (s : Int) => slices_Index_s_int_int_l1 s1 v Q K_1 s) 0
theorem slices_Index_s_int_int_walk {F : Fz} {fr : List Ow} {h0 : Heap} (s1 : List Int) (v : Int) (vs : Value) (hS : St F (fr) h0) (hL_s1 : SliceF F h0 1 encI vs s1) {Q : Int → Prop} (hM : slices_Index_s_int_int_W s1 v Q) :
  HC Tryz.prog 80 #[vs, .int .i64 v] h0 fun u h' => ∃ (F' : Fz) (r_1 : Int), u = .int .i64 r_1 ∧ Kp F h0 F' h' ∧ St F' (fr) h' ∧ (SliceF F' h' 1 encI vs s1) ∧ Q r_1 := by
 unfold slices_Index_s_int_int_W at hM
 have hK := Kp.refl F h0
 refine HC.of_HW (n := 19) Tryz.func80 rfl rfl (Nat.le_of_ble_eq_true rfl) ?_
 refine HW.seq ?_
 refine HW.region ?_
 refine oA (.int .i64 0) rfl rfl ?_
 refine HO.nil (thenQ_normal (?_))
 refine HW.seq ?_
 refine HW.seq ?_
 refine HW.region ?_
 refine oM (vs) rfl rfl ?_
 refine oV (.int .i64 (s1.length : Int)) (q_len ts_22 (shp hL_s1.is) rfl rfl) rfl ?_
 refine oM (.int .i64 0) rfl rfl ?_
 refine HO.nil (thenQ_normal (?_))
 refine HW.block ?_
 obtain ⟨I_1, m_1, hI_1, hR_1⟩ := hM
 refine HW.loop (S := Int) (fun n_1 f h => ∃ (F' : Fz), f 0 = vs ∧ f 1 = .int .i64 v ∧ f 4 = .int .i64 0 ∧ f 7 = .int .i64 (s1.length : Int) ∧ f 8 = .int .i64 n_1 ∧ Kp F h0 F' h ∧ St F' (fr) h ∧ (SliceF F' h 1 encI vs s1) ∧ I_1 n_1) m_1 0 ⟨F, rfl, rfl, rfl, rfl, rfl, hK, hS, hL_s1, hI_1⟩ ?_
 rintro n_1 f_1 h_1 ⟨F_1, e0, e1, e4, e7, e8, hK, hS, hL_s1, hI0⟩
 obtain ⟨K_1, hKe_1⟩ : ∃ K : Int → Prop, K = fun n_1' => I_1 n_1' ∧ m_1 n_1' < m_1 n_1 := ⟨_, rfl⟩
 have hM : slices_Index_s_int_int_l1 s1 v Q K_1 n_1 := by rw [hKe_1]; exact hR_1 n_1 hI0
 unfold slices_Index_s_int_int_l1 at hM
 refine HW.fr [(0, vs), (1, .int .i64 v), (4, .int .i64 0), (7, .int .i64 (s1.length : Int)), (8, .int .i64 n_1)] ⟨e0, e1, e4, e7, e8, trivial⟩ ?_
 refine HW.seq ?_
 refine HW.region ?_
 refine oV (.bool (decide (n_1 < (s1.length : Int)))) (q_lss rfl rfl) rfl ?_
 refine HO.nil (thenQ_normal (?_))
 refine HW.seq ?_
 refine HW.cond (decide (n_1 < (s1.length : Int))) rfl (fun c_1 => ?_) (fun c_1 => ?_)
 ·
  replace hM := hM.1 (of_decide_eq_true c_1)
  refine HW.skip (thenQ_normal (?_))
  refine HW.seq ?_
  refine HW.block ?_
  refine HW.seq ?_
  refine HW.region ?_
  refine oM (.int .i64 n_1) rfl rfl ?_
  refine oA (.int .i64 n_1) rfl rfl ?_
  refine HO.nil (thenQ_normal (?_))
  refine HW.seq ?_
  refine HW.region ?_
  refine oM (.int .i64 v) rfl rfl ?_
  refine oM (vs) rfl rfl ?_
  refine oM (.int .i64 n_1) rfl rfl ?_
  obtain ⟨ho_1, hM⟩ := hM
  refine oV (elemPtr 1 vs (n_1).toNat) (q_idx ts_22 hL_s1.is rfl rfl ho_1) rfl ?_
  refine oV (.int .i64 (gi s1 n_1)) (q_ldElem to_3 hL_s1.is rfl ho_1 rfl) rfl ?_
  refine oV (.bool (decide (v = (gi s1 n_1)))) (q_eql rfl rfl) rfl ?_
  refine HO.nil (thenQ_normal (?_))
  refine HW.cond (decide (v = (gi s1 n_1))) rfl (fun c_2 => ?_) (fun c_2 => ?_)
  ·
   replace hM := hM.1 (of_decide_eq_true c_2)
   refine HW.seq ?_
   refine HW.region ?_
   refine oM (.int .i64 n_1) rfl rfl ?_
   refine oA (.int .i64 n_1) rfl rfl ?_
   refine HO.nil (thenQ_normal (?_))
   refine HW.ret (blockQ_ret (thenQ_ret (thenQ_ret (blockQ_ret (thenQ_ret (?_))))))
   refine ⟨.inr rfl, .int .i64 n_1, res1 rfl (rt rfl), ?_⟩
   exact ⟨F_1, n_1, rfl, hK, hS, hL_s1, hM⟩
  ·
   replace hM := hM.2 (of_decide_eq_false c_2)
   refine HW.skip (blockQ_normal (thenQ_normal (?_)))
   refine HW.region ?_
   obtain ⟨ho_2, hM⟩ := hM
   refine oV (.int .i64 (n_1 + 1)) (q_addN _ rfl rfl rfl ho_2.1 ho_2.2) rfl ?_
   refine oM (.int .i64 (n_1 + 1)) rfl rfl ?_
   refine HO.nil (thenQ_normal (?_))
   rw [hKe_1] at hM
   exact ⟨n_1 + 1, ⟨F_1, rfl, rfl, rfl, rfl, rfl, hK, hS, hL_s1, hM.1⟩, hM.2⟩
 ·
  replace hM := hM.2 (of_decide_eq_false c_1)
  refine HW.exit (thenQ_exit (thenQ_exit (blockQ_exit (thenQ_normal (?_)))))
  refine HW.seq ?_
  refine HW.region ?_
  refine oA (.int .i64 (-1)) rfl rfl ?_
  refine HO.nil (thenQ_normal (?_))
  refine HW.ret (?_)
  refine ⟨.inr rfl, .int .i64 (-1), res1 rfl (rt rfl), ?_⟩
  exact ⟨F_1, (-1), rfl, hK, hS, hL_s1, hM⟩
def slices_Contains_s_int_int_W (s1 : List Int) (v : Int) (Q : Bool → Prop) : Prop :=
 slices_Index_s_int_int_W s1 v (fun r_2 => Q (decide (0 ≤ r_2)))
theorem slices_Contains_s_int_int_walk {F : Fz} {fr : List Ow} {h0 : Heap} (s1 : List Int) (v : Int) (vs : Value) (hS : St F (fr) h0) (hL_s1 : SliceF F h0 1 encI vs s1) {Q : Bool → Prop} (hM : slices_Contains_s_int_int_W s1 v Q) :
  HC Tryz.prog 48 #[vs, .int .i64 v] h0 fun u h' => ∃ (F' : Fz) (r_1 : Bool), u = .bool r_1 ∧ Kp F h0 F' h' ∧ St F' (fr) h' ∧ (SliceF F' h' 1 encI vs s1) ∧ Q r_1 := by
 unfold slices_Contains_s_int_int_W at hM
 have hK := Kp.refl F h0
 refine HC.of_HW (n := 9) Tryz.func48 rfl rfl (Nat.le_of_ble_eq_true rfl) ?_
 refine HW.seq ?_
 refine HW.region ?_
 refine oA (.bool false) rfl rfl ?_
 refine HO.nil (thenQ_normal (?_))
 refine HW.seq ?_
 refine HW.region ?_
 refine oM (vs) rfl rfl ?_
 refine oM (.int .i64 v) rfl rfl ?_
 refine HO.call (want_none) rfl (ec en_80 rfl rfl) (slices_Index_s_int_int_walk (fr := (fr)) s1 v vs hS hL_s1 hM) ?_
 rintro _ h_1 ⟨F_1, r_2, rfl, hk, hS, _, hM⟩
 replace hK := hK.trans hk
 replace hL_s1 := hL_s1.kp hk
 refine oV (.bool (decide (0 ≤ r_2))) (q_geq rfl rfl) rfl ?_
 refine oA (.bool (decide (0 ≤ r_2))) rfl rfl ?_
 refine HO.nil (thenQ_normal (?_))
 refine HW.ret (?_)
 refine ⟨.inr rfl, .bool (decide (0 ≤ r_2)), res1 rfl (rt rfl), ?_⟩
 exact ⟨F_1, decide (0 ≤ r_2), rfl, hK, hS, hL_s1, hM⟩
def repair_held_1_W (b : TB) (c0_Root : Int) (c0_Links : List TB) (c1_v : List Int) (Q : Bool → Prop) : Prop :=
 (¬ (b.1 = c0_Root) → slices_Contains_s_int_int_W c1_v b.1 (fun r_2 => Q (!r_2))) ∧ (b.1 = c0_Root → Q false)
theorem repair_held_1_walk {F : Fz} {fr : List Ow} {h0 : Heap} (b : TB) (c0_Root : Int) (c0_Links : List TB) (c1_v : List Int) (bc0 : Nat) (vc0_Links : Value) (bc1 : Nat) (vc1_v : Value) (hS : St F (fr) h0) (hL_c0_Links : SliceF F h0 2 e_api_Branch vc0_Links c0_Links) (hB_bc0 : RoF (Ow.box bc0 31 #[.int .i64 c0_Root, vc0_Links]) F h0) (hL_c1_v : SliceF F h0 1 encI vc1_v c1_v) (hB_bc1 : RoF (Ow.box bc1 22 #[vc1_v]) F h0) {Q : Bool → Prop} (hM : repair_held_1_W b c0_Root c0_Links c1_v Q) :
  HC Tryz.prog 69 #[.agg #[.int .i64 b.1, .int .i64 b.2], .pointer (some ⟨bc0, 0, none⟩), .pointer (some ⟨bc1, 0, none⟩)] h0 fun u h' => ∃ (F' : Fz) (r_1 : Bool), u = .bool r_1 ∧ Kp F h0 F' h' ∧ St F' (fr) h' ∧ (SliceF F' h' 2 e_api_Branch vc0_Links c0_Links) ∧ (RoF (Ow.box bc0 31 #[.int .i64 c0_Root, vc0_Links]) F' h') ∧ (SliceF F' h' 1 encI vc1_v c1_v) ∧ (RoF (Ow.box bc1 22 #[vc1_v]) F' h') ∧ Q r_1 := by
 unfold repair_held_1_W at hM
 have hK := Kp.refl F h0
 refine HC.of_HW (n := 17) Tryz.func69 rfl rfl (Nat.le_of_ble_eq_true rfl) ?_
 refine HW.seq ?_
 refine HW.region ?_
 refine HO.eff (want_none) rfl (st_box (c := #[.int .i64 b.1, .int .i64 b.2]) (k' := 2) hS rfl rfl) ?_
 rintro _ h_1 ⟨b_1, rfl, hS, hk⟩
 replace hK := hK.trans hk
 replace hL_c0_Links := hL_c0_Links.kp hk
 replace hB_bc0 := hB_bc0.kp hk
 replace hL_c1_v := hL_c1_v.kp hk
 replace hB_bc1 := hB_bc1.kp hk
 refine oA (.bool false) rfl rfl ?_
 refine HO.nil (thenQ_normal (?_))
 refine HW.seq ?_
 refine HW.region ?_
 refine oV (.pointer (some ⟨b_1, 0, none⟩)) (q_fieldAddr fa_52_0 rfl rfl) rfl ?_
 refine oV (.int .i64 b.1) (q_load to_3 rfl (Blk.cell (hS.box 0 rfl) rfl)) rfl ?_
 refine oV (.pointer (some ⟨bc0, 0, none⟩)) (q_fieldAddr fa_31_0 rfl rfl) rfl ?_
 refine oV (.int .i64 c0_Root) (q_load to_3 rfl (Blk.cell hB_bc0.box rfl)) rfl ?_
 refine oV (.bool (!decide (b.1 = c0_Root))) (q_neq rfl rfl) rfl ?_
 refine oM (.bool (!decide (b.1 = c0_Root))) rfl rfl ?_
 rcases Bool.eq_false_or_eq_true (!decide (b.1 = c0_Root)) with c_1 | c_1
 ·
  replace hM := hM.1 (nd_true c_1)
  refine HO.val (v := vc1_v) (want_by rfl rfl c_1) rfl (q_load to_22 rfl (Blk.cell hB_bc1.box rfl)) ?_
  refine HO.val (v := .pointer (some ⟨b_1, 0, none⟩)) (want_by rfl rfl c_1) rfl (q_fieldAddr fa_52_0 rfl rfl) ?_
  refine HO.val (v := .int .i64 b.1) (want_by rfl rfl c_1) rfl (q_load to_3 rfl (Blk.cell (hS.box 0 rfl) rfl)) ?_
  refine HO.call (want_by rfl rfl c_1) rfl (ec en_48 rfl rfl) (slices_Contains_s_int_int_walk (fr := (Ow.box b_1 52 #[.int .i64 b.1, .int .i64 b.2] :: fr)) c1_v b.1 vc1_v hS hL_c1_v hM) ?_
  rintro _ h_2 ⟨F_1, r_2, rfl, hk, hS, _, hM⟩
  replace hK := hK.trans hk
  replace hL_c0_Links := hL_c0_Links.kp hk
  replace hB_bc0 := hB_bc0.kp hk
  replace hL_c1_v := hL_c1_v.kp hk
  replace hB_bc1 := hB_bc1.kp hk
  refine HO.val (v := .bool (!r_2)) (want_by rfl rfl c_1) rfl (q_not rfl) ?_
  refine oV (.bool (!r_2)) (q_pickK true rfl c_1 rfl) rfl ?_
  refine oA (.bool (!r_2)) rfl rfl ?_
  refine HO.nil (thenQ_normal (?_))
  refine HW.ret (?_)
  refine ⟨.inr rfl, .bool (!r_2), res1 rfl (rt rfl), ?_⟩
  replace hS : St F_1 (fr) h_2 := hS.perm2 [] 1 rfl rfl
  exact ⟨F_1, !r_2, rfl, hK, hS, hL_c0_Links, hB_bc0, hL_c1_v, hB_bc1, hM⟩
 ·
  replace hM := hM.2 (nd_false c_1)
  refine HO.past (past_by rfl rfl c_1) rfl ?_
  refine HO.past (past_by rfl rfl c_1) rfl ?_
  refine HO.past (past_by rfl rfl c_1) rfl ?_
  refine HO.past (past_by rfl rfl c_1) rfl ?_
  refine HO.past (past_by rfl rfl c_1) rfl ?_
  refine oV (.bool false) (q_pickK false rfl c_1 rfl) rfl ?_
  refine oA (.bool false) rfl rfl ?_
  refine HO.nil (thenQ_normal (?_))
  refine HW.ret (?_)
  refine ⟨.inr rfl, .bool false, res1 rfl (rt rfl), ?_⟩
  replace hS : St F (fr) h_1 := hS.perm2 [] 1 rfl rfl
  exact ⟨F, false, rfl, hK, hS, hL_c0_Links, hB_bc0, hL_c1_v, hB_bc1, hM⟩
def repair_held_W (t_Root : Int) (t_Links : List TB) (services : List Int) (fan : Int) (Q : Bool → Prop) : Prop :=
 repair_star_W t_Root t_Links fan (fun r_2 => ((!r_2) = true → ∃ cf_1 : TB → Bool, (∀ x0, repair_held_1_W x0 t_Root t_Links services (fun r => r = cf_1 x0)) ∧ (slices_ContainsFunc_s_api_Branch_api_Branch_W t_Links cf_1 (fun r_3 => Q (!r_3)))) ∧ ((!r_2) = false → Q false))
theorem repair_held_walk {F : Fz} {fr : List Ow} {h0 : Heap} (t_Root : Int) (t_Links : List TB) (services : List Int) (fan : Int) (vt_Links : Value) (vservices : Value) (hS : St F (fr) h0) (hL_t_Links : SliceF F h0 2 e_api_Branch vt_Links t_Links) (hL_services : SliceF F h0 1 encI vservices services) {Q : Bool → Prop} (hM : repair_held_W t_Root t_Links services fan Q) :
  HC Tryz.prog 45 #[.agg #[.int .i64 t_Root, vt_Links], vservices, .int .i64 fan] h0 fun u h' => ∃ (F' : Fz) (r_1 : Bool), u = .bool r_1 ∧ Kp F h0 F' h' ∧ St F' (fr) h' ∧ (SliceF F' h' 2 e_api_Branch vt_Links t_Links) ∧ (SliceF F' h' 1 encI vservices services) ∧ Q r_1 := by
 unfold repair_held_W at hM
 have hK := Kp.refl F h0
 refine HC.of_HW (n := 20) Tryz.func45 rfl rfl (Nat.le_of_ble_eq_true rfl) ?_
 refine HW.seq ?_
 refine HW.region ?_
 refine HO.eff (want_none) rfl (st_box (c := #[.int .i64 t_Root, vt_Links]) (k' := 2) hS rfl rfl) ?_
 rintro _ h_1 ⟨b_1, rfl, hS, hk⟩
 replace hK := hK.trans hk
 replace hL_t_Links := hL_t_Links.kp hk
 replace hL_services := hL_services.kp hk
 refine HO.eff (want_none) rfl (st_box (c := #[vservices]) (k' := 1) hS (shp hL_services.is).cells rfl) ?_
 rintro _ h_2 ⟨b_2, rfl, hS, hk⟩
 replace hK := hK.trans hk
 replace hL_t_Links := hL_t_Links.kp hk
 replace hL_services := hL_services.kp hk
 refine oA (.bool false) rfl rfl ?_
 refine HO.nil (thenQ_normal (?_))
 refine HW.seq ?_
 refine HW.region ?_
 refine oV (.func (.func 69) #[] #[.pointer (some ⟨b_1, 0, none⟩), .pointer (some ⟨b_2, 0, none⟩)]) (q_makeFunc rfl rfl) rfl ?_
 refine oA (.func (.func 69) #[] #[.pointer (some ⟨b_1, 0, none⟩), .pointer (some ⟨b_2, 0, none⟩)]) rfl rfl ?_
 refine HO.nil (thenQ_normal (?_))
 refine HW.seq ?_
 refine HW.region ?_
 refine oV (.agg #[.int .i64 t_Root, vt_Links]) (q_loadAgg (cs := [.int .i64 t_Root, vt_Links]) ta_31 rfl rfl (Blk.cells (k := 2) (hS.box 1 rfl) rfl)) rfl ?_
 refine oM (.int .i64 fan) rfl rfl ?_
 refine HO.call (want_none) rfl (ec en_43 rfl rfl) (repair_star_walk (fr := (Ow.box b_2 22 #[vservices] :: Ow.box b_1 31 #[.int .i64 t_Root, vt_Links] :: fr)) t_Root t_Links fan vt_Links hS hL_t_Links hM) ?_
 rintro _ h_3 ⟨F_1, r_2, rfl, hk, hS, _, hM⟩
 replace hK := hK.trans hk
 replace hL_t_Links := hL_t_Links.kp hk
 replace hL_services := hL_services.kp hk
 refine oV (.bool (!r_2)) (q_not rfl) rfl ?_
 refine oM (.bool (!r_2)) rfl rfl ?_
 rcases Bool.eq_false_or_eq_true (!r_2) with c_1 | c_1
 ·
  replace hM := hM.1 c_1
  refine HO.val (v := .pointer (some ⟨b_1, 1, none⟩)) (want_by rfl rfl c_1) rfl (q_fieldAddr fa_31_1 rfl rfl) ?_
  refine HO.val (v := vt_Links) (want_by rfl rfl c_1) rfl (q_load to_29 rfl (Blk.cell (hS.box 1 rfl) rfl)) ?_
  refine HO.val (v := .func (.func 69) #[] #[.pointer (some ⟨b_1, 0, none⟩), .pointer (some ⟨b_2, 0, none⟩)]) (want_by rfl rfl c_1) rfl (q_move rfl) ?_
  replace hS : St F_1 (Ow.box b_1 31 #[.int .i64 t_Root, vt_Links] :: Ow.box b_2 22 #[vservices] :: fr) h_3 := hS.perm2 [1, 0] 2 rfl rfl
  have hZ_1 := hS
  have hkz_1 := (hS.freeze).2
  replace hS := hS.freeze.1
  have hL_1 := hZ_1.lent
  replace hS : St (fun bz_ => F_1 bz_ ∨ (Ow.box b_1 31 #[.int .i64 t_Root, vt_Links]).foot bz_) (Ow.box b_2 22 #[vservices] :: fr) h_3 := hS
  have hZ_2 := hS
  have hkz_2 := (hS.freeze).2
  replace hS := hS.freeze.1
  have hL_2 := hZ_2.lent
  replace hL_1 := hL_1.kp hkz_2
  obtain ⟨cf_1, hc_1, hM⟩ := hM
  have hF_1 : FnP Tryz.prog (fun bz_ => (fun bz_ => F_1 bz_ ∨ (Ow.box b_1 31 #[.int .i64 t_Root, vt_Links]).foot bz_) bz_ ∨ (Ow.box b_2 22 #[vservices]).foot bz_) h_3 69 #[] #[.pointer (some ⟨b_1, 0, none⟩), .pointer (some ⟨b_2, 0, none⟩)] (fun x : TB => [.agg #[.int .i64 x.1, .int .i64 x.2]]) (fun x => .bool (cf_1 x)) := FnP.of en_69 (fun x h' hk_ => @HC.mono ⟨true⟩ _ _ _ _ _ _ (@repair_held_1_walk ⟨true⟩ (allF h') [] h' x t_Root t_Links services b_1 vt_Links b_2 vservices (St.init h') (((hL_t_Links.kp hkz_1).kp hkz_2).kp hk_) (hL_1.kp hk_) (((hL_services.kp hkz_1).kp hkz_2).kp hk_) (hL_2.kp hk_) (fun r => r = cf_1 x) (hc_1 x)) (fun u h'' ⟨F', r, hu, k_, _, _, _, _, _, hr⟩ => ⟨by rw [hu, hr], F', k_⟩))
  refine HO.call (want_by rfl rfl c_1) rfl (ec en_57 rfl rfl) (slices_ContainsFunc_s_api_Branch_api_Branch_walk (fr := (fr)) t_Links cf_1 vt_Links 69 (#[]) (#[.pointer (some ⟨b_1, 0, none⟩), .pointer (some ⟨b_2, 0, none⟩)]) hS ((hL_t_Links.kp hkz_1).kp hkz_2) hF_1 hM) ?_
  rintro _ h_4 ⟨F_2, r_3, rfl, hk, hS, _, _, hM⟩
  obtain ⟨hS, hk⟩ := hZ_2.back hk hS
  obtain ⟨hS, hk⟩ := hZ_1.back hk hS
  generalize (fun bz_ => (fun bz_ => F_2 bz_ ∧ ¬ (Ow.box b_2 22 #[vservices]).foot bz_) bz_ ∧ ¬ (Ow.box b_1 31 #[.int .i64 t_Root, vt_Links]).foot bz_) = F_3 at hS hk
  replace hK := hK.trans hk
  replace hL_t_Links := hL_t_Links.kp hk
  replace hL_services := hL_services.kp hk
  refine HO.val (v := .bool (!r_3)) (want_by rfl rfl c_1) rfl (q_not rfl) ?_
  refine oV (.bool (!r_3)) (q_pickK true rfl c_1 rfl) rfl ?_
  refine oA (.bool (!r_3)) rfl rfl ?_
  refine HO.nil (thenQ_normal (?_))
  refine HW.ret (?_)
  refine ⟨.inr rfl, .bool (!r_3), res1 rfl (rt rfl), ?_⟩
  replace hS : St F_3 (fr) h_4 := hS.perm2 [] 2 rfl rfl
  exact ⟨F_3, !r_3, rfl, hK, hS, hL_t_Links, hL_services, hM⟩
 ·
  replace hM := hM.2 c_1
  refine HO.past (past_by rfl rfl c_1) rfl ?_
  refine HO.past (past_by rfl rfl c_1) rfl ?_
  refine HO.past (past_by rfl rfl c_1) rfl ?_
  refine HO.past (past_by rfl rfl c_1) rfl ?_
  refine HO.past (past_by rfl rfl c_1) rfl ?_
  refine oV (.bool false) (q_pickK false rfl c_1 rfl) rfl ?_
  refine oA (.bool false) rfl rfl ?_
  refine HO.nil (thenQ_normal (?_))
  refine HW.ret (?_)
  refine ⟨.inr rfl, .bool false, res1 rfl (rt rfl), ?_⟩
  replace hS : St F_1 (fr) h_3 := hS.perm2 [] 2 rfl rfl
  exact ⟨F_1, false, rfl, hK, hS, hL_t_Links, hL_services, hM⟩
def repair_To_l2 (members : List Int) (services : List Int) (fan : Int) (Q : Int → (List TB) → Bool → Prop) (K_2 : Int → (List TB) → Int → Prop) (t_0_2 : Int) (t_1_2 : List TB) (n_2 : Int) : Prop :=
 (n_2 < (members.length : Int) → ((0 : Int) ≤ n_2 ∧ n_2 < (members.length : Int)) ∧ (tree_Has_W t_0_2 t_1_2 (gi members n_2) (fun r_4 => ((!r_4) = true → repair_join_W t_0_2 t_1_2 (gi members n_2) services fan (fun r_0_3 r_1_3 => (I64 (n_2 + 1)) ∧ (K_2 r_0_3 r_1_3 (n_2 + 1)))) ∧ ((!r_4) = false → (I64 (n_2 + 1)) ∧ (K_2 t_0_2 t_1_2 (n_2 + 1)))))) ∧ (¬ (n_2 < (members.length : Int)) → slices_Clone_s_api_Branch_api_Branch_W t_1_2 (fun r_5 => repair_of_W t_0_2 r_5 (fun r_0_4 r_1_4 => Q r_0_4 r_1_4 true)))
def repair_To_l1 (members : List Int) (services : List Int) (fan : Int) (Q : Int → (List TB) → Bool → Prop) (r_2 : List Int) (K_1 : Int → (List TB) → Int → Prop) (t_0_1 : Int) (t_1_1 : List TB) (n_1 : Int) : Prop :=
 (n_1 < (r_2.length : Int) → ((0 : Int) ≤ n_1 ∧ n_1 < (r_2.length : Int)) ∧ (slices_Contains_s_int_int_W members (gi r_2 n_1) (fun r_3 => ((!r_3) = true → repair_leave_W t_0_1 t_1_1 (gi r_2 n_1) services fan (fun r_0_2 r_1_2 => (I64 (n_1 + 1)) ∧ (K_1 r_0_2 r_1_2 (n_1 + 1)))) ∧ ((!r_3) = false → (I64 (n_1 + 1)) ∧ (K_1 t_0_1 t_1_1 (n_1 + 1)))))) ∧ (¬ (n_1 < (r_2.length : Int)) → loopW (fun (K_2 : (Int × List TB × Int) → Prop) (s : Int × List TB × Int) => repair_To_l2 members services fan Q (fun t_0_2 t_1_2 n_2 => K_2 (t_0_2, t_1_2, n_2)) s.1 s.2.1 s.2.2) (t_0_1, t_1_1, 0))
def repair_To_W (t_Root : Int) (t_Links : List TB) (members : List Int) (services : List Int) (fan : Int) (Q : Int → (List TB) → Bool → Prop) : Prop :=
 repair_held_W t_Root t_Links services fan (fun r_1 => ((!r_1) = true → plan_Make_W t_Root members services fan (fun r_0_1 r_1_1 => Q r_0_1 r_1_1 false)) ∧ ((!r_1) = false → tree_Leaves_W t_Root t_Links (fun r_2 => loopW (fun (K_1 : (Int × List TB × Int) → Prop) (s : Int × List TB × Int) => repair_To_l1 members services fan Q r_2 (fun t_0_1 t_1_1 n_1 => K_1 (t_0_1, t_1_1, n_1)) s.1 s.2.1 s.2.2) (t_Root, t_Links, 0))))
theorem repair_To_walk {F : Fz} {fr : List Ow} {h0 : Heap} (t_Root : Int) (t_Links : List TB) (members : List Int) (services : List Int) (fan : Int) (vt_Links : Value) (vmembers : Value) (vservices : Value) (hS : St F (fr) h0) (hL_t_Links : SliceF F h0 2 e_api_Branch vt_Links t_Links) (hL_members : SliceF F h0 1 encI vmembers members) (hL_services : SliceF F h0 1 encI vservices services) (hD : DM.on = false) {Q : Int → (List TB) → Bool → Prop} (hM : repair_To_W t_Root t_Links members services fan Q) :
  HC Tryz.prog 25 #[.agg #[.int .i64 t_Root, vt_Links], vmembers, vservices, .int .i64 fan] h0 fun u h' => ∃ (F' : Fz) (r0_0_1 : Int) (r0_1_1 : List TB) (r1_1 : Bool) (vr0_1_1 : Value), u = .tuple #[.agg #[.int .i64 r0_0_1, vr0_1_1], .bool r1_1] ∧ Kp F h0 F' h' ∧ St F' (Ow.own 52 2 e_api_Branch vr0_1_1 r0_1_1 :: fr) h' ∧ (SliceF F' h' 2 e_api_Branch vt_Links t_Links) ∧ (SliceF F' h' 1 encI vmembers members) ∧ (SliceF F' h' 1 encI vservices services) ∧ Q r0_0_1 r0_1_1 r1_1 := by
 unfold repair_To_W at hM
 have hK := Kp.refl F h0
 refine HC.of_HW (n := 64) Tryz.func25 rfl rfl (Nat.le_of_ble_eq_true rfl) ?_
 refine HW.seq ?_
 refine HW.region ?_
 refine HO.eff (want_none) rfl (st_box (c := #[.int .i64 t_Root, vt_Links]) (k' := 2) hS rfl rfl) ?_
 rintro _ h_1 ⟨b_1, rfl, hS, hk⟩
 replace hK := hK.trans hk
 replace hL_t_Links := hL_t_Links.kp hk
 replace hL_members := hL_members.kp hk
 replace hL_services := hL_services.kp hk
 refine HO.eff (want_none) rfl (st_alloc (c := #[.int .i64 0, .slice none 0 0]) hS tz_31 rfl) ?_
 rintro _ h_2 ⟨b_2, rfl, hS, hk⟩
 replace hK := hK.trans hk
 replace hL_t_Links := hL_t_Links.kp hk
 replace hL_members := hL_members.kp hk
 replace hL_services := hL_services.kp hk
 refine oA (.bool false) rfl rfl ?_
 refine HO.nil (thenQ_normal (?_))
 refine HW.seq ?_
 refine HW.seq ?_
 refine HW.region ?_
 refine oV (.agg #[.int .i64 t_Root, vt_Links]) (q_loadAgg (cs := [.int .i64 t_Root, vt_Links]) ta_31 rfl rfl (Blk.cells (k := 2) (hS.box 1 rfl) rfl)) rfl ?_
 refine oM (vservices) rfl rfl ?_
 refine oM (.int .i64 fan) rfl rfl ?_
 refine HO.call (want_none) rfl (ec en_45 rfl rfl) (repair_held_walk (fr := (Ow.box b_2 31 #[.int .i64 0, .slice none 0 0] :: Ow.box b_1 31 #[.int .i64 t_Root, vt_Links] :: fr)) t_Root t_Links services fan vt_Links vservices hS hL_t_Links hL_services hM) ?_
 rintro _ h_3 ⟨F_1, r_1, rfl, hk, hS, _, _, hM⟩
 replace hK := hK.trans hk
 replace hL_t_Links := hL_t_Links.kp hk
 replace hL_members := hL_members.kp hk
 replace hL_services := hL_services.kp hk
 refine oV (.bool (!r_1)) (q_not rfl) rfl ?_
 refine HO.nil (thenQ_normal (?_))
 refine HW.cond (!r_1) rfl (fun c_1 => ?_) (fun c_1 => ?_)
 ·
  replace hM := hM.1 c_1
  refine HW.seq ?_
  refine HW.region ?_
  refine oV (.pointer (some ⟨b_1, 0, none⟩)) (q_fieldAddr fa_31_0 rfl rfl) rfl ?_
  refine oV (.int .i64 t_Root) (q_load to_3 rfl (Blk.cell (hS.box 1 rfl) rfl)) rfl ?_
  refine oM (vmembers) rfl rfl ?_
  refine oM (vservices) rfl rfl ?_
  refine oM (.int .i64 fan) rfl rfl ?_
  refine HO.call (want_none) rfl (ec en_46 rfl rfl) (plan_Make_walk (fr := (Ow.box b_2 31 #[.int .i64 0, .slice none 0 0] :: Ow.box b_1 31 #[.int .i64 t_Root, vt_Links] :: fr)) t_Root members services fan vmembers vservices hS hL_members hL_services hD hM) ?_
  rintro _ h_4 ⟨F_2, r_0_1, r_1_1, vr_1_1, rfl, hk, hS, _, _, hM⟩
  replace hK := hK.trans hk
  replace hL_t_Links := hL_t_Links.kp hk
  replace hL_members := hL_members.kp hk
  replace hL_services := hL_services.kp hk
  refine HO.sto (want_none) rfl (st_storeAgg (c' := #[.int .i64 r_0_1, vr_1_1]) hS (i := 1) rfl ta_31 rfl rfl rfl (List.forall_mem_cons.2 ⟨rfl, (List.forall_mem_cons.2 ⟨(shp (hS.own 0 rfl).slice).one, (fun _ h => by cases h)⟩)⟩) (Nat.le_of_ble_eq_true rfl) rfl) ?_
  rintro h_5 ⟨hS, hk⟩
  replace hK := hK.trans hk
  replace hL_t_Links := hL_t_Links.kp hk
  replace hL_members := hL_members.kp hk
  replace hL_services := hL_services.kp hk
  refine oA (.bool false) rfl rfl ?_
  refine HO.nil (thenQ_normal (?_))
  refine HW.ret (thenQ_ret (?_))
  refine ⟨.inr rfl, .tuple #[.agg #[.int .i64 r_0_1, vr_1_1], .bool false], res2 rfl (rca (cs := [.int .i64 r_0_1, vr_1_1]) ta_31 rfl rfl (Blk.cells (k := 2) (hS.box 1 rfl) rfl)) (rt rfl), ?_⟩
  replace hS : St F_2 (Ow.own 52 2 e_api_Branch vr_1_1 r_1_1 :: fr) h_5 := hS.perm2 [0] 3 rfl rfl
  exact ⟨F_2, r_0_1, r_1_1, false, vr_1_1, rfl, hK, hS, hL_t_Links, hL_members, hL_services, hM⟩
 ·
  replace hM := hM.2 c_1
  refine HW.skip (thenQ_normal (?_))
  refine HW.seq ?_
  refine HW.seq ?_
  refine HW.region ?_
  refine oV (.agg #[.int .i64 t_Root, vt_Links]) (q_loadAgg (cs := [.int .i64 t_Root, vt_Links]) ta_31 rfl rfl (Blk.cells (k := 2) (hS.box 1 rfl) rfl)) rfl ?_
  refine HO.call (want_none) rfl (ec en_47 rfl rfl) (tree_Leaves_walk (fr := (Ow.box b_2 31 #[.int .i64 0, .slice none 0 0] :: Ow.box b_1 31 #[.int .i64 t_Root, vt_Links] :: fr)) t_Root t_Links vt_Links hS hL_t_Links hM) ?_
  rintro vr_1 h_6 ⟨F_3, r_2, _, rfl, hk, hS, _, hM⟩
  replace hK := hK.trans hk
  replace hL_t_Links := hL_t_Links.kp hk
  replace hL_members := hL_members.kp hk
  replace hL_services := hL_services.kp hk
  refine oV (.int .i64 (r_2.length : Int)) (q_len ts_22 (shp (hS.own 0 rfl).slice) rfl rfl) rfl ?_
  refine oM (.int .i64 0) rfl rfl ?_
  refine HO.nil (thenQ_normal (?_))
  refine HW.block ?_
  obtain ⟨I_1, m_1, hI_1, hR_1⟩ := hM
  replace hS : St F_3 (Ow.box b_1 31 #[.int .i64 t_Root, vt_Links] :: Ow.box b_2 31 #[.int .i64 0, .slice none 0 0] :: Ow.own 3 1 encI vr_1 r_2 :: fr) h_6 := hS.perm2 [2, 1, 0] 3 rfl rfl
  refine HW.loop (S := Int × List TB × Int) (fun s f h => match s with | (t_0_1, t_1_1, n_1) => ∃ (F' : Fz) (vt_1_1 : Value), f 1 = vmembers ∧ f 2 = vservices ∧ f 3 = .int .i64 fan ∧ f 4 = .pointer (some ⟨b_1, 0, none⟩) ∧ f 8 = .pointer (some ⟨b_2, 0, none⟩) ∧ f 9 = .bool false ∧ f 26 = vr_1 ∧ f 27 = .int .i64 (r_2.length : Int) ∧ f 28 = .int .i64 n_1 ∧ Kp F h0 F' h ∧ St F' (Ow.box b_1 31 #[.int .i64 t_0_1, vt_1_1] :: Ow.box b_2 31 #[.int .i64 0, .slice none 0 0] :: Ow.own 3 1 encI vr_1 r_2 :: fr) h ∧ (SliceF F' h 2 e_api_Branch vt_Links t_Links) ∧ (SliceF F' h 1 encI vmembers members) ∧ (SliceF F' h 1 encI vservices services) ∧ (SliceF F' h 2 e_api_Branch vt_1_1 t_1_1) ∧ I_1 (t_0_1, t_1_1, n_1)) m_1 (t_Root, t_Links, 0) ⟨F_3, vt_Links, rfl, rfl, rfl, rfl, rfl, rfl, rfl, rfl, rfl, hK, hS, hL_t_Links, hL_members, hL_services, hL_t_Links, hI_1⟩ ?_
  rintro ⟨t_0_1, t_1_1, n_1⟩ f_1 h_7 ⟨F_4, vt_1_1, e1, e2, e3, e4, e8, e9, e26, e27, e28, hK, hS, hL_t_Links, hL_members, hL_services, hL_1, hI0⟩
  obtain ⟨K_1, hKe_1⟩ : ∃ K : Int → (List TB) → Int → Prop, K = fun t_0_1' t_1_1' n_1' => I_1 (t_0_1', t_1_1', n_1') ∧ m_1 (t_0_1', t_1_1', n_1') < m_1 (t_0_1, t_1_1, n_1) := ⟨_, rfl⟩
  have hM : repair_To_l1 members services fan Q r_2 K_1 t_0_1 t_1_1 n_1 := by rw [hKe_1]; exact hR_1 (t_0_1, t_1_1, n_1) hI0
  unfold repair_To_l1 at hM
  refine HW.fr [(1, vmembers), (2, vservices), (3, .int .i64 fan), (4, .pointer (some ⟨b_1, 0, none⟩)), (8, .pointer (some ⟨b_2, 0, none⟩)), (9, .bool false), (26, vr_1), (27, .int .i64 (r_2.length : Int)), (28, .int .i64 n_1)] ⟨e1, e2, e3, e4, e8, e9, e26, e27, e28, trivial⟩ ?_
  refine HW.seq ?_
  refine HW.region ?_
  refine oV (.bool (decide (n_1 < (r_2.length : Int)))) (q_lss rfl rfl) rfl ?_
  refine HO.nil (thenQ_normal (?_))
  refine HW.seq ?_
  refine HW.cond (decide (n_1 < (r_2.length : Int))) rfl (fun c_2 => ?_) (fun c_2 => ?_)
  ·
   replace hM := hM.1 (of_decide_eq_true c_2)
   refine HW.skip (thenQ_normal (?_))
   refine HW.seq ?_
   refine HW.block ?_
   refine HW.seq ?_
   refine HW.region ?_
   obtain ⟨ho_1, hM⟩ := hM
   refine oV (elemPtr 1 vr_1 (n_1).toNat) (q_idx ts_22 (hS.own 2 rfl).slice rfl rfl ho_1) rfl ?_
   refine oV (.int .i64 (gi r_2 n_1)) (q_ldElem to_3 (hS.own 2 rfl).slice rfl ho_1 rfl) rfl ?_
   refine oA (.int .i64 (gi r_2 n_1)) rfl rfl ?_
   refine HO.nil (thenQ_normal (?_))
   refine HW.seq ?_
   refine HW.region ?_
   refine oM (vmembers) rfl rfl ?_
   refine oM (.int .i64 (gi r_2 n_1)) rfl rfl ?_
   refine HO.call (want_none) rfl (ec en_48 rfl rfl) (slices_Contains_s_int_int_walk (fr := (Ow.box b_1 31 #[.int .i64 t_0_1, vt_1_1] :: Ow.box b_2 31 #[.int .i64 0, .slice none 0 0] :: Ow.own 3 1 encI vr_1 r_2 :: fr)) members (gi r_2 n_1) vmembers hS hL_members hM) ?_
   rintro _ h_8 ⟨F_5, r_3, rfl, hk, hS, _, hM⟩
   replace hK := hK.trans hk
   replace hL_t_Links := hL_t_Links.kp hk
   replace hL_members := hL_members.kp hk
   replace hL_services := hL_services.kp hk
   replace hL_1 := hL_1.kp hk
   refine oV (.bool (!r_3)) (q_not rfl) rfl ?_
   refine HO.nil (thenQ_normal (?_))
   refine HW.cond (!r_3) rfl (fun c_3 => ?_) (fun c_3 => ?_)
   ·
    replace hM := hM.1 c_3
    refine HW.region ?_
    refine oV (.agg #[.int .i64 t_0_1, vt_1_1]) (q_loadAgg (cs := [.int .i64 t_0_1, vt_1_1]) ta_31 rfl rfl (Blk.cells (k := 2) (hS.box 0 rfl) rfl)) rfl ?_
    refine oM (.int .i64 (gi r_2 n_1)) rfl rfl ?_
    refine oM (vservices) rfl rfl ?_
    refine oM (.int .i64 fan) rfl rfl ?_
    refine HO.call (want_none) rfl (ec en_30 rfl rfl) (repair_leave_walk (fr := (Ow.box b_1 31 #[.int .i64 t_0_1, vt_1_1] :: Ow.box b_2 31 #[.int .i64 0, .slice none 0 0] :: Ow.own 3 1 encI vr_1 r_2 :: fr)) t_0_1 t_1_1 (gi r_2 n_1) services fan vt_1_1 vservices hS hL_1 hL_services hD hM) ?_
    rintro _ h_9 ⟨F_6, r_0_2, r_1_2, vr_1_2, rfl, hk, hS, _, _, hM⟩
    replace hK := hK.trans hk
    replace hL_t_Links := hL_t_Links.kp hk
    replace hL_members := hL_members.kp hk
    replace hL_services := hL_services.kp hk
    refine HO.sto (want_none) rfl (st_storeAgg (c' := #[.int .i64 r_0_2, vr_1_2]) hS (i := 1) rfl ta_31 rfl rfl rfl (List.forall_mem_cons.2 ⟨rfl, (List.forall_mem_cons.2 ⟨(shp (hS.own 0 rfl).slice).one, (fun _ h => by cases h)⟩)⟩) (Nat.le_of_ble_eq_true rfl) rfl) ?_
    rintro h_10 ⟨hS, hk⟩
    replace hK := hK.trans hk
    replace hL_t_Links := hL_t_Links.kp hk
    replace hL_members := hL_members.kp hk
    replace hL_services := hL_services.kp hk
    refine HO.nil (blockQ_normal (thenQ_normal (?_)))
    refine HW.region ?_
    obtain ⟨ho_2, hM⟩ := hM
    refine oV (.int .i64 (n_1 + 1)) (q_addN _ rfl rfl rfl ho_2.1 ho_2.2) rfl ?_
    refine oM (.int .i64 (n_1 + 1)) rfl rfl ?_
    refine HO.nil (thenQ_normal (?_))
    obtain ⟨F_7, hS, hk, hL_2⟩ := hS.freezeOwn
    replace hK := hK.trans hk
    replace hL_t_Links := hL_t_Links.kp hk
    replace hL_members := hL_members.kp hk
    replace hL_services := hL_services.kp hk
    rw [hKe_1] at hM
    exact ⟨(r_0_2, r_1_2, n_1 + 1), ⟨F_7, vr_1_2, rfl, rfl, rfl, rfl, rfl, rfl, rfl, rfl, rfl, hK, hS, hL_t_Links, hL_members, hL_services, hL_2, hM.1⟩, hM.2⟩
   ·
    replace hM := hM.2 c_3
    refine HW.skip (blockQ_normal (thenQ_normal (?_)))
    refine HW.region ?_
    obtain ⟨ho_3, hM⟩ := hM
    refine oV (.int .i64 (n_1 + 1)) (q_addN _ rfl rfl rfl ho_3.1 ho_3.2) rfl ?_
    refine oM (.int .i64 (n_1 + 1)) rfl rfl ?_
    refine HO.nil (thenQ_normal (?_))
    rw [hKe_1] at hM
    exact ⟨(t_0_1, t_1_1, n_1 + 1), ⟨F_5, vt_1_1, rfl, rfl, rfl, rfl, rfl, rfl, rfl, rfl, rfl, hK, hS, hL_t_Links, hL_members, hL_services, hL_1, hM.1⟩, hM.2⟩
  ·
   replace hM := hM.2 (of_decide_eq_false c_2)
   refine HW.exit (thenQ_exit (thenQ_exit (blockQ_exit (thenQ_normal (?_)))))
   refine HW.seq ?_
   refine HW.seq ?_
   refine HW.region ?_
   refine oM (vmembers) rfl rfl ?_
   refine oV (.int .i64 (members.length : Int)) (q_len ts_22 (shp hL_members.is) rfl rfl) rfl ?_
   refine oM (.int .i64 0) rfl rfl ?_
   refine HO.nil (thenQ_normal (?_))
   refine HW.block ?_
   obtain ⟨I_2, m_2, hI_2, hR_2⟩ := hM
   replace hS : St F_4 (Ow.box b_1 31 #[.int .i64 t_0_1, vt_1_1] :: Ow.box b_2 31 #[.int .i64 0, .slice none 0 0] :: fr) h_7 := hS.perm2 [0, 1] 3 rfl rfl
   refine HW.loop (S := Int × List TB × Int) (fun s f h => match s with | (t_0_2, t_1_2, n_2) => ∃ (F' : Fz) (vt_1_2 : Value), f 2 = vservices ∧ f 3 = .int .i64 fan ∧ f 4 = .pointer (some ⟨b_1, 0, none⟩) ∧ f 8 = .pointer (some ⟨b_2, 0, none⟩) ∧ f 9 = .bool false ∧ f 42 = vmembers ∧ f 43 = .int .i64 (members.length : Int) ∧ f 44 = .int .i64 n_2 ∧ Kp F h0 F' h ∧ St F' (Ow.box b_1 31 #[.int .i64 t_0_2, vt_1_2] :: Ow.box b_2 31 #[.int .i64 0, .slice none 0 0] :: fr) h ∧ (SliceF F' h 2 e_api_Branch vt_Links t_Links) ∧ (SliceF F' h 1 encI vmembers members) ∧ (SliceF F' h 1 encI vservices services) ∧ (SliceF F' h 2 e_api_Branch vt_1_1 t_1_1) ∧ (SliceF F' h 2 e_api_Branch vt_1_2 t_1_2) ∧ I_2 (t_0_2, t_1_2, n_2)) m_2 (t_0_1, t_1_1, 0) ⟨F_4, vt_1_1, rfl, rfl, rfl, rfl, rfl, rfl, rfl, rfl, hK, hS, hL_t_Links, hL_members, hL_services, hL_1, hL_1, hI_2⟩ ?_
   rintro ⟨t_0_2, t_1_2, n_2⟩ f_2 h_11 ⟨F_8, vt_1_2, e2, e3, e4, e8, e9, e42, e43, e44, hK, hS, hL_t_Links, hL_members, hL_services, hL_1, hL_3, hI0⟩
   obtain ⟨K_2, hKe_2⟩ : ∃ K : Int → (List TB) → Int → Prop, K = fun t_0_2' t_1_2' n_2' => I_2 (t_0_2', t_1_2', n_2') ∧ m_2 (t_0_2', t_1_2', n_2') < m_2 (t_0_2, t_1_2, n_2) := ⟨_, rfl⟩
   have hM : repair_To_l2 members services fan Q K_2 t_0_2 t_1_2 n_2 := by rw [hKe_2]; exact hR_2 (t_0_2, t_1_2, n_2) hI0
   unfold repair_To_l2 at hM
   refine HW.fr [(2, vservices), (3, .int .i64 fan), (4, .pointer (some ⟨b_1, 0, none⟩)), (8, .pointer (some ⟨b_2, 0, none⟩)), (9, .bool false), (42, vmembers), (43, .int .i64 (members.length : Int)), (44, .int .i64 n_2)] ⟨e2, e3, e4, e8, e9, e42, e43, e44, trivial⟩ ?_
   refine HW.seq ?_
   refine HW.region ?_
   refine oV (.bool (decide (n_2 < (members.length : Int)))) (q_lss rfl rfl) rfl ?_
   refine HO.nil (thenQ_normal (?_))
   refine HW.seq ?_
   refine HW.cond (decide (n_2 < (members.length : Int))) rfl (fun c_4 => ?_) (fun c_4 => ?_)
   ·
    replace hM := hM.1 (of_decide_eq_true c_4)
    refine HW.skip (thenQ_normal (?_))
    refine HW.seq ?_
    refine HW.block ?_
    refine HW.seq ?_
    refine HW.region ?_
    obtain ⟨ho_4, hM⟩ := hM
    refine oV (elemPtr 1 vmembers (n_2).toNat) (q_idx ts_22 hL_members.is rfl rfl ho_4) rfl ?_
    refine oV (.int .i64 (gi members n_2)) (q_ldElem to_3 hL_members.is rfl ho_4 rfl) rfl ?_
    refine oA (.int .i64 (gi members n_2)) rfl rfl ?_
    refine HO.nil (thenQ_normal (?_))
    refine HW.seq ?_
    refine HW.region ?_
    refine oV (.agg #[.int .i64 t_0_2, vt_1_2]) (q_loadAgg (cs := [.int .i64 t_0_2, vt_1_2]) ta_31 rfl rfl (Blk.cells (k := 2) (hS.box 0 rfl) rfl)) rfl ?_
    refine oM (.int .i64 (gi members n_2)) rfl rfl ?_
    refine HO.call (want_none) rfl (ec en_49 rfl rfl) (tree_Has_walk (fr := (Ow.box b_1 31 #[.int .i64 t_0_2, vt_1_2] :: Ow.box b_2 31 #[.int .i64 0, .slice none 0 0] :: fr)) t_0_2 t_1_2 (gi members n_2) vt_1_2 hS hL_3 hM) ?_
    rintro _ h_12 ⟨F_9, r_4, rfl, hk, hS, _, hM⟩
    replace hK := hK.trans hk
    replace hL_t_Links := hL_t_Links.kp hk
    replace hL_members := hL_members.kp hk
    replace hL_services := hL_services.kp hk
    replace hL_1 := hL_1.kp hk
    replace hL_3 := hL_3.kp hk
    refine oV (.bool (!r_4)) (q_not rfl) rfl ?_
    refine HO.nil (thenQ_normal (?_))
    refine HW.cond (!r_4) rfl (fun c_5 => ?_) (fun c_5 => ?_)
    ·
     replace hM := hM.1 c_5
     refine HW.region ?_
     refine oV (.agg #[.int .i64 t_0_2, vt_1_2]) (q_loadAgg (cs := [.int .i64 t_0_2, vt_1_2]) ta_31 rfl rfl (Blk.cells (k := 2) (hS.box 0 rfl) rfl)) rfl ?_
     refine oM (.int .i64 (gi members n_2)) rfl rfl ?_
     refine oM (vservices) rfl rfl ?_
     refine oM (.int .i64 fan) rfl rfl ?_
     refine HO.call (want_none) rfl (ec en_36 rfl rfl) (repair_join_walk (fr := (Ow.box b_1 31 #[.int .i64 t_0_2, vt_1_2] :: Ow.box b_2 31 #[.int .i64 0, .slice none 0 0] :: fr)) t_0_2 t_1_2 (gi members n_2) services fan vt_1_2 vservices hS hL_3 hL_services hD hM) ?_
     rintro _ h_13 ⟨F_10, r_0_3, r_1_3, vr_1_3, rfl, hk, hS, _, _, hM⟩
     replace hK := hK.trans hk
     replace hL_t_Links := hL_t_Links.kp hk
     replace hL_members := hL_members.kp hk
     replace hL_services := hL_services.kp hk
     replace hL_1 := hL_1.kp hk
     refine HO.sto (want_none) rfl (st_storeAgg (c' := #[.int .i64 r_0_3, vr_1_3]) hS (i := 1) rfl ta_31 rfl rfl rfl (List.forall_mem_cons.2 ⟨rfl, (List.forall_mem_cons.2 ⟨(shp (hS.own 0 rfl).slice).one, (fun _ h => by cases h)⟩)⟩) (Nat.le_of_ble_eq_true rfl) rfl) ?_
     rintro h_14 ⟨hS, hk⟩
     replace hK := hK.trans hk
     replace hL_t_Links := hL_t_Links.kp hk
     replace hL_members := hL_members.kp hk
     replace hL_services := hL_services.kp hk
     replace hL_1 := hL_1.kp hk
     refine HO.nil (blockQ_normal (thenQ_normal (?_)))
     refine HW.region ?_
     obtain ⟨ho_5, hM⟩ := hM
     refine oV (.int .i64 (n_2 + 1)) (q_addN _ rfl rfl rfl ho_5.1 ho_5.2) rfl ?_
     refine oM (.int .i64 (n_2 + 1)) rfl rfl ?_
     refine HO.nil (thenQ_normal (?_))
     obtain ⟨F_11, hS, hk, hL_4⟩ := hS.freezeOwn
     replace hK := hK.trans hk
     replace hL_t_Links := hL_t_Links.kp hk
     replace hL_members := hL_members.kp hk
     replace hL_services := hL_services.kp hk
     replace hL_1 := hL_1.kp hk
     rw [hKe_2] at hM
     exact ⟨(r_0_3, r_1_3, n_2 + 1), ⟨F_11, vr_1_3, rfl, rfl, rfl, rfl, rfl, rfl, rfl, rfl, hK, hS, hL_t_Links, hL_members, hL_services, hL_1, hL_4, hM.1⟩, hM.2⟩
    ·
     replace hM := hM.2 c_5
     refine HW.skip (blockQ_normal (thenQ_normal (?_)))
     refine HW.region ?_
     obtain ⟨ho_6, hM⟩ := hM
     refine oV (.int .i64 (n_2 + 1)) (q_addN _ rfl rfl rfl ho_6.1 ho_6.2) rfl ?_
     refine oM (.int .i64 (n_2 + 1)) rfl rfl ?_
     refine HO.nil (thenQ_normal (?_))
     rw [hKe_2] at hM
     exact ⟨(t_0_2, t_1_2, n_2 + 1), ⟨F_9, vt_1_2, rfl, rfl, rfl, rfl, rfl, rfl, rfl, rfl, hK, hS, hL_t_Links, hL_members, hL_services, hL_1, hL_3, hM.1⟩, hM.2⟩
   ·
    replace hM := hM.2 (of_decide_eq_false c_4)
    refine HW.exit (thenQ_exit (thenQ_exit (blockQ_exit (thenQ_normal (?_)))))
    refine HW.seq ?_
    refine HW.regionA 8 mixed (fun h => (Blk h b_1 (.cells #[.int .i64 t_0_2, vt_1_2] 31 (0, 0)))) [] (by kernel_rfl) ?_
    refine HA.val (k := 0) (v := .pointer (some ⟨b_1, 0, none⟩)) rfl rfl (by kernel_rfl) (by kernel_rfl) (want_none) rfl (fun _ c508 => q_fieldAddr fa_31_0 rfl rfl) ?_
    refine HA.val (k := 1) (v := .int .i64 t_0_2) rfl rfl (by kernel_rfl) (by kernel_rfl) (want_none) rfl (fun _ c508 => q_load to_3 rfl (Blk.cell c508 rfl)) ?_
    refine HA.val (k := 2) (v := .pointer (some ⟨b_1, 1, none⟩)) rfl rfl (by kernel_rfl) (by kernel_rfl) (want_none) rfl (fun _ c508 => q_fieldAddr fa_31_1 rfl rfl) ?_
    refine HA.val (k := 3) (v := vt_1_2) rfl rfl (by kernel_rfl) (by kernel_rfl) (want_none) rfl (fun _ c508 => q_load to_29 rfl (Blk.cell c508 rfl)) ?_
    refine HA.one (k := 4) ⟨(hS.box 0 rfl), (Go.Wk.at_nil _ _)⟩ (by kernel_rfl) ?_
    refine HS.call rfl (want_none) rfl (ec en_51 rfl rfl) (slices_Clone_s_api_Branch_api_Branch_walk (fr := (Ow.box b_1 31 #[.int .i64 t_0_2, vt_1_2] :: Ow.box b_2 31 #[.int .i64 0, .slice none 0 0] :: fr)) t_1_2 vt_1_2 hS hL_3 hM) ?_
    rintro vr_2 h_15 ⟨F_12, r_5, _, rfl, hk, hS, _, hM⟩
    replace hK := hK.trans hk
    replace hL_t_Links := hL_t_Links.kp hk
    replace hL_members := hL_members.kp hk
    replace hL_services := hL_services.kp hk
    refine HA.one (k := 5) ⟨(hS.box 1 rfl), (Go.Wk.at_nil _ _)⟩ (by kernel_rfl) ?_
    replace hS : St F_12 (Ow.own 52 2 e_api_Branch vr_2 r_5 :: Ow.box b_1 31 #[.int .i64 t_0_2, vt_1_2] :: Ow.box b_2 31 #[.int .i64 0, .slice none 0 0] :: fr) h_15 := hS
    have hZ_1 := hS
    have hkz_1 := (hS.freeze).2
    replace hS := hS.freeze.1
    have hL_5 : SliceF (fun bz_ => F_12 bz_ ∨ (Ow.own 52 2 e_api_Branch vr_2 r_5).foot bz_) h_15 2 e_api_Branch vr_2 r_5 := ⟨(hZ_1.own 0 rfl).slice, fun _ b hb => .inr hb⟩
    refine HS.call rfl (want_none) rfl (ec en_50 rfl rfl) (repair_of_walk (fr := (Ow.box b_1 31 #[.int .i64 t_0_2, vt_1_2] :: Ow.box b_2 31 #[.int .i64 0, .slice none 0 0] :: fr)) t_0_2 r_5 vr_2 hS hL_5 hM) ?_
    rintro _ h_16 ⟨F_13, r_0_4, r_1_4, vr_1_4, rfl, hk, hS, _, hM⟩
    obtain ⟨hS, hk⟩ := hZ_1.back hk hS
    generalize (fun bz_ => F_13 bz_ ∧ ¬ (Ow.own 52 2 e_api_Branch vr_2 r_5).foot bz_) = F_14 at hS hk
    replace hK := hK.trans hk
    replace hL_t_Links := hL_t_Links.kp hk
    replace hL_members := hL_members.kp hk
    replace hL_services := hL_services.kp hk
    refine HA.one (k := 6) ⟨(hS.box 2 rfl), (Go.Wk.at_nil _ _)⟩ (by kernel_rfl) ?_
    refine HS.sto rfl (want_none) rfl (st_storeAgg (c' := #[.int .i64 r_0_4, vr_1_4]) hS (i := 3) rfl ta_31 rfl rfl rfl (List.forall_mem_cons.2 ⟨rfl, (List.forall_mem_cons.2 ⟨(shp (hS.own 1 rfl).slice).one, (fun _ h => by cases h)⟩)⟩) (Nat.le_of_ble_eq_true rfl) rfl) ?_
    rintro h_17 ⟨hS, hk⟩
    replace hK := hK.trans hk
    replace hL_t_Links := hL_t_Links.kp hk
    replace hL_members := hL_members.kp hk
    replace hL_services := hL_services.kp hk
    refine HA.val (k := 7) (v := .bool true) rfl rfl (by kernel_rfl) (by kernel_rfl) (want_none) rfl (fun _ c508 => q_assign rfl) ?_
    refine HA.nil ⟨(hS.box 2 rfl), (Go.Wk.at_nil _ _)⟩ (by kernel_rfl) (thenQ_normal (?_))
    refine HW.ret (?_)
    refine ⟨.inr rfl, .tuple #[.agg #[.int .i64 r_0_4, vr_1_4], .bool true], res2 rfl (rca (cs := [.int .i64 r_0_4, vr_1_4]) ta_31 rfl rfl (Blk.cells (k := 2) (hS.box 3 rfl) rfl)) (rt rfl), ?_⟩
    replace hS : St F_14 (Ow.own 52 2 e_api_Branch vr_1_4 r_1_4 :: fr) h_17 := hS.perm2 [1] 4 rfl rfl
    exact ⟨F_14, r_0_4, r_1_4, true, vr_1_4, rfl, hK, hS, hL_t_Links, hL_members, hL_services, hM⟩
def ref34_To_j1 (t_Root : Int) (members : List Int) (services : List Int) (fan : Int) (Q : Int → (List TB) → Bool → Prop) (i_1 : Int) (K_1 : Int → Prop) (b_3 : Bool) : Prop :=
 (b_3 = true → ref33_Make_W t_Root members services fan (fun r_0_2 r_1_2 => Q r_0_2 r_1_2 false)) ∧ (b_3 = false → (I64 (i_1 + 1)) ∧ (K_1 (i_1 + 1)))
def ref34_To_l3 (members : List Int) (services : List Int) (fan : Int) (Q : Int → (List TB) → Bool → Prop) (K_3 : Int → (List TB) → Int → Prop) (t_0_2 : Int) (t_1_2 : List TB) (i_3 : Int) : Prop :=
 (i_3 < (members.length : Int) → ((0 : Int) ≤ i_3 ∧ i_3 < (members.length : Int)) ∧ (ref32_Nodes_W t_0_2 t_1_2 (fun r_5 => ref32_Has_W r_5 (gi members i_3) (fun r_6 => ((!r_6) = true → ref34_Join_W t_0_2 t_1_2 (gi members i_3) services fan (fun r_0_4 r_1_4 => (I64 (i_3 + 1)) ∧ (K_3 r_0_4 r_1_4 (i_3 + 1)))) ∧ ((!r_6) = false → (I64 (i_3 + 1)) ∧ (K_3 t_0_2 t_1_2 (i_3 + 1))))))) ∧ (¬ (i_3 < (members.length : Int)) → Q t_0_2 t_1_2 true)
def ref34_To_l2 (members : List Int) (services : List Int) (fan : Int) (Q : Int → (List TB) → Bool → Prop) (r_3 : List Int) (K_2 : Int → (List TB) → Int → Prop) (t_0_1 : Int) (t_1_1 : List TB) (i_2 : Int) : Prop :=
 (i_2 < (r_3.length : Int) → ((0 : Int) ≤ i_2 ∧ i_2 < (r_3.length : Int)) ∧ (ref32_Has_W members (gi r_3 i_2) (fun r_4 => ((!r_4) = true → ref34_Leave_W t_0_1 t_1_1 (gi r_3 i_2) services fan (fun r_0_3 r_1_3 => (I64 (i_2 + 1)) ∧ (K_2 r_0_3 r_1_3 (i_2 + 1)))) ∧ ((!r_4) = false → (I64 (i_2 + 1)) ∧ (K_2 t_0_1 t_1_1 (i_2 + 1)))))) ∧ (¬ (i_2 < (r_3.length : Int)) → loopW (fun (K_3 : (Int × List TB × Int) → Prop) (s : Int × List TB × Int) => ref34_To_l3 members services fan Q (fun t_0_2 t_1_2 i_3 => K_3 (t_0_2, t_1_2, i_3)) s.1 s.2.1 s.2.2) (t_0_1, t_1_1, 0))
def ref34_To_l1 (t_Root : Int) (t_Links : List TB) (members : List Int) (services : List Int) (fan : Int) (Q : Int → (List TB) → Bool → Prop) (K_1 : Int → Prop) (i_1 : Int) : Prop :=
 (i_1 < (t_Links.length : Int) → ((0 : Int) ≤ i_1 ∧ i_1 < (t_Links.length : Int)) ∧ ((¬ (((gi t_Links i_1).1) = t_Root) → ref32_Has_W services ((gi t_Links i_1).1) (fun r_2 => ref34_To_j1 t_Root members services fan Q i_1 K_1 (!r_2))) ∧ (((gi t_Links i_1).1) = t_Root → ref34_To_j1 t_Root members services fan Q i_1 K_1 false))) ∧ (¬ (i_1 < (t_Links.length : Int)) → ref32_Leaves_W t_Root t_Links (fun r_3 => loopW (fun (K_2 : (Int × List TB × Int) → Prop) (s : Int × List TB × Int) => ref34_To_l2 members services fan Q r_3 (fun t_0_1 t_1_1 i_2 => K_2 (t_0_1, t_1_1, i_2)) s.1 s.2.1 s.2.2) (t_Root, t_Links, 0)))
def ref34_To_W (t_Root : Int) (t_Links : List TB) (members : List Int) (services : List Int) (fan : Int) (Q : Int → (List TB) → Bool → Prop) : Prop :=
 ref34_Star_W t_Root t_Links fan (fun r_1 => (r_1 = true → ref33_Make_W t_Root members services fan (fun r_0_1 r_1_1 => Q r_0_1 r_1_1 false)) ∧ (r_1 = false → loopW (fun (K_1 : Int → Prop) (s : Int) => ref34_To_l1 t_Root t_Links members services fan Q K_1 s) 0))
theorem ref34_To_walk {F : Fz} {fr : List Ow} {h0 : Heap} (t_Root : Int) (t_Links : List TB) (members : List Int) (services : List Int) (fan : Int) (vt_Links : Value) (vmembers : Value) (vservices : Value) (hS : St F (fr) h0) (hL_t_Links : SliceF F h0 2 e_api_Branch vt_Links t_Links) (hL_members : SliceF F h0 1 encI vmembers members) (hL_services : SliceF F h0 1 encI vservices services) {Q : Int → (List TB) → Bool → Prop} (hM : ref34_To_W t_Root t_Links members services fan Q) :
  HC Tryz.prog 26 #[.agg #[.int .i64 t_Root, vt_Links], vmembers, vservices, .int .i64 fan] h0 fun u h' => ∃ (F' : Fz) (r0_0_1 : Int) (r0_1_1 : List TB) (r1_1 : Bool) (vr0_1_1 : Value), u = .tuple #[.agg #[.int .i64 r0_0_1, vr0_1_1], .bool r1_1] ∧ Kp F h0 F' h' ∧ St F' (fr) h' ∧ (SliceF F' h' 2 e_api_Branch vt_Links t_Links) ∧ (SliceF F' h' 1 encI vmembers members) ∧ (SliceF F' h' 1 encI vservices services) ∧ (SliceF F' h' 2 e_api_Branch vr0_1_1 r0_1_1) ∧ Q r0_0_1 r0_1_1 r1_1 := by
 unfold ref34_To_W at hM
 have hK := Kp.refl F h0
 refine HC.of_HW (n := 99) Tryz.func26 rfl rfl (Nat.le_of_ble_eq_true rfl) ?_
 refine HW.seq ?_
 refine HW.region ?_
 refine HO.eff (want_none) rfl (st_box (c := #[.int .i64 t_Root, vt_Links]) (k' := 2) hS rfl rfl) ?_
 rintro _ h_1 ⟨b_1, rfl, hS, hk⟩
 replace hK := hK.trans hk
 replace hL_t_Links := hL_t_Links.kp hk
 replace hL_members := hL_members.kp hk
 replace hL_services := hL_services.kp hk
 refine HO.eff (want_none) rfl (st_alloc (c := #[.int .i64 0, .slice none 0 0]) hS tz_31 rfl) ?_
 rintro _ h_2 ⟨b_2, rfl, hS, hk⟩
 replace hK := hK.trans hk
 replace hL_t_Links := hL_t_Links.kp hk
 replace hL_members := hL_members.kp hk
 replace hL_services := hL_services.kp hk
 refine oA (.bool false) rfl rfl ?_
 refine HO.nil (thenQ_normal (?_))
 refine HW.seq ?_
 refine HW.seq ?_
 refine HW.region ?_
 refine oV (.agg #[.int .i64 t_Root, vt_Links]) (q_loadAgg (cs := [.int .i64 t_Root, vt_Links]) ta_31 rfl rfl (Blk.cells (k := 2) (hS.box 1 rfl) rfl)) rfl ?_
 refine oM (.int .i64 fan) rfl rfl ?_
 refine HO.call (want_none) rfl (ec en_21 rfl rfl) (ref34_Star_walk (fr := (Ow.box b_2 31 #[.int .i64 0, .slice none 0 0] :: Ow.box b_1 31 #[.int .i64 t_Root, vt_Links] :: fr)) t_Root t_Links fan vt_Links hS hL_t_Links hM) ?_
 rintro _ h_3 ⟨F_1, r_1, rfl, hk, hS, _, hM⟩
 replace hK := hK.trans hk
 replace hL_t_Links := hL_t_Links.kp hk
 replace hL_members := hL_members.kp hk
 replace hL_services := hL_services.kp hk
 refine HO.nil (thenQ_normal (?_))
 refine HW.cond r_1 rfl (fun c_1 => ?_) (fun c_1 => ?_)
 ·
  replace hM := hM.1 c_1
  refine HW.seq ?_
  refine HW.region ?_
  refine oV (.pointer (some ⟨b_1, 0, none⟩)) (q_fieldAddr fa_31_0 rfl rfl) rfl ?_
  refine oV (.int .i64 t_Root) (q_load to_3 rfl (Blk.cell (hS.box 1 rfl) rfl)) rfl ?_
  refine oM (vmembers) rfl rfl ?_
  refine oM (vservices) rfl rfl ?_
  refine oM (.int .i64 fan) rfl rfl ?_
  refine HO.call (want_none) rfl (ec en_7 rfl rfl) (ref33_Make_walk (fr := (Ow.box b_2 31 #[.int .i64 0, .slice none 0 0] :: Ow.box b_1 31 #[.int .i64 t_Root, vt_Links] :: fr)) t_Root members services fan vmembers vservices hS hL_members hL_services hM) ?_
  rintro _ h_4 ⟨F_2, r_0_1, r_1_1, vr_1_1, rfl, hk, hS, _, _, hM⟩
  replace hK := hK.trans hk
  replace hL_t_Links := hL_t_Links.kp hk
  replace hL_members := hL_members.kp hk
  replace hL_services := hL_services.kp hk
  refine HO.sto (want_none) rfl (st_storeAgg (c' := #[.int .i64 r_0_1, vr_1_1]) hS (i := 1) rfl ta_31 rfl rfl rfl (List.forall_mem_cons.2 ⟨rfl, (List.forall_mem_cons.2 ⟨(shp (hS.own 0 rfl).slice).one, (fun _ h => by cases h)⟩)⟩) (Nat.le_of_ble_eq_true rfl) rfl) ?_
  rintro h_5 ⟨hS, hk⟩
  replace hK := hK.trans hk
  replace hL_t_Links := hL_t_Links.kp hk
  replace hL_members := hL_members.kp hk
  replace hL_services := hL_services.kp hk
  refine oA (.bool false) rfl rfl ?_
  refine HO.nil (thenQ_normal (?_))
  refine HW.ret (thenQ_ret (?_))
  refine ⟨.inr rfl, .tuple #[.agg #[.int .i64 r_0_1, vr_1_1], .bool false], res2 rfl (rca (cs := [.int .i64 r_0_1, vr_1_1]) ta_31 rfl rfl (Blk.cells (k := 2) (hS.box 1 rfl) rfl)) (rt rfl), ?_⟩
  obtain ⟨F_3, hS, hk, hL_2⟩ := hS.freezeOwn
  replace hK := hK.trans hk
  replace hL_t_Links := hL_t_Links.kp hk
  replace hL_members := hL_members.kp hk
  replace hL_services := hL_services.kp hk
  replace hS : St F_3 (fr) h_5 := hS.perm2 [] 2 rfl rfl
  exact ⟨F_3, r_0_1, r_1_1, false, vr_1_1, rfl, hK, hS, hL_t_Links, hL_members, hL_services, hL_2, hM⟩
 ·
  replace hM := hM.2 c_1
  refine HW.skip (thenQ_normal (?_))
  refine HW.seq ?_
  refine HW.seq ?_
  refine HW.region ?_
  refine oA (.int .i64 0) rfl rfl ?_
  refine HO.nil (thenQ_normal (?_))
  refine HW.block ?_
  obtain ⟨I_1, m_1, hI_1, hR_1⟩ := hM
  replace hS : St F_1 (Ow.box b_1 31 #[.int .i64 t_Root, vt_Links] :: Ow.box b_2 31 #[.int .i64 0, .slice none 0 0] :: fr) h_3 := hS.perm2 [1, 0] 2 rfl rfl
  refine HW.loop (S := Int) (fun i_1 f h => ∃ (F' : Fz), f 1 = vmembers ∧ f 2 = vservices ∧ f 3 = .int .i64 fan ∧ f 4 = .pointer (some ⟨b_1, 0, none⟩) ∧ f 8 = .pointer (some ⟨b_2, 0, none⟩) ∧ f 9 = .bool false ∧ f 10 = .int .i64 i_1 ∧ Kp F h0 F' h ∧ St F' (Ow.box b_1 31 #[.int .i64 t_Root, vt_Links] :: Ow.box b_2 31 #[.int .i64 0, .slice none 0 0] :: fr) h ∧ (SliceF F' h 2 e_api_Branch vt_Links t_Links) ∧ (SliceF F' h 1 encI vmembers members) ∧ (SliceF F' h 1 encI vservices services) ∧ I_1 i_1) m_1 0 ⟨F_1, rfl, rfl, rfl, rfl, rfl, rfl, rfl, hK, hS, hL_t_Links, hL_members, hL_services, hI_1⟩ ?_
  rintro i_1 f_1 h_6 ⟨F_4, e1, e2, e3, e4, e8, e9, e10, hK, hS, hL_t_Links, hL_members, hL_services, hI0⟩
  obtain ⟨K_1, hKe_1⟩ : ∃ K : Int → Prop, K = fun i_1' => I_1 i_1' ∧ m_1 i_1' < m_1 i_1 := ⟨_, rfl⟩
  have hM : ref34_To_l1 t_Root t_Links members services fan Q K_1 i_1 := by rw [hKe_1]; exact hR_1 i_1 hI0
  unfold ref34_To_l1 at hM
  refine HW.fr [(1, vmembers), (2, vservices), (3, .int .i64 fan), (4, .pointer (some ⟨b_1, 0, none⟩)), (8, .pointer (some ⟨b_2, 0, none⟩)), (9, .bool false), (10, .int .i64 i_1)] ⟨e1, e2, e3, e4, e8, e9, e10, trivial⟩ ?_
  refine HW.seq ?_
  refine HW.seq ?_
  refine HW.region ?_
  refine oM (.int .i64 i_1) rfl rfl ?_
  refine oV (.pointer (some ⟨b_1, 1, none⟩)) (q_fieldAddr fa_31_1 rfl rfl) rfl ?_
  refine oV (vt_Links) (q_load to_29 rfl (Blk.cell (hS.box 0 rfl) rfl)) rfl ?_
  refine oV (.int .i64 (t_Links.length : Int)) (q_len ts_29 (shp hL_t_Links.is) rfl rfl) rfl ?_
  refine oV (.bool (decide (i_1 < (t_Links.length : Int)))) (q_lss rfl rfl) rfl ?_
  refine HO.nil (thenQ_normal (?_))
  refine HW.cond (decide (i_1 < (t_Links.length : Int))) rfl (fun c_2 => ?_) (fun c_2 => ?_)
  ·
   replace hM := hM.1 (of_decide_eq_true c_2)
   refine HW.skip (thenQ_normal (?_))
   refine HW.seq ?_
   refine HW.block ?_
   refine HW.seq ?_
   refine HW.region ?_
   refine oV (.pointer (some ⟨b_1, 1, none⟩)) (q_fieldAddr fa_31_1 rfl rfl) rfl ?_
   refine oV (vt_Links) (q_load to_29 rfl (Blk.cell (hS.box 0 rfl) rfl)) rfl ?_
   refine oM (.int .i64 i_1) rfl rfl ?_
   obtain ⟨ho_1, hM⟩ := hM
   refine oV (elemPtr 2 vt_Links (i_1).toNat) (q_idx ts_29 hL_t_Links.is rfl rfl ho_1) rfl ?_
   refine oV (fieldPtr 2 vt_Links (i_1).toNat 0) (q_fldElem fa_52_0 hL_t_Links.is rfl ho_1) rfl ?_
   refine oV (.int .i64 ((gi t_Links i_1).1)) (q_ldField to_3 hL_t_Links.is rfl ho_1 (by decide) rfl) rfl ?_
   refine oA (.int .i64 ((gi t_Links i_1).1)) rfl rfl ?_
   refine HO.nil (thenQ_normal (?_))
   refine HW.seq_mid (fun f h => ∃ (F' : Fz) (b_3 : Bool), f 1 = vmembers ∧ f 2 = vservices ∧ f 3 = .int .i64 fan ∧ f 4 = .pointer (some ⟨b_1, 0, none⟩) ∧ f 8 = .pointer (some ⟨b_2, 0, none⟩) ∧ f 9 = .bool false ∧ f 10 = .int .i64 i_1 ∧ f 46 = .bool b_3 ∧ Kp F h0 F' h ∧ St F' (Ow.box b_1 31 #[.int .i64 t_Root, vt_Links] :: Ow.box b_2 31 #[.int .i64 0, .slice none 0 0] :: fr) h ∧ (SliceF F' h 2 e_api_Branch vt_Links t_Links) ∧ (SliceF F' h 1 encI vmembers members) ∧ (SliceF F' h 1 encI vservices services) ∧ ref34_To_j1 t_Root members services fan Q i_1 K_1 b_3) ?_ ?_
   ·
    refine HW.region ?_
    refine oM (.int .i64 ((gi t_Links i_1).1)) rfl rfl ?_
    refine oV (.pointer (some ⟨b_1, 0, none⟩)) (q_fieldAddr fa_31_0 rfl rfl) rfl ?_
    refine oV (.int .i64 t_Root) (q_load to_3 rfl (Blk.cell (hS.box 0 rfl) rfl)) rfl ?_
    refine oV (.bool (!decide (((gi t_Links i_1).1) = t_Root))) (q_neq rfl rfl) rfl ?_
    refine oM (.bool (!decide (((gi t_Links i_1).1) = t_Root))) rfl rfl ?_
    rcases Bool.eq_false_or_eq_true (!decide (((gi t_Links i_1).1) = t_Root)) with c_3 | c_3
    ·
     replace hM := hM.1 (nd_true c_3)
     refine HO.val (v := vservices) (want_by rfl rfl c_3) rfl (q_move rfl) ?_
     refine HO.val (v := .int .i64 ((gi t_Links i_1).1)) (want_by rfl rfl c_3) rfl (q_move rfl) ?_
     refine HO.call (want_by rfl rfl c_3) rfl (ec en_8 rfl rfl) (ref32_Has_walk (fr := (Ow.box b_1 31 #[.int .i64 t_Root, vt_Links] :: Ow.box b_2 31 #[.int .i64 0, .slice none 0 0] :: fr)) services ((gi t_Links i_1).1) vservices hS hL_services hM) ?_
     rintro _ h_7 ⟨F_5, r_2, rfl, hk, hS, _, hM⟩
     replace hK := hK.trans hk
     replace hL_t_Links := hL_t_Links.kp hk
     replace hL_members := hL_members.kp hk
     replace hL_services := hL_services.kp hk
     refine HO.val (v := .bool (!r_2)) (want_by rfl rfl c_3) rfl (q_not rfl) ?_
     refine oV (.bool (!r_2)) (q_pickK true rfl c_3 rfl) rfl ?_
     refine HO.nil (thenQ_normal (?_))
     exact ⟨F_5, !r_2, rfl, rfl, rfl, rfl, rfl, rfl, rfl, rfl, hK, hS, hL_t_Links, hL_members, hL_services, hM⟩
    ·
     replace hM := hM.2 (nd_false c_3)
     refine HO.past (past_by rfl rfl c_3) rfl ?_
     refine HO.past (past_by rfl rfl c_3) rfl ?_
     refine HO.past (past_by rfl rfl c_3) rfl ?_
     refine HO.past (past_by rfl rfl c_3) rfl ?_
     refine oV (.bool false) (q_pickK false rfl c_3 rfl) rfl ?_
     refine HO.nil (thenQ_normal (?_))
     exact ⟨F_4, false, rfl, rfl, rfl, rfl, rfl, rfl, rfl, rfl, hK, hS, hL_t_Links, hL_members, hL_services, hM⟩
   ·
    rintro f_2 h_8 ⟨F_6, b_3, e1, e2, e3, e4, e8, e9, e10, e46, hK, hS, hL_t_Links, hL_members, hL_services, hM⟩
    unfold ref34_To_j1 at hM
    refine HW.fr [(1, vmembers), (2, vservices), (3, .int .i64 fan), (4, .pointer (some ⟨b_1, 0, none⟩)), (8, .pointer (some ⟨b_2, 0, none⟩)), (9, .bool false), (10, .int .i64 i_1), (46, .bool b_3)] ⟨e1, e2, e3, e4, e8, e9, e10, e46, trivial⟩ ?_
    refine HW.cond b_3 rfl (fun c_4 => ?_) (fun c_4 => ?_)
    ·
     replace hM := hM.1 c_4
     refine HW.seq ?_
     refine HW.region ?_
     refine oV (.pointer (some ⟨b_1, 0, none⟩)) (q_fieldAddr fa_31_0 rfl rfl) rfl ?_
     refine oV (.int .i64 t_Root) (q_load to_3 rfl (Blk.cell (hS.box 0 rfl) rfl)) rfl ?_
     refine oM (vmembers) rfl rfl ?_
     refine oM (vservices) rfl rfl ?_
     refine oM (.int .i64 fan) rfl rfl ?_
     refine HO.call (want_none) rfl (ec en_7 rfl rfl) (ref33_Make_walk (fr := (Ow.box b_1 31 #[.int .i64 t_Root, vt_Links] :: Ow.box b_2 31 #[.int .i64 0, .slice none 0 0] :: fr)) t_Root members services fan vmembers vservices hS hL_members hL_services hM) ?_
     rintro _ h_9 ⟨F_7, r_0_2, r_1_2, vr_1_2, rfl, hk, hS, _, _, hM⟩
     replace hK := hK.trans hk
     replace hL_t_Links := hL_t_Links.kp hk
     replace hL_members := hL_members.kp hk
     replace hL_services := hL_services.kp hk
     refine HO.sto (want_none) rfl (st_storeAgg (c' := #[.int .i64 r_0_2, vr_1_2]) hS (i := 2) rfl ta_31 rfl rfl rfl (List.forall_mem_cons.2 ⟨rfl, (List.forall_mem_cons.2 ⟨(shp (hS.own 0 rfl).slice).one, (fun _ h => by cases h)⟩)⟩) (Nat.le_of_ble_eq_true rfl) rfl) ?_
     rintro h_10 ⟨hS, hk⟩
     replace hK := hK.trans hk
     replace hL_t_Links := hL_t_Links.kp hk
     replace hL_members := hL_members.kp hk
     replace hL_services := hL_services.kp hk
     refine oA (.bool false) rfl rfl ?_
     refine HO.nil (thenQ_normal (?_))
     refine HW.ret (blockQ_ret (thenQ_ret (thenQ_ret (blockQ_ret (thenQ_ret (?_))))))
     refine ⟨.inr rfl, .tuple #[.agg #[.int .i64 r_0_2, vr_1_2], .bool false], res2 rfl (rca (cs := [.int .i64 r_0_2, vr_1_2]) ta_31 rfl rfl (Blk.cells (k := 2) (hS.box 2 rfl) rfl)) (rt rfl), ?_⟩
     obtain ⟨F_8, hS, hk, hL_3⟩ := hS.freezeOwn
     replace hK := hK.trans hk
     replace hL_t_Links := hL_t_Links.kp hk
     replace hL_members := hL_members.kp hk
     replace hL_services := hL_services.kp hk
     replace hS : St F_8 (fr) h_10 := hS.perm2 [] 2 rfl rfl
     exact ⟨F_8, r_0_2, r_1_2, false, vr_1_2, rfl, hK, hS, hL_t_Links, hL_members, hL_services, hL_3, hM⟩
    ·
     replace hM := hM.2 c_4
     refine HW.skip (blockQ_normal (thenQ_normal (?_)))
     refine HW.region ?_
     refine oM (.int .i64 i_1) rfl rfl ?_
     obtain ⟨ho_2, hM⟩ := hM
     refine oV (.int .i64 (i_1 + 1)) (q_addN _ rfl rfl rfl ho_2.1 ho_2.2) rfl ?_
     refine oA (.int .i64 (i_1 + 1)) rfl rfl ?_
     refine HO.nil (thenQ_normal (?_))
     rw [hKe_1] at hM
     exact ⟨i_1 + 1, ⟨F_6, rfl, rfl, rfl, rfl, rfl, rfl, rfl, hK, hS, hL_t_Links, hL_members, hL_services, hM.1⟩, hM.2⟩
  ·
   replace hM := hM.2 (of_decide_eq_false c_2)
   refine HW.exit (thenQ_exit (thenQ_exit (blockQ_exit (thenQ_normal (?_)))))
   refine HW.seq ?_
   refine HW.region ?_
   refine oV (.agg #[.int .i64 t_Root, vt_Links]) (q_loadAgg (cs := [.int .i64 t_Root, vt_Links]) ta_31 rfl rfl (Blk.cells (k := 2) (hS.box 0 rfl) rfl)) rfl ?_
   refine HO.call (want_none) rfl (ec en_32 rfl rfl) (ref32_Leaves_walk (fr := (Ow.box b_1 31 #[.int .i64 t_Root, vt_Links] :: Ow.box b_2 31 #[.int .i64 0, .slice none 0 0] :: fr)) t_Root t_Links vt_Links hS hL_t_Links hM) ?_
   rintro vr_1 h_11 ⟨F_9, r_3, _, rfl, hk, hS, _, hM⟩
   replace hK := hK.trans hk
   replace hL_t_Links := hL_t_Links.kp hk
   replace hL_members := hL_members.kp hk
   replace hL_services := hL_services.kp hk
   refine oA (vr_1) rfl rfl ?_
   refine HO.nil (thenQ_normal (?_))
   refine HW.seq ?_
   refine HW.seq ?_
   refine HW.region ?_
   refine oA (.int .i64 0) rfl rfl ?_
   refine HO.nil (thenQ_normal (?_))
   refine HW.block ?_
   obtain ⟨I_2, m_2, hI_2, hR_2⟩ := hM
   replace hS : St F_9 (Ow.box b_1 31 #[.int .i64 t_Root, vt_Links] :: Ow.box b_2 31 #[.int .i64 0, .slice none 0 0] :: Ow.own 3 1 encI vr_1 r_3 :: fr) h_11 := hS.perm2 [1, 2, 0] 3 rfl rfl
   refine HW.loop (S := Int × List TB × Int) (fun s f h => match s with | (t_0_1, t_1_1, i_2) => ∃ (F' : Fz) (vt_1_1 : Value), f 1 = vmembers ∧ f 2 = vservices ∧ f 3 = .int .i64 fan ∧ f 4 = .pointer (some ⟨b_1, 0, none⟩) ∧ f 8 = .pointer (some ⟨b_2, 0, none⟩) ∧ f 9 = .bool false ∧ f 12 = vr_1 ∧ f 13 = .int .i64 i_2 ∧ Kp F h0 F' h ∧ St F' (Ow.box b_1 31 #[.int .i64 t_0_1, vt_1_1] :: Ow.box b_2 31 #[.int .i64 0, .slice none 0 0] :: Ow.own 3 1 encI vr_1 r_3 :: fr) h ∧ (SliceF F' h 2 e_api_Branch vt_Links t_Links) ∧ (SliceF F' h 1 encI vmembers members) ∧ (SliceF F' h 1 encI vservices services) ∧ (SliceF F' h 2 e_api_Branch vt_1_1 t_1_1) ∧ I_2 (t_0_1, t_1_1, i_2)) m_2 (t_Root, t_Links, 0) ⟨F_9, vt_Links, rfl, rfl, rfl, rfl, rfl, rfl, rfl, rfl, hK, hS, hL_t_Links, hL_members, hL_services, hL_t_Links, hI_2⟩ ?_
   rintro ⟨t_0_1, t_1_1, i_2⟩ f_3 h_12 ⟨F_10, vt_1_1, e1, e2, e3, e4, e8, e9, e12, e13, hK, hS, hL_t_Links, hL_members, hL_services, hL_4, hI0⟩
   obtain ⟨K_2, hKe_2⟩ : ∃ K : Int → (List TB) → Int → Prop, K = fun t_0_1' t_1_1' i_2' => I_2 (t_0_1', t_1_1', i_2') ∧ m_2 (t_0_1', t_1_1', i_2') < m_2 (t_0_1, t_1_1, i_2) := ⟨_, rfl⟩
   have hM : ref34_To_l2 members services fan Q r_3 K_2 t_0_1 t_1_1 i_2 := by rw [hKe_2]; exact hR_2 (t_0_1, t_1_1, i_2) hI0
   unfold ref34_To_l2 at hM
   refine HW.fr [(1, vmembers), (2, vservices), (3, .int .i64 fan), (4, .pointer (some ⟨b_1, 0, none⟩)), (8, .pointer (some ⟨b_2, 0, none⟩)), (9, .bool false), (12, vr_1), (13, .int .i64 i_2)] ⟨e1, e2, e3, e4, e8, e9, e12, e13, trivial⟩ ?_
   refine HW.seq ?_
   refine HW.seq ?_
   refine HW.region ?_
   refine oM (.int .i64 i_2) rfl rfl ?_
   refine oM (vr_1) rfl rfl ?_
   refine oV (.int .i64 (r_3.length : Int)) (q_len ts_22 (shp (hS.own 2 rfl).slice) rfl rfl) rfl ?_
   refine oV (.bool (decide (i_2 < (r_3.length : Int)))) (q_lss rfl rfl) rfl ?_
   refine HO.nil (thenQ_normal (?_))
   refine HW.cond (decide (i_2 < (r_3.length : Int))) rfl (fun c_5 => ?_) (fun c_5 => ?_)
   ·
    replace hM := hM.1 (of_decide_eq_true c_5)
    refine HW.skip (thenQ_normal (?_))
    refine HW.seq ?_
    refine HW.block ?_
    refine HW.seq ?_
    refine HW.region ?_
    refine oM (vmembers) rfl rfl ?_
    refine oM (vr_1) rfl rfl ?_
    refine oM (.int .i64 i_2) rfl rfl ?_
    obtain ⟨ho_3, hM⟩ := hM
    refine oV (elemPtr 1 vr_1 (i_2).toNat) (q_idx ts_22 (hS.own 2 rfl).slice rfl rfl ho_3) rfl ?_
    refine oV (.int .i64 (gi r_3 i_2)) (q_ldElem to_3 (hS.own 2 rfl).slice rfl ho_3 rfl) rfl ?_
    refine HO.call (want_none) rfl (ec en_8 rfl rfl) (ref32_Has_walk (fr := (Ow.box b_1 31 #[.int .i64 t_0_1, vt_1_1] :: Ow.box b_2 31 #[.int .i64 0, .slice none 0 0] :: Ow.own 3 1 encI vr_1 r_3 :: fr)) members (gi r_3 i_2) vmembers hS hL_members hM) ?_
    rintro _ h_13 ⟨F_11, r_4, rfl, hk, hS, _, hM⟩
    replace hK := hK.trans hk
    replace hL_t_Links := hL_t_Links.kp hk
    replace hL_members := hL_members.kp hk
    replace hL_services := hL_services.kp hk
    replace hL_4 := hL_4.kp hk
    refine oV (.bool (!r_4)) (q_not rfl) rfl ?_
    refine HO.nil (thenQ_normal (?_))
    refine HW.cond (!r_4) rfl (fun c_6 => ?_) (fun c_6 => ?_)
    ·
     replace hM := hM.1 c_6
     refine HW.regionA 9 mixed (fun h => (OwnIs h 0 3 1 encI vr_1 r_3)) [(8, fun h => (Blk h b_1 (.cells #[.int .i64 t_0_1, vt_1_1] 31 (0, 0))))] (by kernel_rfl) ?_
     refine Go.Wk.HA.valN (k := 0) (v := .agg #[.int .i64 t_0_1, vt_1_1]) 0 8 (fun h => (Blk h b_1 (.cells #[.int .i64 t_0_1, vt_1_1] 31 (0, 0)))) rfl rfl (by kernel_rfl) (by kernel_rfl) (want_none) rfl rfl (by kernel_rfl) (fun _ c458 c456 => q_loadAgg (cs := [.int .i64 t_0_1, vt_1_1]) ta_31 rfl rfl (Blk.cells (k := 2) c456 rfl)) ?_
     refine HA.val (k := 1) (v := vr_1) rfl rfl (by kernel_rfl) (by kernel_rfl) (want_none) rfl (fun _ c458 => q_move rfl) ?_
     refine HA.val (k := 2) (v := .int .i64 i_2) rfl rfl (by kernel_rfl) (by kernel_rfl) (want_none) rfl (fun _ c458 => q_move rfl) ?_
     refine HA.val (k := 3) (v := elemPtr 1 vr_1 (i_2).toNat) rfl rfl (by kernel_rfl) (by kernel_rfl) (want_none) rfl (fun _ c458 => q_idx ts_22 c458.slice rfl rfl ho_3) ?_
     refine HA.val (k := 4) (v := .int .i64 (gi r_3 i_2)) rfl rfl (by kernel_rfl) (by kernel_rfl) (want_none) rfl (fun _ c458 => q_ldElem to_3 c458.slice rfl ho_3 rfl) ?_
     refine HA.val (k := 5) (v := vservices) rfl rfl (by kernel_rfl) (by kernel_rfl) (want_none) rfl (fun _ c458 => q_move rfl) ?_
     refine HA.val (k := 6) (v := .int .i64 fan) rfl rfl (by kernel_rfl) (by kernel_rfl) (want_none) rfl (fun _ c458 => q_move rfl) ?_
     refine HA.one (k := 7) ⟨(hS.own 2 rfl), (at_now (hS.box 0 rfl) (Go.Wk.at_nil _ _))⟩ (by kernel_rfl) ?_
     refine HS.call rfl (want_none) rfl (ec en_15 rfl rfl) (ref34_Leave_walk (fr := (Ow.box b_1 31 #[.int .i64 t_0_1, vt_1_1] :: Ow.box b_2 31 #[.int .i64 0, .slice none 0 0] :: Ow.own 3 1 encI vr_1 r_3 :: fr)) t_0_1 t_1_1 (gi r_3 i_2) services fan vt_1_1 vservices hS hL_4 hL_services hM) ?_
     rintro _ h_14 ⟨F_12, r_0_3, r_1_3, vr_1_3, rfl, hk, hS, _, _, hM⟩
     replace hK := hK.trans hk
     replace hL_t_Links := hL_t_Links.kp hk
     replace hL_members := hL_members.kp hk
     replace hL_services := hL_services.kp hk
     refine HA.one (k := 8) ⟨(hS.own 3 rfl), (at_now (hS.box 1 rfl) (Go.Wk.at_nil _ _))⟩ (by kernel_rfl) ?_
     refine HS.sto rfl (want_none) rfl (st_storeAgg (c' := #[.int .i64 r_0_3, vr_1_3]) hS (i := 1) rfl ta_31 rfl rfl rfl (List.forall_mem_cons.2 ⟨rfl, (List.forall_mem_cons.2 ⟨(shp (hS.own 0 rfl).slice).one, (fun _ h => by cases h)⟩)⟩) (Nat.le_of_ble_eq_true rfl) rfl) ?_
     rintro h_15 ⟨hS, hk⟩
     replace hK := hK.trans hk
     replace hL_t_Links := hL_t_Links.kp hk
     replace hL_members := hL_members.kp hk
     replace hL_services := hL_services.kp hk
     refine HA.nil ⟨(hS.own 3 rfl), (at_done (by kernel_rfl) (Go.Wk.at_nil _ _))⟩ (by kernel_rfl) (blockQ_normal (thenQ_normal (?_)))
     refine HW.region ?_
     refine oM (.int .i64 i_2) rfl rfl ?_
     obtain ⟨ho_4, hM⟩ := hM
     refine oV (.int .i64 (i_2 + 1)) (q_addN _ rfl rfl rfl ho_4.1 ho_4.2) rfl ?_
     refine oA (.int .i64 (i_2 + 1)) rfl rfl ?_
     refine HO.nil (thenQ_normal (?_))
     obtain ⟨F_13, hS, hk, hL_5⟩ := hS.freezeOwn
     replace hK := hK.trans hk
     replace hL_t_Links := hL_t_Links.kp hk
     replace hL_members := hL_members.kp hk
     replace hL_services := hL_services.kp hk
     rw [hKe_2] at hM
     exact ⟨(r_0_3, r_1_3, i_2 + 1), ⟨F_13, vr_1_3, rfl, rfl, rfl, rfl, rfl, rfl, rfl, rfl, hK, hS, hL_t_Links, hL_members, hL_services, hL_5, hM.1⟩, hM.2⟩
    ·
     replace hM := hM.2 c_6
     refine HW.skip (blockQ_normal (thenQ_normal (?_)))
     refine HW.region ?_
     refine oM (.int .i64 i_2) rfl rfl ?_
     obtain ⟨ho_5, hM⟩ := hM
     refine oV (.int .i64 (i_2 + 1)) (q_addN _ rfl rfl rfl ho_5.1 ho_5.2) rfl ?_
     refine oA (.int .i64 (i_2 + 1)) rfl rfl ?_
     refine HO.nil (thenQ_normal (?_))
     rw [hKe_2] at hM
     exact ⟨(t_0_1, t_1_1, i_2 + 1), ⟨F_11, vt_1_1, rfl, rfl, rfl, rfl, rfl, rfl, rfl, rfl, hK, hS, hL_t_Links, hL_members, hL_services, hL_4, hM.1⟩, hM.2⟩
   ·
    replace hM := hM.2 (of_decide_eq_false c_5)
    refine HW.exit (thenQ_exit (thenQ_exit (blockQ_exit (thenQ_normal (?_)))))
    refine HW.seq ?_
    refine HW.seq ?_
    refine HW.region ?_
    refine oA (.int .i64 0) rfl rfl ?_
    refine HO.nil (thenQ_normal (?_))
    refine HW.block ?_
    obtain ⟨I_3, m_3, hI_3, hR_3⟩ := hM
    replace hS : St F_10 (Ow.box b_1 31 #[.int .i64 t_0_1, vt_1_1] :: Ow.box b_2 31 #[.int .i64 0, .slice none 0 0] :: fr) h_12 := hS.perm2 [0, 1] 3 rfl rfl
    refine HW.loop (S := Int × List TB × Int) (fun s f h => match s with | (t_0_2, t_1_2, i_3) => ∃ (F' : Fz) (vt_1_2 : Value), f 1 = vmembers ∧ f 2 = vservices ∧ f 3 = .int .i64 fan ∧ f 4 = .pointer (some ⟨b_1, 0, none⟩) ∧ f 8 = .pointer (some ⟨b_2, 0, none⟩) ∧ f 9 = .bool false ∧ f 14 = .int .i64 i_3 ∧ Kp F h0 F' h ∧ St F' (Ow.box b_1 31 #[.int .i64 t_0_2, vt_1_2] :: Ow.box b_2 31 #[.int .i64 0, .slice none 0 0] :: fr) h ∧ (SliceF F' h 2 e_api_Branch vt_Links t_Links) ∧ (SliceF F' h 1 encI vmembers members) ∧ (SliceF F' h 1 encI vservices services) ∧ (SliceF F' h 2 e_api_Branch vt_1_1 t_1_1) ∧ (SliceF F' h 2 e_api_Branch vt_1_2 t_1_2) ∧ I_3 (t_0_2, t_1_2, i_3)) m_3 (t_0_1, t_1_1, 0) ⟨F_10, vt_1_1, rfl, rfl, rfl, rfl, rfl, rfl, rfl, hK, hS, hL_t_Links, hL_members, hL_services, hL_4, hL_4, hI_3⟩ ?_
    rintro ⟨t_0_2, t_1_2, i_3⟩ f_4 h_16 ⟨F_14, vt_1_2, e1, e2, e3, e4, e8, e9, e14, hK, hS, hL_t_Links, hL_members, hL_services, hL_4, hL_6, hI0⟩
    obtain ⟨K_3, hKe_3⟩ : ∃ K : Int → (List TB) → Int → Prop, K = fun t_0_2' t_1_2' i_3' => I_3 (t_0_2', t_1_2', i_3') ∧ m_3 (t_0_2', t_1_2', i_3') < m_3 (t_0_2, t_1_2, i_3) := ⟨_, rfl⟩
    have hM : ref34_To_l3 members services fan Q K_3 t_0_2 t_1_2 i_3 := by rw [hKe_3]; exact hR_3 (t_0_2, t_1_2, i_3) hI0
    unfold ref34_To_l3 at hM
    refine HW.fr [(1, vmembers), (2, vservices), (3, .int .i64 fan), (4, .pointer (some ⟨b_1, 0, none⟩)), (8, .pointer (some ⟨b_2, 0, none⟩)), (9, .bool false), (14, .int .i64 i_3)] ⟨e1, e2, e3, e4, e8, e9, e14, trivial⟩ ?_
    refine HW.seq ?_
    refine HW.seq ?_
    refine HW.region ?_
    refine oM (.int .i64 i_3) rfl rfl ?_
    refine oM (vmembers) rfl rfl ?_
    refine oV (.int .i64 (members.length : Int)) (q_len ts_22 (shp hL_members.is) rfl rfl) rfl ?_
    refine oV (.bool (decide (i_3 < (members.length : Int)))) (q_lss rfl rfl) rfl ?_
    refine HO.nil (thenQ_normal (?_))
    refine HW.cond (decide (i_3 < (members.length : Int))) rfl (fun c_7 => ?_) (fun c_7 => ?_)
    ·
     replace hM := hM.1 (of_decide_eq_true c_7)
     refine HW.skip (thenQ_normal (?_))
     refine HW.seq ?_
     refine HW.block ?_
     refine HW.seq ?_
     refine HW.regionA 8 mixed (fun h => (SliceIs h 1 encI vmembers members) ∧ (Blk h b_1 (.cells #[.int .i64 t_0_2, vt_1_2] 31 (0, 0)))) [] (by kernel_rfl) ?_
     refine HA.val (k := 0) (v := .agg #[.int .i64 t_0_2, vt_1_2]) rfl rfl (by kernel_rfl) (by kernel_rfl) (want_none) rfl (fun _ ⟨hL_members, c609⟩ => q_loadAgg (cs := [.int .i64 t_0_2, vt_1_2]) ta_31 rfl rfl (Blk.cells (k := 2) c609 rfl)) ?_
     refine HA.val (k := 2) (v := vmembers) rfl rfl (by kernel_rfl) (by kernel_rfl) (want_none) rfl (fun _ ⟨hL_members, c609⟩ => q_move rfl) ?_
     refine HA.val (k := 3) (v := .int .i64 i_3) rfl rfl (by kernel_rfl) (by kernel_rfl) (want_none) rfl (fun _ ⟨hL_members, c609⟩ => q_move rfl) ?_
     obtain ⟨ho_6, hM⟩ := hM
     refine HA.val (k := 4) (v := elemPtr 1 vmembers (i_3).toNat) rfl rfl (by kernel_rfl) (by kernel_rfl) (want_none) rfl (fun _ ⟨hL_members, c609⟩ => q_idx ts_22 hL_members rfl rfl ho_6) ?_
     refine HA.val (k := 5) (v := .int .i64 (gi members i_3)) rfl rfl (by kernel_rfl) (by kernel_rfl) (want_none) rfl (fun _ ⟨hL_members, c609⟩ => q_ldElem to_3 hL_members rfl ho_6 rfl) ?_
     refine HA.one (k := 1) ⟨⟨hL_members.is, (hS.box 0 rfl)⟩, (Go.Wk.at_nil _ _)⟩ (by kernel_rfl) ?_
     refine HS.call rfl (want_none) rfl (ec en_37 rfl rfl) (ref32_Nodes_walk (fr := (Ow.box b_1 31 #[.int .i64 t_0_2, vt_1_2] :: Ow.box b_2 31 #[.int .i64 0, .slice none 0 0] :: fr)) t_0_2 t_1_2 vt_1_2 hS hL_6 hM) ?_
     rintro vr_2 h_17 ⟨F_15, r_5, _, rfl, hk, hS, _, hM⟩
     replace hK := hK.trans hk
     replace hL_t_Links := hL_t_Links.kp hk
     replace hL_members := hL_members.kp hk
     replace hL_services := hL_services.kp hk
     replace hL_4 := hL_4.kp hk
     replace hL_6 := hL_6.kp hk
     refine HA.one (k := 6) ⟨⟨hL_members.is, (hS.box 1 rfl)⟩, (Go.Wk.at_nil _ _)⟩ (by kernel_rfl) ?_
     replace hS : St F_15 (Ow.own 3 1 encI vr_2 r_5 :: Ow.box b_1 31 #[.int .i64 t_0_2, vt_1_2] :: Ow.box b_2 31 #[.int .i64 0, .slice none 0 0] :: fr) h_17 := hS
     have hZ_1 := hS
     have hkz_1 := (hS.freeze).2
     replace hS := hS.freeze.1
     have hL_7 : SliceF (fun bz_ => F_15 bz_ ∨ (Ow.own 3 1 encI vr_2 r_5).foot bz_) h_17 1 encI vr_2 r_5 := ⟨(hZ_1.own 0 rfl).slice, fun _ b hb => .inr hb⟩
     refine HS.call rfl (want_none) rfl (ec en_8 rfl rfl) (ref32_Has_walk (fr := (Ow.box b_1 31 #[.int .i64 t_0_2, vt_1_2] :: Ow.box b_2 31 #[.int .i64 0, .slice none 0 0] :: fr)) r_5 (gi members i_3) vr_2 hS hL_7 hM) ?_
     rintro _ h_18 ⟨F_16, r_6, rfl, hk, hS, _, hM⟩
     obtain ⟨hS, hk⟩ := hZ_1.back hk hS
     generalize (fun bz_ => F_16 bz_ ∧ ¬ (Ow.own 3 1 encI vr_2 r_5).foot bz_) = F_17 at hS hk
     replace hK := hK.trans hk
     replace hL_t_Links := hL_t_Links.kp hk
     replace hL_members := hL_members.kp hk
     replace hL_services := hL_services.kp hk
     replace hL_4 := hL_4.kp hk
     replace hL_6 := hL_6.kp hk
     refine HA.val (k := 7) (v := .bool (!r_6)) rfl rfl (by kernel_rfl) (by kernel_rfl) (want_none) rfl (fun _ ⟨hL_members, c609⟩ => q_not rfl) ?_
     refine HA.nil ⟨⟨hL_members.is, (hS.box 1 rfl)⟩, (Go.Wk.at_nil _ _)⟩ (by kernel_rfl) (thenQ_normal (?_))
     refine HW.cond (!r_6) rfl (fun c_8 => ?_) (fun c_8 => ?_)
     ·
      replace hM := hM.1 c_8
      refine HW.regionA 9 mixed (fun h => (SliceIs h 1 encI vmembers members)) [(8, fun h => (Blk h b_1 (.cells #[.int .i64 t_0_2, vt_1_2] 31 (0, 0))))] (by kernel_rfl) ?_
      refine Go.Wk.HA.valN (k := 0) (v := .agg #[.int .i64 t_0_2, vt_1_2]) 0 8 (fun h => (Blk h b_1 (.cells #[.int .i64 t_0_2, vt_1_2] 31 (0, 0)))) rfl rfl (by kernel_rfl) (by kernel_rfl) (want_none) rfl rfl (by kernel_rfl) (fun _ hL_members c609 => q_loadAgg (cs := [.int .i64 t_0_2, vt_1_2]) ta_31 rfl rfl (Blk.cells (k := 2) c609 rfl)) ?_
      refine HA.val (k := 1) (v := vmembers) rfl rfl (by kernel_rfl) (by kernel_rfl) (want_none) rfl (fun _ hL_members => q_move rfl) ?_
      refine HA.val (k := 2) (v := .int .i64 i_3) rfl rfl (by kernel_rfl) (by kernel_rfl) (want_none) rfl (fun _ hL_members => q_move rfl) ?_
      refine HA.val (k := 3) (v := elemPtr 1 vmembers (i_3).toNat) rfl rfl (by kernel_rfl) (by kernel_rfl) (want_none) rfl (fun _ hL_members => q_idx ts_22 hL_members rfl rfl ho_6) ?_
      refine HA.val (k := 4) (v := .int .i64 (gi members i_3)) rfl rfl (by kernel_rfl) (by kernel_rfl) (want_none) rfl (fun _ hL_members => q_ldElem to_3 hL_members rfl ho_6 rfl) ?_
      refine HA.val (k := 5) (v := vservices) rfl rfl (by kernel_rfl) (by kernel_rfl) (want_none) rfl (fun _ hL_members => q_move rfl) ?_
      refine HA.val (k := 6) (v := .int .i64 fan) rfl rfl (by kernel_rfl) (by kernel_rfl) (want_none) rfl (fun _ hL_members => q_move rfl) ?_
      refine HA.one (k := 7) ⟨hL_members.is, (at_now (hS.box 1 rfl) (Go.Wk.at_nil _ _))⟩ (by kernel_rfl) ?_
      refine HS.call rfl (want_none) rfl (ec en_18 rfl rfl) (ref34_Join_walk (fr := (Ow.own 3 1 encI vr_2 r_5 :: Ow.box b_1 31 #[.int .i64 t_0_2, vt_1_2] :: Ow.box b_2 31 #[.int .i64 0, .slice none 0 0] :: fr)) t_0_2 t_1_2 (gi members i_3) services fan vt_1_2 vservices hS hL_6 hL_services hM) ?_
      rintro _ h_19 ⟨F_18, r_0_4, r_1_4, vr_1_4, rfl, hk, hS, _, _, hM⟩
      replace hK := hK.trans hk
      replace hL_t_Links := hL_t_Links.kp hk
      replace hL_members := hL_members.kp hk
      replace hL_services := hL_services.kp hk
      replace hL_4 := hL_4.kp hk
      refine HA.one (k := 8) ⟨hL_members.is, (at_now (hS.box 2 rfl) (Go.Wk.at_nil _ _))⟩ (by kernel_rfl) ?_
      refine HS.sto rfl (want_none) rfl (st_storeAgg (c' := #[.int .i64 r_0_4, vr_1_4]) hS (i := 2) rfl ta_31 rfl rfl rfl (List.forall_mem_cons.2 ⟨rfl, (List.forall_mem_cons.2 ⟨(shp (hS.own 0 rfl).slice).one, (fun _ h => by cases h)⟩)⟩) (Nat.le_of_ble_eq_true rfl) rfl) ?_
      rintro h_20 ⟨hS, hk⟩
      replace hK := hK.trans hk
      replace hL_t_Links := hL_t_Links.kp hk
      replace hL_members := hL_members.kp hk
      replace hL_services := hL_services.kp hk
      replace hL_4 := hL_4.kp hk
      refine HA.nil ⟨hL_members.is, (at_done (by kernel_rfl) (Go.Wk.at_nil _ _))⟩ (by kernel_rfl) (blockQ_normal (thenQ_normal (?_)))
      refine HW.region ?_
      refine oM (.int .i64 i_3) rfl rfl ?_
      obtain ⟨ho_7, hM⟩ := hM
      refine oV (.int .i64 (i_3 + 1)) (q_addN _ rfl rfl rfl ho_7.1 ho_7.2) rfl ?_
      refine oA (.int .i64 (i_3 + 1)) rfl rfl ?_
      refine HO.nil (thenQ_normal (?_))
      obtain ⟨F_19, hS, hk, hL_8⟩ := hS.freezeOwn
      replace hK := hK.trans hk
      replace hL_t_Links := hL_t_Links.kp hk
      replace hL_members := hL_members.kp hk
      replace hL_services := hL_services.kp hk
      replace hL_4 := hL_4.kp hk
      replace hS : St F_19 (Ow.box b_1 31 #[.int .i64 r_0_4, vr_1_4] :: Ow.box b_2 31 #[.int .i64 0, .slice none 0 0] :: fr) h_20 := hS.perm2 [1, 2] 3 rfl rfl
      rw [hKe_3] at hM
      exact ⟨(r_0_4, r_1_4, i_3 + 1), ⟨F_19, vr_1_4, rfl, rfl, rfl, rfl, rfl, rfl, rfl, hK, hS, hL_t_Links, hL_members, hL_services, hL_4, hL_8, hM.1⟩, hM.2⟩
     ·
      replace hM := hM.2 c_8
      refine HW.skip (blockQ_normal (thenQ_normal (?_)))
      refine HW.region ?_
      refine oM (.int .i64 i_3) rfl rfl ?_
      obtain ⟨ho_8, hM⟩ := hM
      refine oV (.int .i64 (i_3 + 1)) (q_addN _ rfl rfl rfl ho_8.1 ho_8.2) rfl ?_
      refine oA (.int .i64 (i_3 + 1)) rfl rfl ?_
      refine HO.nil (thenQ_normal (?_))
      replace hS : St F_17 (Ow.box b_1 31 #[.int .i64 t_0_2, vt_1_2] :: Ow.box b_2 31 #[.int .i64 0, .slice none 0 0] :: fr) h_18 := hS.perm2 [1, 2] 3 rfl rfl
      rw [hKe_3] at hM
      exact ⟨(t_0_2, t_1_2, i_3 + 1), ⟨F_17, vt_1_2, rfl, rfl, rfl, rfl, rfl, rfl, rfl, hK, hS, hL_t_Links, hL_members, hL_services, hL_4, hL_6, hM.1⟩, hM.2⟩
    ·
     replace hM := hM.2 (of_decide_eq_false c_7)
     refine HW.exit (thenQ_exit (thenQ_exit (blockQ_exit (thenQ_normal (?_)))))
     refine HW.seq ?_
     refine HW.region ?_
     refine oV (.agg #[.int .i64 t_0_2, vt_1_2]) (q_loadAgg (cs := [.int .i64 t_0_2, vt_1_2]) ta_31 rfl rfl (Blk.cells (k := 2) (hS.box 0 rfl) rfl)) rfl ?_
     refine HO.sto (want_none) rfl (st_storeAgg (c' := #[.int .i64 t_0_2, vt_1_2]) hS (i := 1) rfl ta_31 rfl rfl rfl (List.forall_mem_cons.2 ⟨rfl, (List.forall_mem_cons.2 ⟨(shp hL_6.is).one, (fun _ h => by cases h)⟩)⟩) (Nat.le_of_ble_eq_true rfl) rfl) ?_
     rintro h_21 ⟨hS, hk⟩
     replace hK := hK.trans hk
     replace hL_t_Links := hL_t_Links.kp hk
     replace hL_members := hL_members.kp hk
     replace hL_services := hL_services.kp hk
     replace hL_6 := hL_6.kp hk
     refine oA (.bool true) rfl rfl ?_
     refine HO.nil (thenQ_normal (?_))
     refine HW.ret (?_)
     refine ⟨.inr rfl, .tuple #[.agg #[.int .i64 t_0_2, vt_1_2], .bool true], res2 rfl (rca (cs := [.int .i64 t_0_2, vt_1_2]) ta_31 rfl rfl (Blk.cells (k := 2) (hS.box 1 rfl) rfl)) (rt rfl), ?_⟩
     replace hS : St F_14 (fr) h_21 := hS.perm2 [] 2 rfl rfl
     exact ⟨F_14, t_0_2, t_1_2, true, vt_1_2, rfl, hK, hS, hL_t_Links, hL_members, hL_services, hL_6, hM⟩
def law34_RepairTo_l2 (b_Fan : Int) (Q : Bool → Prop) (r0_1 : Int) (r2_1 : List Int) (r3_1 : Int) (r1_2 : List Int) (r2_2 : List Int) (r_0_1 : Int) (r_1_1 : List TB) (K_2 : Int → Prop) (i_2 : Int) : Prop :=
 (i_2 < (r1_2.length : Int) → ((0 : Int) ≤ i_2 ∧ i_2 < (r1_2.length : Int)) ∧ (ref32_Has_W r2_1 (gi r1_2 i_2) (fun r_5 => (r_5 = true → law34_lives_W  (fun r_6 => Q r_6)) ∧ (r_5 = false → (I64 (i_2 + 1)) ∧ (K_2 (i_2 + 1)))))) ∧ (¬ (i_2 < (r1_2.length : Int)) → law34_turned_W r2_2 b_Fan (fun r_7 => law34_own_W r_0_1 r_1_1 (fun r_0_2 r_1_2 => law34_copied_W r1_2 (fun r_8 => law34_copied_W r_7 (fun r_9 => repair_To_W r_0_2 r_1_2 r_8 r_9 r3_1 (fun r0_0_1 r0_1_1 r1_3 => ref34_To_W r_0_1 r_1_1 r1_2 r_7 r3_1 (fun r0_0_2 r0_1_2 r1_4 => ref32_Same_W r0_0_1 r0_1_1 r0_0_2 r0_1_2 (fun r_10 => (r_10 = true → ((r1_3 == r1_4) = true → ref33_Valid_W r0_0_1 r0_1_1 r0_1 r1_2 r2_2 r3_1 (fun r_11 => (r_11 = true → law34_lives_W  (fun r_12 => Q r_12)) ∧ (r_11 = false → Q false))) ∧ ((r1_3 == r1_4) = false → Q false)) ∧ (r_10 = false → Q false)))))))))
def law34_RepairTo_l1 (b_Fan : Int) (Q : Bool → Prop) (r0_1 : Int) (r1_1 : List Int) (r2_1 : List Int) (r3_1 : Int) (r1_2 : List Int) (r2_2 : List Int) (r_0_1 : Int) (r_1_1 : List TB) (K_1 : Int → Prop) (i_1 : Int) : Prop :=
 (i_1 < (r1_1.length : Int) → ((0 : Int) ≤ i_1 ∧ i_1 < (r1_1.length : Int)) ∧ (ref32_Has_W r2_2 (gi r1_1 i_1) (fun r_3 => (r_3 = true → law34_lives_W  (fun r_4 => Q r_4)) ∧ (r_3 = false → (I64 (i_1 + 1)) ∧ (K_1 (i_1 + 1)))))) ∧ (¬ (i_1 < (r1_1.length : Int)) → loopW (fun (K_2 : Int → Prop) (s : Int) => law34_RepairTo_l2 b_Fan Q r0_1 r2_1 r3_1 r1_2 r2_2 r_0_1 r_1_1 K_2 s) 0)
def law34_RepairTo_W (a_Root : Int) (a_Members : List Int) (a_Services : List Int) (a_Fan : Int) (b_Root : Int) (b_Members : List Int) (b_Services : List Int) (b_Fan : Int) (Q : Bool → Prop) : Prop :=
 law33_Ask_Own_W a_Root a_Members a_Services a_Fan (fun r0_1 r1_1 r2_1 r3_1 => law33_Ask_Own_W r0_1 b_Members b_Services b_Fan (fun r0_2 r1_2 r2_2 r3_2 => law34_turned_W r2_1 a_Fan (fun r_2 => ref33_Make_W r0_1 r1_1 r_2 r3_1 (fun r_0_1 r_1_1 => loopW (fun (K_1 : Int → Prop) (s : Int) => law34_RepairTo_l1 b_Fan Q r0_1 r1_1 r2_1 r3_1 r1_2 r2_2 r_0_1 r_1_1 K_1 s) 0))))
theorem law34_RepairTo_walk {F : Fz} {fr : List Ow} {h0 : Heap} (a_Root : Int) (a_Members : List Int) (a_Services : List Int) (a_Fan : Int) (b_Root : Int) (b_Members : List Int) (b_Services : List Int) (b_Fan : Int) (va_Members : Value) (va_Services : Value) (vb_Members : Value) (vb_Services : Value) (hS : St F (fr) h0) (hL_a_Members : SliceF F h0 1 encI va_Members a_Members) (hL_a_Services : SliceF F h0 1 encI va_Services a_Services) (hL_b_Members : SliceF F h0 1 encI vb_Members b_Members) (hL_b_Services : SliceF F h0 1 encI vb_Services b_Services) (hD : DM.on = false) {Q : Bool → Prop} (hM : law34_RepairTo_W a_Root a_Members a_Services a_Fan b_Root b_Members b_Services b_Fan Q) :
  HC Tryz.prog 4 #[.agg #[.int .i64 a_Root, va_Members, va_Services, .int .u8 a_Fan], .agg #[.int .i64 b_Root, vb_Members, vb_Services, .int .u8 b_Fan]] h0 fun u h' => ∃ (F' : Fz) (r_1 : Bool), u = .bool r_1 ∧ Kp F h0 F' h' ∧ St F' (fr) h' ∧ (SliceF F' h' 1 encI va_Members a_Members) ∧ (SliceF F' h' 1 encI va_Services a_Services) ∧ (SliceF F' h' 1 encI vb_Members b_Members) ∧ (SliceF F' h' 1 encI vb_Services b_Services) ∧ Q r_1 := by
 unfold law34_RepairTo_W at hM
 have hK := Kp.refl F h0
 refine HC.of_HW (n := 113) Tryz.func4 rfl rfl (Nat.le_of_ble_eq_true rfl) ?_
 refine HW.seq ?_
 refine HW.region ?_
 refine HO.eff (want_none) rfl (st_box (c := #[.int .i64 a_Root, va_Members, va_Services, .int .u8 a_Fan]) (k' := 4) hS rfl rfl) ?_
 rintro _ h_1 ⟨b_1, rfl, hS, hk⟩
 replace hK := hK.trans hk
 replace hL_a_Members := hL_a_Members.kp hk
 replace hL_a_Services := hL_a_Services.kp hk
 replace hL_b_Members := hL_b_Members.kp hk
 replace hL_b_Services := hL_b_Services.kp hk
 refine HO.eff (want_none) rfl (st_box (c := #[.int .i64 b_Root, vb_Members, vb_Services, .int .u8 b_Fan]) (k' := 4) hS rfl rfl) ?_
 rintro _ h_2 ⟨b_2, rfl, hS, hk⟩
 replace hK := hK.trans hk
 replace hL_a_Members := hL_a_Members.kp hk
 replace hL_a_Services := hL_a_Services.kp hk
 replace hL_b_Members := hL_b_Members.kp hk
 replace hL_b_Services := hL_b_Services.kp hk
 refine oA (.bool false) rfl rfl ?_
 refine HO.nil (thenQ_normal (?_))
 refine HW.seq ?_
 refine HW.region ?_
 refine oV (.agg #[.int .i64 a_Root, va_Members, va_Services, .int .u8 a_Fan]) (q_loadAgg (cs := [.int .i64 a_Root, va_Members, va_Services, .int .u8 a_Fan]) ta_24 rfl rfl (Blk.cells (k := 4) (hS.box 1 rfl) rfl)) rfl ?_
 refine HO.call (want_none) rfl (ec en_5 rfl rfl) (law33_Ask_Own_walk (fr := (Ow.box b_2 24 #[.int .i64 b_Root, vb_Members, vb_Services, .int .u8 b_Fan] :: Ow.box b_1 24 #[.int .i64 a_Root, va_Members, va_Services, .int .u8 a_Fan] :: fr)) a_Root a_Members a_Services a_Fan va_Members va_Services hS hL_a_Members hL_a_Services hM) ?_
 rintro _ h_3 ⟨F_1, r0_1, r1_1, r2_1, r3_1, vr1_1, vr2_1, rfl, hk, hS, _, _, hM⟩
 replace hK := hK.trans hk
 replace hL_a_Members := hL_a_Members.kp hk
 replace hL_a_Services := hL_a_Services.kp hk
 replace hL_b_Members := hL_b_Members.kp hk
 replace hL_b_Services := hL_b_Services.kp hk
 refine oM (.tuple #[.int .i64 r0_1, vr1_1, vr2_1, .int .i64 r3_1]) rfl rfl ?_
 refine oV (.int .i64 r0_1) (q_extract rfl rfl) rfl ?_
 refine oV (vr1_1) (q_extract rfl rfl) rfl ?_
 refine oV (vr2_1) (q_extract rfl rfl) rfl ?_
 refine oV (.int .i64 r3_1) (q_extract rfl rfl) rfl ?_
 refine oA (.int .i64 r0_1) rfl rfl ?_
 refine oA (vr1_1) rfl rfl ?_
 refine oA (vr2_1) rfl rfl ?_
 refine oA (.int .i64 r3_1) rfl rfl ?_
 refine HO.nil (thenQ_normal (?_))
 refine HW.seq ?_
 refine HW.region ?_
 refine oM (.int .i64 r0_1) rfl rfl ?_
 refine oV (.pointer (some ⟨b_2, 0, none⟩)) (q_fieldAddr fa_24_0 rfl rfl) rfl ?_
 refine HO.sto (want_none) rfl (st_store (c' := #[.int .i64 r0_1, vb_Members, vb_Services, .int .u8 b_Fan]) hS (i := 2) rfl to_3 rfl rfl rfl rfl (Nat.le_of_ble_eq_true rfl) rfl) ?_
 rintro h_4 ⟨hS, hk⟩
 replace hK := hK.trans hk
 replace hL_a_Members := hL_a_Members.kp hk
 replace hL_a_Services := hL_a_Services.kp hk
 replace hL_b_Members := hL_b_Members.kp hk
 replace hL_b_Services := hL_b_Services.kp hk
 refine HO.nil (thenQ_normal (?_))
 refine HW.seq ?_
 refine HW.region ?_
 refine oV (.agg #[.int .i64 r0_1, vb_Members, vb_Services, .int .u8 b_Fan]) (q_loadAgg (cs := [.int .i64 r0_1, vb_Members, vb_Services, .int .u8 b_Fan]) ta_24 rfl rfl (Blk.cells (k := 4) (hS.box 2 rfl) rfl)) rfl ?_
 refine HO.call (want_none) rfl (ec en_5 rfl rfl) (law33_Ask_Own_walk (fr := (Ow.own 3 1 encI vr1_1 r1_1 :: Ow.own 3 1 encI vr2_1 r2_1 :: Ow.box b_2 24 #[.int .i64 r0_1, vb_Members, vb_Services, .int .u8 b_Fan] :: Ow.box b_1 24 #[.int .i64 a_Root, va_Members, va_Services, .int .u8 a_Fan] :: fr)) r0_1 b_Members b_Services b_Fan vb_Members vb_Services hS hL_b_Members hL_b_Services hM) ?_
 rintro _ h_5 ⟨F_2, r0_2, r1_2, r2_2, r3_2, vr1_2, vr2_2, rfl, hk, hS, _, _, hM⟩
 replace hK := hK.trans hk
 replace hL_a_Members := hL_a_Members.kp hk
 replace hL_a_Services := hL_a_Services.kp hk
 replace hL_b_Members := hL_b_Members.kp hk
 replace hL_b_Services := hL_b_Services.kp hk
 refine oM (.tuple #[.int .i64 r0_2, vr1_2, vr2_2, .int .i64 r3_2]) rfl rfl ?_
 refine oV (.int .i64 r0_2) (q_extract rfl rfl) rfl ?_
 refine oV (vr1_2) (q_extract rfl rfl) rfl ?_
 refine oV (vr2_2) (q_extract rfl rfl) rfl ?_
 refine oV (.int .i64 r3_2) (q_extract rfl rfl) rfl ?_
 refine oA (.int .i64 r0_2) rfl rfl ?_
 refine oA (vr1_2) rfl rfl ?_
 refine oA (vr2_2) rfl rfl ?_
 refine oA (.int .i64 r3_2) rfl rfl ?_
 refine HO.nil (thenQ_normal (?_))
 refine HW.seq ?_
 refine HW.region ?_
 refine oM (.int .i64 r0_1) rfl rfl ?_
 refine oM (vr1_1) rfl rfl ?_
 refine oM (vr2_1) rfl rfl ?_
 refine oV (.pointer (some ⟨b_1, 3, none⟩)) (q_fieldAddr fa_24_3 rfl rfl) rfl ?_
 refine oV (.int .u8 a_Fan) (q_load to_5 rfl (Blk.cell (hS.box 5 rfl) rfl)) rfl ?_
 replace hS : St F_2 (Ow.own 3 1 encI vr2_1 r2_1 :: Ow.own 3 1 encI vr1_2 r1_2 :: Ow.own 3 1 encI vr2_2 r2_2 :: Ow.own 3 1 encI vr1_1 r1_1 :: Ow.box b_2 24 #[.int .i64 r0_1, vb_Members, vb_Services, .int .u8 b_Fan] :: Ow.box b_1 24 #[.int .i64 a_Root, va_Members, va_Services, .int .u8 a_Fan] :: fr) h_5 := hS.perm2 [3, 0, 1, 2, 4, 5] 6 rfl rfl
 have hZ_1 := hS
 have hkz_1 := (hS.freeze).2
 replace hS := hS.freeze.1
 have hL_1 : SliceF (fun bz_ => F_2 bz_ ∨ (Ow.own 3 1 encI vr2_1 r2_1).foot bz_) h_5 1 encI vr2_1 r2_1 := ⟨(hZ_1.own 0 rfl).slice, fun _ b hb => .inr hb⟩
 refine HO.call (want_none) rfl (ec en_6 rfl rfl) (law34_turned_walk (fr := (Ow.own 3 1 encI vr1_2 r1_2 :: Ow.own 3 1 encI vr2_2 r2_2 :: Ow.own 3 1 encI vr1_1 r1_1 :: Ow.box b_2 24 #[.int .i64 r0_1, vb_Members, vb_Services, .int .u8 b_Fan] :: Ow.box b_1 24 #[.int .i64 a_Root, va_Members, va_Services, .int .u8 a_Fan] :: fr)) r2_1 a_Fan vr2_1 hS hL_1 hM) ?_
 rintro vr_1 h_6 ⟨F_3, r_2, _, rfl, hk, hS, _, hM⟩
 obtain ⟨hS, hk⟩ := hZ_1.back hk hS
 generalize (fun bz_ => F_3 bz_ ∧ ¬ (Ow.own 3 1 encI vr2_1 r2_1).foot bz_) = F_4 at hS hk
 replace hK := hK.trans hk
 replace hL_a_Members := hL_a_Members.kp hk
 replace hL_a_Services := hL_a_Services.kp hk
 replace hL_b_Members := hL_b_Members.kp hk
 replace hL_b_Services := hL_b_Services.kp hk
 refine oM (.int .i64 r3_1) rfl rfl ?_
 replace hS : St F_4 (Ow.own 3 1 encI vr1_1 r1_1 :: Ow.own 3 1 encI vr2_1 r2_1 :: Ow.own 3 1 encI vr_1 r_2 :: Ow.own 3 1 encI vr1_2 r1_2 :: Ow.own 3 1 encI vr2_2 r2_2 :: Ow.box b_2 24 #[.int .i64 r0_1, vb_Members, vb_Services, .int .u8 b_Fan] :: Ow.box b_1 24 #[.int .i64 a_Root, va_Members, va_Services, .int .u8 a_Fan] :: fr) h_6 := hS.perm2 [4, 0, 1, 2, 3, 5, 6] 7 rfl rfl
 have hZ_2 := hS
 have hkz_2 := (hS.freeze).2
 replace hS := hS.freeze.1
 have hL_2 : SliceF (fun bz_ => F_4 bz_ ∨ (Ow.own 3 1 encI vr1_1 r1_1).foot bz_) h_6 1 encI vr1_1 r1_1 := ⟨(hZ_2.own 0 rfl).slice, fun _ b hb => .inr hb⟩
 replace hS : St (fun bz_ => F_4 bz_ ∨ (Ow.own 3 1 encI vr1_1 r1_1).foot bz_) (Ow.own 3 1 encI vr_1 r_2 :: Ow.own 3 1 encI vr2_1 r2_1 :: Ow.own 3 1 encI vr1_2 r1_2 :: Ow.own 3 1 encI vr2_2 r2_2 :: Ow.box b_2 24 #[.int .i64 r0_1, vb_Members, vb_Services, .int .u8 b_Fan] :: Ow.box b_1 24 #[.int .i64 a_Root, va_Members, va_Services, .int .u8 a_Fan] :: fr) h_6 := hS.perm2 [1, 0, 2, 3, 4, 5] 6 rfl rfl
 have hZ_3 := hS
 have hkz_3 := (hS.freeze).2
 replace hS := hS.freeze.1
 have hL_3 : SliceF (fun bz_ => (fun bz_ => F_4 bz_ ∨ (Ow.own 3 1 encI vr1_1 r1_1).foot bz_) bz_ ∨ (Ow.own 3 1 encI vr_1 r_2).foot bz_) h_6 1 encI vr_1 r_2 := ⟨(hZ_3.own 0 rfl).slice, fun _ b hb => .inr hb⟩
 refine HO.call (want_none) rfl (ec en_7 rfl rfl) (ref33_Make_walk (fr := (Ow.own 3 1 encI vr2_1 r2_1 :: Ow.own 3 1 encI vr1_2 r1_2 :: Ow.own 3 1 encI vr2_2 r2_2 :: Ow.box b_2 24 #[.int .i64 r0_1, vb_Members, vb_Services, .int .u8 b_Fan] :: Ow.box b_1 24 #[.int .i64 a_Root, va_Members, va_Services, .int .u8 a_Fan] :: fr)) r0_1 r1_1 r_2 r3_1 vr1_1 vr_1 hS (hL_2.kp hkz_3) hL_3 hM) ?_
 rintro _ h_7 ⟨F_5, r_0_1, r_1_1, vr_1_1, rfl, hk, hS, _, _, hM⟩
 obtain ⟨hS, hk⟩ := hZ_3.back hk hS
 obtain ⟨hS, hk⟩ := hZ_2.back hk hS
 generalize (fun bz_ => (fun bz_ => F_5 bz_ ∧ ¬ (Ow.own 3 1 encI vr_1 r_2).foot bz_) bz_ ∧ ¬ (Ow.own 3 1 encI vr1_1 r1_1).foot bz_) = F_6 at hS hk
 replace hK := hK.trans hk
 replace hL_a_Members := hL_a_Members.kp hk
 replace hL_a_Services := hL_a_Services.kp hk
 replace hL_b_Members := hL_b_Members.kp hk
 replace hL_b_Services := hL_b_Services.kp hk
 refine HO.eff (want_none) rfl (st_alloc (c := #[.int .i64 0, .slice none 0 0]) hS tz_31 rfl) ?_
 rintro _ h_8 ⟨b_3, rfl, hS, hk⟩
 replace hK := hK.trans hk
 replace hL_a_Members := hL_a_Members.kp hk
 replace hL_a_Services := hL_a_Services.kp hk
 replace hL_b_Members := hL_b_Members.kp hk
 replace hL_b_Services := hL_b_Services.kp hk
 refine HO.sto (want_none) rfl (st_storeAgg (c' := #[.int .i64 r_0_1, vr_1_1]) hS (i := 0) rfl ta_31 rfl rfl rfl (List.forall_mem_cons.2 ⟨rfl, (List.forall_mem_cons.2 ⟨(shp (hS.own 3 rfl).slice).one, (fun _ h => by cases h)⟩)⟩) (Nat.le_of_ble_eq_true rfl) rfl) ?_
 rintro h_9 ⟨hS, hk⟩
 replace hK := hK.trans hk
 replace hL_a_Members := hL_a_Members.kp hk
 replace hL_a_Services := hL_a_Services.kp hk
 replace hL_b_Members := hL_b_Members.kp hk
 replace hL_b_Services := hL_b_Services.kp hk
 refine HO.nil (thenQ_normal (?_))
 refine HW.seq ?_
 refine HW.seq ?_
 refine HW.region ?_
 refine oA (.int .i64 0) rfl rfl ?_
 refine HO.nil (thenQ_normal (?_))
 refine HW.block ?_
 obtain ⟨I_1, m_1, hI_1, hR_1⟩ := hM
 replace hS : St F_6 (Ow.box b_2 24 #[.int .i64 r0_1, vb_Members, vb_Services, .int .u8 b_Fan] :: Ow.own 3 1 encI vr1_1 r1_1 :: Ow.own 3 1 encI vr2_1 r2_1 :: Ow.own 3 1 encI vr1_2 r1_2 :: Ow.own 3 1 encI vr2_2 r2_2 :: Ow.box b_3 31 #[.int .i64 r_0_1, vr_1_1] :: Ow.own 52 2 e_api_Branch vr_1_1 r_1_1 :: fr) h_9 := hS.perm2 [7, 1, 4, 5, 6, 0, 3] 9 rfl rfl
 refine HW.loop (S := Int) (fun i_1 f h => ∃ (F' : Fz), f 3 = .pointer (some ⟨b_2, 0, none⟩) ∧ f 4 = .bool false ∧ f 5 = .int .i64 r0_1 ∧ f 6 = vr1_1 ∧ f 7 = vr2_1 ∧ f 8 = .int .i64 r3_1 ∧ f 10 = vr1_2 ∧ f 11 = vr2_2 ∧ f 13 = .pointer (some ⟨b_3, 0, none⟩) ∧ f 14 = .int .i64 i_1 ∧ Kp F h0 F' h ∧ St F' (Ow.box b_2 24 #[.int .i64 r0_1, vb_Members, vb_Services, .int .u8 b_Fan] :: Ow.own 3 1 encI vr1_1 r1_1 :: Ow.own 3 1 encI vr2_1 r2_1 :: Ow.own 3 1 encI vr1_2 r1_2 :: Ow.own 3 1 encI vr2_2 r2_2 :: Ow.box b_3 31 #[.int .i64 r_0_1, vr_1_1] :: Ow.own 52 2 e_api_Branch vr_1_1 r_1_1 :: fr) h ∧ (SliceF F' h 1 encI va_Members a_Members) ∧ (SliceF F' h 1 encI va_Services a_Services) ∧ (SliceF F' h 1 encI vb_Members b_Members) ∧ (SliceF F' h 1 encI vb_Services b_Services) ∧ I_1 i_1) m_1 0 ⟨F_6, rfl, rfl, rfl, rfl, rfl, rfl, rfl, rfl, rfl, rfl, hK, hS, hL_a_Members, hL_a_Services, hL_b_Members, hL_b_Services, hI_1⟩ ?_
 rintro i_1 f_1 h_10 ⟨F_7, e3, e4, e5, e6, e7, e8, e10, e11, e13, e14, hK, hS, hL_a_Members, hL_a_Services, hL_b_Members, hL_b_Services, hI0⟩
 obtain ⟨K_1, hKe_1⟩ : ∃ K : Int → Prop, K = fun i_1' => I_1 i_1' ∧ m_1 i_1' < m_1 i_1 := ⟨_, rfl⟩
 have hM : law34_RepairTo_l1 b_Fan Q r0_1 r1_1 r2_1 r3_1 r1_2 r2_2 r_0_1 r_1_1 K_1 i_1 := by rw [hKe_1]; exact hR_1 i_1 hI0
 unfold law34_RepairTo_l1 at hM
 refine HW.fr [(3, .pointer (some ⟨b_2, 0, none⟩)), (4, .bool false), (5, .int .i64 r0_1), (6, vr1_1), (7, vr2_1), (8, .int .i64 r3_1), (10, vr1_2), (11, vr2_2), (13, .pointer (some ⟨b_3, 0, none⟩)), (14, .int .i64 i_1)] ⟨e3, e4, e5, e6, e7, e8, e10, e11, e13, e14, trivial⟩ ?_
 refine HW.seq ?_
 refine HW.seq ?_
 refine HW.region ?_
 refine oM (.int .i64 i_1) rfl rfl ?_
 refine oM (vr1_1) rfl rfl ?_
 refine oV (.int .i64 (r1_1.length : Int)) (q_len ts_22 (shp (hS.own 1 rfl).slice) rfl rfl) rfl ?_
 refine oV (.bool (decide (i_1 < (r1_1.length : Int)))) (q_lss rfl rfl) rfl ?_
 refine HO.nil (thenQ_normal (?_))
 refine HW.cond (decide (i_1 < (r1_1.length : Int))) rfl (fun c_1 => ?_) (fun c_1 => ?_)
 ·
  replace hM := hM.1 (of_decide_eq_true c_1)
  refine HW.skip (thenQ_normal (?_))
  refine HW.seq ?_
  refine HW.block ?_
  refine HW.seq ?_
  refine HW.region ?_
  refine oM (vr2_2) rfl rfl ?_
  refine oM (vr1_1) rfl rfl ?_
  refine oM (.int .i64 i_1) rfl rfl ?_
  obtain ⟨ho_1, hM⟩ := hM
  refine oV (elemPtr 1 vr1_1 (i_1).toNat) (q_idx ts_22 (hS.own 1 rfl).slice rfl rfl ho_1) rfl ?_
  refine oV (.int .i64 (gi r1_1 i_1)) (q_ldElem to_3 (hS.own 1 rfl).slice rfl ho_1 rfl) rfl ?_
  replace hS : St F_7 (Ow.own 3 1 encI vr2_2 r2_2 :: Ow.box b_2 24 #[.int .i64 r0_1, vb_Members, vb_Services, .int .u8 b_Fan] :: Ow.own 3 1 encI vr1_1 r1_1 :: Ow.own 3 1 encI vr2_1 r2_1 :: Ow.own 3 1 encI vr1_2 r1_2 :: Ow.box b_3 31 #[.int .i64 r_0_1, vr_1_1] :: Ow.own 52 2 e_api_Branch vr_1_1 r_1_1 :: fr) h_10 := hS.perm2 [4, 0, 1, 2, 3, 5, 6] 7 rfl rfl
  have hZ_4 := hS
  have hkz_4 := (hS.freeze).2
  replace hS := hS.freeze.1
  have hL_4 : SliceF (fun bz_ => F_7 bz_ ∨ (Ow.own 3 1 encI vr2_2 r2_2).foot bz_) h_10 1 encI vr2_2 r2_2 := ⟨(hZ_4.own 0 rfl).slice, fun _ b hb => .inr hb⟩
  refine HO.call (want_none) rfl (ec en_8 rfl rfl) (ref32_Has_walk (fr := (Ow.box b_2 24 #[.int .i64 r0_1, vb_Members, vb_Services, .int .u8 b_Fan] :: Ow.own 3 1 encI vr1_1 r1_1 :: Ow.own 3 1 encI vr2_1 r2_1 :: Ow.own 3 1 encI vr1_2 r1_2 :: Ow.box b_3 31 #[.int .i64 r_0_1, vr_1_1] :: Ow.own 52 2 e_api_Branch vr_1_1 r_1_1 :: fr)) r2_2 (gi r1_1 i_1) vr2_2 hS hL_4 hM) ?_
  rintro _ h_11 ⟨F_8, r_3, rfl, hk, hS, _, hM⟩
  obtain ⟨hS, hk⟩ := hZ_4.back hk hS
  generalize (fun bz_ => F_8 bz_ ∧ ¬ (Ow.own 3 1 encI vr2_2 r2_2).foot bz_) = F_9 at hS hk
  replace hK := hK.trans hk
  replace hL_a_Members := hL_a_Members.kp hk
  replace hL_a_Services := hL_a_Services.kp hk
  replace hL_b_Members := hL_b_Members.kp hk
  replace hL_b_Services := hL_b_Services.kp hk
  refine HO.nil (thenQ_normal (?_))
  refine HW.cond r_3 rfl (fun c_2 => ?_) (fun c_2 => ?_)
  ·
   replace hM := hM.1 c_2
   refine HW.seq ?_
   refine HW.region ?_
   refine HO.call (want_none) rfl (ec en_24 rfl rfl) (law34_lives_walk (fr := (Ow.own 3 1 encI vr2_2 r2_2 :: Ow.box b_2 24 #[.int .i64 r0_1, vb_Members, vb_Services, .int .u8 b_Fan] :: Ow.own 3 1 encI vr1_1 r1_1 :: Ow.own 3 1 encI vr2_1 r2_1 :: Ow.own 3 1 encI vr1_2 r1_2 :: Ow.box b_3 31 #[.int .i64 r_0_1, vr_1_1] :: Ow.own 52 2 e_api_Branch vr_1_1 r_1_1 :: fr))  hS hD hM) ?_
   rintro _ h_12 ⟨F_10, r_4, rfl, hk, hS, hM⟩
   replace hK := hK.trans hk
   replace hL_a_Members := hL_a_Members.kp hk
   replace hL_a_Services := hL_a_Services.kp hk
   replace hL_b_Members := hL_b_Members.kp hk
   replace hL_b_Services := hL_b_Services.kp hk
   refine oA (.bool r_4) rfl rfl ?_
   refine HO.nil (thenQ_normal (?_))
   refine HW.ret (blockQ_ret (thenQ_ret (thenQ_ret (blockQ_ret (thenQ_ret (?_))))))
   refine ⟨.inr rfl, .bool r_4, res1 rfl (rt rfl), ?_⟩
   replace hS : St F_10 (fr) h_12 := hS.perm2 [] 7 rfl rfl
   exact ⟨F_10, r_4, rfl, hK, hS, hL_a_Members, hL_a_Services, hL_b_Members, hL_b_Services, hM⟩
  ·
   replace hM := hM.2 c_2
   refine HW.skip (blockQ_normal (thenQ_normal (?_)))
   refine HW.region ?_
   refine oM (.int .i64 i_1) rfl rfl ?_
   obtain ⟨ho_2, hM⟩ := hM
   refine oV (.int .i64 (i_1 + 1)) (q_addN _ rfl rfl rfl ho_2.1 ho_2.2) rfl ?_
   refine oA (.int .i64 (i_1 + 1)) rfl rfl ?_
   refine HO.nil (thenQ_normal (?_))
   replace hS : St F_9 (Ow.box b_2 24 #[.int .i64 r0_1, vb_Members, vb_Services, .int .u8 b_Fan] :: Ow.own 3 1 encI vr1_1 r1_1 :: Ow.own 3 1 encI vr2_1 r2_1 :: Ow.own 3 1 encI vr1_2 r1_2 :: Ow.own 3 1 encI vr2_2 r2_2 :: Ow.box b_3 31 #[.int .i64 r_0_1, vr_1_1] :: Ow.own 52 2 e_api_Branch vr_1_1 r_1_1 :: fr) h_11 := hS.perm2 [1, 2, 3, 4, 0, 5, 6] 7 rfl rfl
   rw [hKe_1] at hM
   exact ⟨i_1 + 1, ⟨F_9, rfl, rfl, rfl, rfl, rfl, rfl, rfl, rfl, rfl, rfl, hK, hS, hL_a_Members, hL_a_Services, hL_b_Members, hL_b_Services, hM.1⟩, hM.2⟩
 ·
  replace hM := hM.2 (of_decide_eq_false c_1)
  refine HW.exit (thenQ_exit (thenQ_exit (blockQ_exit (thenQ_normal (?_)))))
  refine HW.seq ?_
  refine HW.seq ?_
  refine HW.region ?_
  refine oA (.int .i64 0) rfl rfl ?_
  refine HO.nil (thenQ_normal (?_))
  refine HW.block ?_
  obtain ⟨I_2, m_2, hI_2, hR_2⟩ := hM
  replace hS : St F_7 (Ow.box b_2 24 #[.int .i64 r0_1, vb_Members, vb_Services, .int .u8 b_Fan] :: Ow.own 3 1 encI vr2_1 r2_1 :: Ow.own 3 1 encI vr1_2 r1_2 :: Ow.own 3 1 encI vr2_2 r2_2 :: Ow.box b_3 31 #[.int .i64 r_0_1, vr_1_1] :: Ow.own 52 2 e_api_Branch vr_1_1 r_1_1 :: fr) h_10 := hS.perm2 [0, 2, 3, 4, 5, 6] 7 rfl rfl
  refine HW.loop (S := Int) (fun i_2 f h => ∃ (F' : Fz), f 3 = .pointer (some ⟨b_2, 0, none⟩) ∧ f 4 = .bool false ∧ f 5 = .int .i64 r0_1 ∧ f 7 = vr2_1 ∧ f 8 = .int .i64 r3_1 ∧ f 10 = vr1_2 ∧ f 11 = vr2_2 ∧ f 13 = .pointer (some ⟨b_3, 0, none⟩) ∧ f 15 = .int .i64 i_2 ∧ Kp F h0 F' h ∧ St F' (Ow.box b_2 24 #[.int .i64 r0_1, vb_Members, vb_Services, .int .u8 b_Fan] :: Ow.own 3 1 encI vr2_1 r2_1 :: Ow.own 3 1 encI vr1_2 r1_2 :: Ow.own 3 1 encI vr2_2 r2_2 :: Ow.box b_3 31 #[.int .i64 r_0_1, vr_1_1] :: Ow.own 52 2 e_api_Branch vr_1_1 r_1_1 :: fr) h ∧ (SliceF F' h 1 encI va_Members a_Members) ∧ (SliceF F' h 1 encI va_Services a_Services) ∧ (SliceF F' h 1 encI vb_Members b_Members) ∧ (SliceF F' h 1 encI vb_Services b_Services) ∧ I_2 i_2) m_2 0 ⟨F_7, rfl, rfl, rfl, rfl, rfl, rfl, rfl, rfl, rfl, hK, hS, hL_a_Members, hL_a_Services, hL_b_Members, hL_b_Services, hI_2⟩ ?_
  rintro i_2 f_2 h_13 ⟨F_11, e3, e4, e5, e7, e8, e10, e11, e13, e15, hK, hS, hL_a_Members, hL_a_Services, hL_b_Members, hL_b_Services, hI0⟩
  obtain ⟨K_2, hKe_2⟩ : ∃ K : Int → Prop, K = fun i_2' => I_2 i_2' ∧ m_2 i_2' < m_2 i_2 := ⟨_, rfl⟩
  have hM : law34_RepairTo_l2 b_Fan Q r0_1 r2_1 r3_1 r1_2 r2_2 r_0_1 r_1_1 K_2 i_2 := by rw [hKe_2]; exact hR_2 i_2 hI0
  unfold law34_RepairTo_l2 at hM
  refine HW.fr [(3, .pointer (some ⟨b_2, 0, none⟩)), (4, .bool false), (5, .int .i64 r0_1), (7, vr2_1), (8, .int .i64 r3_1), (10, vr1_2), (11, vr2_2), (13, .pointer (some ⟨b_3, 0, none⟩)), (15, .int .i64 i_2)] ⟨e3, e4, e5, e7, e8, e10, e11, e13, e15, trivial⟩ ?_
  refine HW.seq ?_
  refine HW.seq ?_
  refine HW.region ?_
  refine oM (.int .i64 i_2) rfl rfl ?_
  refine oM (vr1_2) rfl rfl ?_
  refine oV (.int .i64 (r1_2.length : Int)) (q_len ts_22 (shp (hS.own 2 rfl).slice) rfl rfl) rfl ?_
  refine oV (.bool (decide (i_2 < (r1_2.length : Int)))) (q_lss rfl rfl) rfl ?_
  refine HO.nil (thenQ_normal (?_))
  refine HW.cond (decide (i_2 < (r1_2.length : Int))) rfl (fun c_3 => ?_) (fun c_3 => ?_)
  ·
   replace hM := hM.1 (of_decide_eq_true c_3)
   refine HW.skip (thenQ_normal (?_))
   refine HW.seq ?_
   refine HW.block ?_
   refine HW.seq ?_
   refine HW.region ?_
   refine oM (vr2_1) rfl rfl ?_
   refine oM (vr1_2) rfl rfl ?_
   refine oM (.int .i64 i_2) rfl rfl ?_
   obtain ⟨ho_3, hM⟩ := hM
   refine oV (elemPtr 1 vr1_2 (i_2).toNat) (q_idx ts_22 (hS.own 2 rfl).slice rfl rfl ho_3) rfl ?_
   refine oV (.int .i64 (gi r1_2 i_2)) (q_ldElem to_3 (hS.own 2 rfl).slice rfl ho_3 rfl) rfl ?_
   replace hS : St F_11 (Ow.own 3 1 encI vr2_1 r2_1 :: Ow.box b_2 24 #[.int .i64 r0_1, vb_Members, vb_Services, .int .u8 b_Fan] :: Ow.own 3 1 encI vr1_2 r1_2 :: Ow.own 3 1 encI vr2_2 r2_2 :: Ow.box b_3 31 #[.int .i64 r_0_1, vr_1_1] :: Ow.own 52 2 e_api_Branch vr_1_1 r_1_1 :: fr) h_13 := hS.perm2 [1, 0, 2, 3, 4, 5] 6 rfl rfl
   have hZ_5 := hS
   have hkz_5 := (hS.freeze).2
   replace hS := hS.freeze.1
   have hL_5 : SliceF (fun bz_ => F_11 bz_ ∨ (Ow.own 3 1 encI vr2_1 r2_1).foot bz_) h_13 1 encI vr2_1 r2_1 := ⟨(hZ_5.own 0 rfl).slice, fun _ b hb => .inr hb⟩
   refine HO.call (want_none) rfl (ec en_8 rfl rfl) (ref32_Has_walk (fr := (Ow.box b_2 24 #[.int .i64 r0_1, vb_Members, vb_Services, .int .u8 b_Fan] :: Ow.own 3 1 encI vr1_2 r1_2 :: Ow.own 3 1 encI vr2_2 r2_2 :: Ow.box b_3 31 #[.int .i64 r_0_1, vr_1_1] :: Ow.own 52 2 e_api_Branch vr_1_1 r_1_1 :: fr)) r2_1 (gi r1_2 i_2) vr2_1 hS hL_5 hM) ?_
   rintro _ h_14 ⟨F_12, r_5, rfl, hk, hS, _, hM⟩
   obtain ⟨hS, hk⟩ := hZ_5.back hk hS
   generalize (fun bz_ => F_12 bz_ ∧ ¬ (Ow.own 3 1 encI vr2_1 r2_1).foot bz_) = F_13 at hS hk
   replace hK := hK.trans hk
   replace hL_a_Members := hL_a_Members.kp hk
   replace hL_a_Services := hL_a_Services.kp hk
   replace hL_b_Members := hL_b_Members.kp hk
   replace hL_b_Services := hL_b_Services.kp hk
   refine HO.nil (thenQ_normal (?_))
   refine HW.cond r_5 rfl (fun c_4 => ?_) (fun c_4 => ?_)
   ·
    replace hM := hM.1 c_4
    refine HW.seq ?_
    refine HW.region ?_
    refine HO.call (want_none) rfl (ec en_24 rfl rfl) (law34_lives_walk (fr := (Ow.own 3 1 encI vr2_1 r2_1 :: Ow.box b_2 24 #[.int .i64 r0_1, vb_Members, vb_Services, .int .u8 b_Fan] :: Ow.own 3 1 encI vr1_2 r1_2 :: Ow.own 3 1 encI vr2_2 r2_2 :: Ow.box b_3 31 #[.int .i64 r_0_1, vr_1_1] :: Ow.own 52 2 e_api_Branch vr_1_1 r_1_1 :: fr))  hS hD hM) ?_
    rintro _ h_15 ⟨F_14, r_6, rfl, hk, hS, hM⟩
    replace hK := hK.trans hk
    replace hL_a_Members := hL_a_Members.kp hk
    replace hL_a_Services := hL_a_Services.kp hk
    replace hL_b_Members := hL_b_Members.kp hk
    replace hL_b_Services := hL_b_Services.kp hk
    refine oA (.bool r_6) rfl rfl ?_
    refine HO.nil (thenQ_normal (?_))
    refine HW.ret (blockQ_ret (thenQ_ret (thenQ_ret (blockQ_ret (thenQ_ret (?_))))))
    refine ⟨.inr rfl, .bool r_6, res1 rfl (rt rfl), ?_⟩
    replace hS : St F_14 (fr) h_15 := hS.perm2 [] 6 rfl rfl
    exact ⟨F_14, r_6, rfl, hK, hS, hL_a_Members, hL_a_Services, hL_b_Members, hL_b_Services, hM⟩
   ·
    replace hM := hM.2 c_4
    refine HW.skip (blockQ_normal (thenQ_normal (?_)))
    refine HW.region ?_
    refine oM (.int .i64 i_2) rfl rfl ?_
    obtain ⟨ho_4, hM⟩ := hM
    refine oV (.int .i64 (i_2 + 1)) (q_addN _ rfl rfl rfl ho_4.1 ho_4.2) rfl ?_
    refine oA (.int .i64 (i_2 + 1)) rfl rfl ?_
    refine HO.nil (thenQ_normal (?_))
    replace hS : St F_13 (Ow.box b_2 24 #[.int .i64 r0_1, vb_Members, vb_Services, .int .u8 b_Fan] :: Ow.own 3 1 encI vr2_1 r2_1 :: Ow.own 3 1 encI vr1_2 r1_2 :: Ow.own 3 1 encI vr2_2 r2_2 :: Ow.box b_3 31 #[.int .i64 r_0_1, vr_1_1] :: Ow.own 52 2 e_api_Branch vr_1_1 r_1_1 :: fr) h_14 := hS.perm2 [1, 0, 2, 3, 4, 5] 6 rfl rfl
    rw [hKe_2] at hM
    exact ⟨i_2 + 1, ⟨F_13, rfl, rfl, rfl, rfl, rfl, rfl, rfl, rfl, rfl, hK, hS, hL_a_Members, hL_a_Services, hL_b_Members, hL_b_Services, hM.1⟩, hM.2⟩
  ·
   replace hM := hM.2 (of_decide_eq_false c_3)
   refine HW.exit (thenQ_exit (thenQ_exit (blockQ_exit (thenQ_normal (?_)))))
   refine HW.seq ?_
   refine HW.region ?_
   refine oM (vr2_2) rfl rfl ?_
   refine oV (.pointer (some ⟨b_2, 3, none⟩)) (q_fieldAddr fa_24_3 rfl rfl) rfl ?_
   refine oV (.int .u8 b_Fan) (q_load to_5 rfl (Blk.cell (hS.box 0 rfl) rfl)) rfl ?_
   replace hS : St F_11 (Ow.own 3 1 encI vr2_2 r2_2 :: Ow.box b_2 24 #[.int .i64 r0_1, vb_Members, vb_Services, .int .u8 b_Fan] :: Ow.own 3 1 encI vr2_1 r2_1 :: Ow.own 3 1 encI vr1_2 r1_2 :: Ow.box b_3 31 #[.int .i64 r_0_1, vr_1_1] :: Ow.own 52 2 e_api_Branch vr_1_1 r_1_1 :: fr) h_13 := hS.perm2 [3, 0, 1, 2, 4, 5] 6 rfl rfl
   have hZ_6 := hS
   have hkz_6 := (hS.freeze).2
   replace hS := hS.freeze.1
   have hL_6 : SliceF (fun bz_ => F_11 bz_ ∨ (Ow.own 3 1 encI vr2_2 r2_2).foot bz_) h_13 1 encI vr2_2 r2_2 := ⟨(hZ_6.own 0 rfl).slice, fun _ b hb => .inr hb⟩
   refine HO.call (want_none) rfl (ec en_6 rfl rfl) (law34_turned_walk (fr := (Ow.box b_2 24 #[.int .i64 r0_1, vb_Members, vb_Services, .int .u8 b_Fan] :: Ow.own 3 1 encI vr2_1 r2_1 :: Ow.own 3 1 encI vr1_2 r1_2 :: Ow.box b_3 31 #[.int .i64 r_0_1, vr_1_1] :: Ow.own 52 2 e_api_Branch vr_1_1 r_1_1 :: fr)) r2_2 b_Fan vr2_2 hS hL_6 hM) ?_
   rintro vr_2 h_16 ⟨F_15, r_7, _, rfl, hk, hS, _, hM⟩
   obtain ⟨hS, hk⟩ := hZ_6.back hk hS
   generalize (fun bz_ => F_15 bz_ ∧ ¬ (Ow.own 3 1 encI vr2_2 r2_2).foot bz_) = F_16 at hS hk
   replace hK := hK.trans hk
   replace hL_a_Members := hL_a_Members.kp hk
   replace hL_a_Services := hL_a_Services.kp hk
   replace hL_b_Members := hL_b_Members.kp hk
   replace hL_b_Services := hL_b_Services.kp hk
   refine oA (vr_2) rfl rfl ?_
   refine HO.nil (thenQ_normal (?_))
   refine HW.seq ?_
   refine HW.region ?_
   refine oV (.agg #[.int .i64 r_0_1, vr_1_1]) (q_loadAgg (cs := [.int .i64 r_0_1, vr_1_1]) ta_31 rfl rfl (Blk.cells (k := 2) (hS.box 5 rfl) rfl)) rfl ?_
   replace hS : St F_16 (Ow.own 52 2 e_api_Branch vr_1_1 r_1_1 :: Ow.own 3 1 encI vr2_2 r2_2 :: Ow.own 3 1 encI vr_2 r_7 :: Ow.box b_2 24 #[.int .i64 r0_1, vb_Members, vb_Services, .int .u8 b_Fan] :: Ow.own 3 1 encI vr2_1 r2_1 :: Ow.own 3 1 encI vr1_2 r1_2 :: Ow.box b_3 31 #[.int .i64 r_0_1, vr_1_1] :: fr) h_16 := hS.perm2 [6, 0, 1, 2, 3, 4, 5] 7 rfl rfl
   have hZ_7 := hS
   have hkz_7 := (hS.freeze).2
   replace hS := hS.freeze.1
   have hL_7 : SliceF (fun bz_ => F_16 bz_ ∨ (Ow.own 52 2 e_api_Branch vr_1_1 r_1_1).foot bz_) h_16 2 e_api_Branch vr_1_1 r_1_1 := ⟨(hZ_7.own 0 rfl).slice, fun _ b hb => .inr hb⟩
   refine HO.call (want_none) rfl (ec en_10 rfl rfl) (law34_own_walk (fr := (Ow.own 3 1 encI vr2_2 r2_2 :: Ow.own 3 1 encI vr_2 r_7 :: Ow.box b_2 24 #[.int .i64 r0_1, vb_Members, vb_Services, .int .u8 b_Fan] :: Ow.own 3 1 encI vr2_1 r2_1 :: Ow.own 3 1 encI vr1_2 r1_2 :: Ow.box b_3 31 #[.int .i64 r_0_1, vr_1_1] :: fr)) r_0_1 r_1_1 vr_1_1 hS hL_7 hM) ?_
   rintro _ h_17 ⟨F_17, r_0_2, r_1_2, vr_1_2, rfl, hk, hS, _, hM⟩
   obtain ⟨hS, hk⟩ := hZ_7.back hk hS
   generalize (fun bz_ => F_17 bz_ ∧ ¬ (Ow.own 52 2 e_api_Branch vr_1_1 r_1_1).foot bz_) = F_18 at hS hk
   replace hK := hK.trans hk
   replace hL_a_Members := hL_a_Members.kp hk
   replace hL_a_Services := hL_a_Services.kp hk
   replace hL_b_Members := hL_b_Members.kp hk
   replace hL_b_Services := hL_b_Services.kp hk
   refine oM (vr1_2) rfl rfl ?_
   replace hS : St F_18 (Ow.own 3 1 encI vr1_2 r1_2 :: Ow.own 52 2 e_api_Branch vr_1_1 r_1_1 :: Ow.own 52 2 e_api_Branch vr_1_2 r_1_2 :: Ow.own 3 1 encI vr2_2 r2_2 :: Ow.own 3 1 encI vr_2 r_7 :: Ow.box b_2 24 #[.int .i64 r0_1, vb_Members, vb_Services, .int .u8 b_Fan] :: Ow.own 3 1 encI vr2_1 r2_1 :: Ow.box b_3 31 #[.int .i64 r_0_1, vr_1_1] :: fr) h_17 := hS.perm2 [6, 0, 1, 2, 3, 4, 5, 7] 8 rfl rfl
   have hZ_8 := hS
   have hkz_8 := (hS.freeze).2
   replace hS := hS.freeze.1
   have hL_8 : SliceF (fun bz_ => F_18 bz_ ∨ (Ow.own 3 1 encI vr1_2 r1_2).foot bz_) h_17 1 encI vr1_2 r1_2 := ⟨(hZ_8.own 0 rfl).slice, fun _ b hb => .inr hb⟩
   refine HO.call (want_none) rfl (ec en_11 rfl rfl) (law34_copied_walk (fr := (Ow.own 52 2 e_api_Branch vr_1_1 r_1_1 :: Ow.own 52 2 e_api_Branch vr_1_2 r_1_2 :: Ow.own 3 1 encI vr2_2 r2_2 :: Ow.own 3 1 encI vr_2 r_7 :: Ow.box b_2 24 #[.int .i64 r0_1, vb_Members, vb_Services, .int .u8 b_Fan] :: Ow.own 3 1 encI vr2_1 r2_1 :: Ow.box b_3 31 #[.int .i64 r_0_1, vr_1_1] :: fr)) r1_2 vr1_2 hS hL_8 hM) ?_
   rintro vr_3 h_18 ⟨F_19, r_8, _, rfl, hk, hS, _, hM⟩
   obtain ⟨hS, hk⟩ := hZ_8.back hk hS
   generalize (fun bz_ => F_19 bz_ ∧ ¬ (Ow.own 3 1 encI vr1_2 r1_2).foot bz_) = F_20 at hS hk
   replace hK := hK.trans hk
   replace hL_a_Members := hL_a_Members.kp hk
   replace hL_a_Services := hL_a_Services.kp hk
   replace hL_b_Members := hL_b_Members.kp hk
   replace hL_b_Services := hL_b_Services.kp hk
   refine oM (vr_2) rfl rfl ?_
   replace hS : St F_20 (Ow.own 3 1 encI vr_2 r_7 :: Ow.own 3 1 encI vr1_2 r1_2 :: Ow.own 3 1 encI vr_3 r_8 :: Ow.own 52 2 e_api_Branch vr_1_1 r_1_1 :: Ow.own 52 2 e_api_Branch vr_1_2 r_1_2 :: Ow.own 3 1 encI vr2_2 r2_2 :: Ow.box b_2 24 #[.int .i64 r0_1, vb_Members, vb_Services, .int .u8 b_Fan] :: Ow.own 3 1 encI vr2_1 r2_1 :: Ow.box b_3 31 #[.int .i64 r_0_1, vr_1_1] :: fr) h_18 := hS.perm2 [5, 0, 1, 2, 3, 4, 6, 7, 8] 9 rfl rfl
   have hZ_9 := hS
   have hkz_9 := (hS.freeze).2
   replace hS := hS.freeze.1
   have hL_9 : SliceF (fun bz_ => F_20 bz_ ∨ (Ow.own 3 1 encI vr_2 r_7).foot bz_) h_18 1 encI vr_2 r_7 := ⟨(hZ_9.own 0 rfl).slice, fun _ b hb => .inr hb⟩
   refine HO.call (want_none) rfl (ec en_11 rfl rfl) (law34_copied_walk (fr := (Ow.own 3 1 encI vr1_2 r1_2 :: Ow.own 3 1 encI vr_3 r_8 :: Ow.own 52 2 e_api_Branch vr_1_1 r_1_1 :: Ow.own 52 2 e_api_Branch vr_1_2 r_1_2 :: Ow.own 3 1 encI vr2_2 r2_2 :: Ow.box b_2 24 #[.int .i64 r0_1, vb_Members, vb_Services, .int .u8 b_Fan] :: Ow.own 3 1 encI vr2_1 r2_1 :: Ow.box b_3 31 #[.int .i64 r_0_1, vr_1_1] :: fr)) r_7 vr_2 hS hL_9 hM) ?_
   rintro vr_4 h_19 ⟨F_21, r_9, _, rfl, hk, hS, _, hM⟩
   obtain ⟨hS, hk⟩ := hZ_9.back hk hS
   generalize (fun bz_ => F_21 bz_ ∧ ¬ (Ow.own 3 1 encI vr_2 r_7).foot bz_) = F_22 at hS hk
   replace hK := hK.trans hk
   replace hL_a_Members := hL_a_Members.kp hk
   replace hL_a_Services := hL_a_Services.kp hk
   replace hL_b_Members := hL_b_Members.kp hk
   replace hL_b_Services := hL_b_Services.kp hk
   refine oM (.int .i64 r3_1) rfl rfl ?_
   replace hS : St F_22 (Ow.own 52 2 e_api_Branch vr_1_2 r_1_2 :: Ow.own 3 1 encI vr_2 r_7 :: Ow.own 3 1 encI vr_4 r_9 :: Ow.own 3 1 encI vr1_2 r1_2 :: Ow.own 3 1 encI vr_3 r_8 :: Ow.own 52 2 e_api_Branch vr_1_1 r_1_1 :: Ow.own 3 1 encI vr2_2 r2_2 :: Ow.box b_2 24 #[.int .i64 r0_1, vb_Members, vb_Services, .int .u8 b_Fan] :: Ow.own 3 1 encI vr2_1 r2_1 :: Ow.box b_3 31 #[.int .i64 r_0_1, vr_1_1] :: fr) h_19 := hS.perm2 [5, 0, 1, 2, 3, 4, 6, 7, 8, 9] 10 rfl rfl
   have hZ_10 := hS
   have hkz_10 := (hS.freeze).2
   replace hS := hS.freeze.1
   have hL_10 : SliceF (fun bz_ => F_22 bz_ ∨ (Ow.own 52 2 e_api_Branch vr_1_2 r_1_2).foot bz_) h_19 2 e_api_Branch vr_1_2 r_1_2 := ⟨(hZ_10.own 0 rfl).slice, fun _ b hb => .inr hb⟩
   replace hS : St (fun bz_ => F_22 bz_ ∨ (Ow.own 52 2 e_api_Branch vr_1_2 r_1_2).foot bz_) (Ow.own 3 1 encI vr_3 r_8 :: Ow.own 3 1 encI vr_2 r_7 :: Ow.own 3 1 encI vr_4 r_9 :: Ow.own 3 1 encI vr1_2 r1_2 :: Ow.own 52 2 e_api_Branch vr_1_1 r_1_1 :: Ow.own 3 1 encI vr2_2 r2_2 :: Ow.box b_2 24 #[.int .i64 r0_1, vb_Members, vb_Services, .int .u8 b_Fan] :: Ow.own 3 1 encI vr2_1 r2_1 :: Ow.box b_3 31 #[.int .i64 r_0_1, vr_1_1] :: fr) h_19 := hS.perm2 [3, 0, 1, 2, 4, 5, 6, 7, 8] 9 rfl rfl
   have hZ_11 := hS
   have hkz_11 := (hS.freeze).2
   replace hS := hS.freeze.1
   have hL_11 : SliceF (fun bz_ => (fun bz_ => F_22 bz_ ∨ (Ow.own 52 2 e_api_Branch vr_1_2 r_1_2).foot bz_) bz_ ∨ (Ow.own 3 1 encI vr_3 r_8).foot bz_) h_19 1 encI vr_3 r_8 := ⟨(hZ_11.own 0 rfl).slice, fun _ b hb => .inr hb⟩
   replace hS : St (fun bz_ => (fun bz_ => F_22 bz_ ∨ (Ow.own 52 2 e_api_Branch vr_1_2 r_1_2).foot bz_) bz_ ∨ (Ow.own 3 1 encI vr_3 r_8).foot bz_) (Ow.own 3 1 encI vr_4 r_9 :: Ow.own 3 1 encI vr_2 r_7 :: Ow.own 3 1 encI vr1_2 r1_2 :: Ow.own 52 2 e_api_Branch vr_1_1 r_1_1 :: Ow.own 3 1 encI vr2_2 r2_2 :: Ow.box b_2 24 #[.int .i64 r0_1, vb_Members, vb_Services, .int .u8 b_Fan] :: Ow.own 3 1 encI vr2_1 r2_1 :: Ow.box b_3 31 #[.int .i64 r_0_1, vr_1_1] :: fr) h_19 := hS.perm2 [1, 0, 2, 3, 4, 5, 6, 7] 8 rfl rfl
   have hZ_12 := hS
   have hkz_12 := (hS.freeze).2
   replace hS := hS.freeze.1
   have hL_12 : SliceF (fun bz_ => (fun bz_ => (fun bz_ => F_22 bz_ ∨ (Ow.own 52 2 e_api_Branch vr_1_2 r_1_2).foot bz_) bz_ ∨ (Ow.own 3 1 encI vr_3 r_8).foot bz_) bz_ ∨ (Ow.own 3 1 encI vr_4 r_9).foot bz_) h_19 1 encI vr_4 r_9 := ⟨(hZ_12.own 0 rfl).slice, fun _ b hb => .inr hb⟩
   refine HO.call (want_none) rfl (ec en_25 rfl rfl) (repair_To_walk (fr := (Ow.own 3 1 encI vr_2 r_7 :: Ow.own 3 1 encI vr1_2 r1_2 :: Ow.own 52 2 e_api_Branch vr_1_1 r_1_1 :: Ow.own 3 1 encI vr2_2 r2_2 :: Ow.box b_2 24 #[.int .i64 r0_1, vb_Members, vb_Services, .int .u8 b_Fan] :: Ow.own 3 1 encI vr2_1 r2_1 :: Ow.box b_3 31 #[.int .i64 r_0_1, vr_1_1] :: fr)) r_0_2 r_1_2 r_8 r_9 r3_1 vr_1_2 vr_3 vr_4 hS ((hL_10.kp hkz_11).kp hkz_12) (hL_11.kp hkz_12) hL_12 hD hM) ?_
   rintro _ h_20 ⟨F_23, r0_0_1, r0_1_1, r1_3, vr0_1_1, rfl, hk, hS, _, _, _, hM⟩
   obtain ⟨hS, hk⟩ := hZ_12.back hk hS
   obtain ⟨hS, hk⟩ := hZ_11.back hk hS
   obtain ⟨hS, hk⟩ := hZ_10.back hk hS
   generalize (fun bz_ => (fun bz_ => (fun bz_ => F_23 bz_ ∧ ¬ (Ow.own 3 1 encI vr_4 r_9).foot bz_) bz_ ∧ ¬ (Ow.own 3 1 encI vr_3 r_8).foot bz_) bz_ ∧ ¬ (Ow.own 52 2 e_api_Branch vr_1_2 r_1_2).foot bz_) = F_24 at hS hk
   replace hK := hK.trans hk
   replace hL_a_Members := hL_a_Members.kp hk
   replace hL_a_Services := hL_a_Services.kp hk
   replace hL_b_Members := hL_b_Members.kp hk
   replace hL_b_Services := hL_b_Services.kp hk
   refine oM (.tuple #[.agg #[.int .i64 r0_0_1, vr0_1_1], .bool r1_3]) rfl rfl ?_
   refine oV (.agg #[.int .i64 r0_0_1, vr0_1_1]) (q_extract rfl rfl) rfl ?_
   refine oV (.bool r1_3) (q_extract rfl rfl) rfl ?_
   refine HO.eff (want_none) rfl (st_alloc (c := #[.int .i64 0, .slice none 0 0]) hS tz_31 rfl) ?_
   rintro _ h_21 ⟨b_4, rfl, hS, hk⟩
   replace hK := hK.trans hk
   replace hL_a_Members := hL_a_Members.kp hk
   replace hL_a_Services := hL_a_Services.kp hk
   replace hL_b_Members := hL_b_Members.kp hk
   replace hL_b_Services := hL_b_Services.kp hk
   refine HO.sto (want_none) rfl (st_storeAgg (c' := #[.int .i64 r0_0_1, vr0_1_1]) hS (i := 0) rfl ta_31 rfl rfl rfl (List.forall_mem_cons.2 ⟨rfl, (List.forall_mem_cons.2 ⟨(shp (hS.own 4 rfl).slice).one, (fun _ h => by cases h)⟩)⟩) (Nat.le_of_ble_eq_true rfl) rfl) ?_
   rintro h_22 ⟨hS, hk⟩
   replace hK := hK.trans hk
   replace hL_a_Members := hL_a_Members.kp hk
   replace hL_a_Services := hL_a_Services.kp hk
   replace hL_b_Members := hL_b_Members.kp hk
   replace hL_b_Services := hL_b_Services.kp hk
   refine oA (.bool r1_3) rfl rfl ?_
   refine HO.nil (thenQ_normal (?_))
   refine HW.seq ?_
   refine HW.region ?_
   refine oV (.agg #[.int .i64 r_0_1, vr_1_1]) (q_loadAgg (cs := [.int .i64 r_0_1, vr_1_1]) ta_31 rfl rfl (Blk.cells (k := 2) (hS.box 11 rfl) rfl)) rfl ?_
   refine oM (vr1_2) rfl rfl ?_
   refine oM (vr_2) rfl rfl ?_
   refine oM (.int .i64 r3_1) rfl rfl ?_
   replace hS : St F_24 (Ow.own 52 2 e_api_Branch vr_1_1 r_1_1 :: Ow.box b_4 31 #[.int .i64 r0_0_1, vr0_1_1] :: Ow.own 52 2 e_api_Branch vr_1_2 r_1_2 :: Ow.own 3 1 encI vr_3 r_8 :: Ow.own 3 1 encI vr_4 r_9 :: Ow.own 52 2 e_api_Branch vr0_1_1 r0_1_1 :: Ow.own 3 1 encI vr_2 r_7 :: Ow.own 3 1 encI vr1_2 r1_2 :: Ow.own 3 1 encI vr2_2 r2_2 :: Ow.box b_2 24 #[.int .i64 r0_1, vb_Members, vb_Services, .int .u8 b_Fan] :: Ow.own 3 1 encI vr2_1 r2_1 :: Ow.box b_3 31 #[.int .i64 r_0_1, vr_1_1] :: fr) h_22 := hS.perm2 [7, 0, 1, 2, 3, 4, 5, 6, 8, 9, 10, 11] 12 rfl rfl
   obtain ⟨F_25, hS, hk, hL_13⟩ := hS.freezeOwn
   replace hK := hK.trans hk
   replace hL_a_Members := hL_a_Members.kp hk
   replace hL_a_Services := hL_a_Services.kp hk
   replace hL_b_Members := hL_b_Members.kp hk
   replace hL_b_Services := hL_b_Services.kp hk
   replace hS : St F_25 (Ow.own 3 1 encI vr1_2 r1_2 :: Ow.box b_4 31 #[.int .i64 r0_0_1, vr0_1_1] :: Ow.own 52 2 e_api_Branch vr_1_2 r_1_2 :: Ow.own 3 1 encI vr_3 r_8 :: Ow.own 3 1 encI vr_4 r_9 :: Ow.own 52 2 e_api_Branch vr0_1_1 r0_1_1 :: Ow.own 3 1 encI vr_2 r_7 :: Ow.own 3 1 encI vr2_2 r2_2 :: Ow.box b_2 24 #[.int .i64 r0_1, vb_Members, vb_Services, .int .u8 b_Fan] :: Ow.own 3 1 encI vr2_1 r2_1 :: Ow.box b_3 31 #[.int .i64 r_0_1, vr_1_1] :: fr) h_22 := hS.perm2 [6, 0, 1, 2, 3, 4, 5, 7, 8, 9, 10] 11 rfl rfl
   obtain ⟨F_26, hS, hk, hL_14⟩ := hS.freezeOwn
   replace hK := hK.trans hk
   replace hL_a_Members := hL_a_Members.kp hk
   replace hL_a_Services := hL_a_Services.kp hk
   replace hL_b_Members := hL_b_Members.kp hk
   replace hL_b_Services := hL_b_Services.kp hk
   replace hL_13 := hL_13.kp hk
   replace hS : St F_26 (Ow.own 3 1 encI vr_2 r_7 :: Ow.box b_4 31 #[.int .i64 r0_0_1, vr0_1_1] :: Ow.own 52 2 e_api_Branch vr_1_2 r_1_2 :: Ow.own 3 1 encI vr_3 r_8 :: Ow.own 3 1 encI vr_4 r_9 :: Ow.own 52 2 e_api_Branch vr0_1_1 r0_1_1 :: Ow.own 3 1 encI vr2_2 r2_2 :: Ow.box b_2 24 #[.int .i64 r0_1, vb_Members, vb_Services, .int .u8 b_Fan] :: Ow.own 3 1 encI vr2_1 r2_1 :: Ow.box b_3 31 #[.int .i64 r_0_1, vr_1_1] :: fr) h_22 := hS.perm2 [5, 0, 1, 2, 3, 4, 6, 7, 8, 9] 10 rfl rfl
   obtain ⟨F_27, hS, hk, hL_15⟩ := hS.freezeOwn
   replace hK := hK.trans hk
   replace hL_a_Members := hL_a_Members.kp hk
   replace hL_a_Services := hL_a_Services.kp hk
   replace hL_b_Members := hL_b_Members.kp hk
   replace hL_b_Services := hL_b_Services.kp hk
   replace hL_13 := hL_13.kp hk
   replace hL_14 := hL_14.kp hk
   refine HO.call (want_none) rfl (ec en_26 rfl rfl) (ref34_To_walk (fr := (Ow.box b_4 31 #[.int .i64 r0_0_1, vr0_1_1] :: Ow.own 52 2 e_api_Branch vr_1_2 r_1_2 :: Ow.own 3 1 encI vr_3 r_8 :: Ow.own 3 1 encI vr_4 r_9 :: Ow.own 52 2 e_api_Branch vr0_1_1 r0_1_1 :: Ow.own 3 1 encI vr2_2 r2_2 :: Ow.box b_2 24 #[.int .i64 r0_1, vb_Members, vb_Services, .int .u8 b_Fan] :: Ow.own 3 1 encI vr2_1 r2_1 :: Ow.box b_3 31 #[.int .i64 r_0_1, vr_1_1] :: fr)) r_0_1 r_1_1 r1_2 r_7 r3_1 vr_1_1 vr1_2 vr_2 hS hL_13 hL_14 hL_15 hM) ?_
   rintro _ h_23 ⟨F_28, r0_0_2, r0_1_2, r1_4, vr0_1_2, rfl, hk, hS, _, _, _, hL_16, hM⟩
   replace hK := hK.trans hk
   replace hL_a_Members := hL_a_Members.kp hk
   replace hL_a_Services := hL_a_Services.kp hk
   replace hL_b_Members := hL_b_Members.kp hk
   replace hL_b_Services := hL_b_Services.kp hk
   replace hL_14 := hL_14.kp hk
   refine oM (.tuple #[.agg #[.int .i64 r0_0_2, vr0_1_2], .bool r1_4]) rfl rfl ?_
   refine oV (.agg #[.int .i64 r0_0_2, vr0_1_2]) (q_extract rfl rfl) rfl ?_
   refine oV (.bool r1_4) (q_extract rfl rfl) rfl ?_
   refine HO.eff (want_none) rfl (st_alloc (c := #[.int .i64 0, .slice none 0 0]) hS tz_31 rfl) ?_
   rintro _ h_24 ⟨b_5, rfl, hS, hk⟩
   replace hK := hK.trans hk
   replace hL_a_Members := hL_a_Members.kp hk
   replace hL_a_Services := hL_a_Services.kp hk
   replace hL_b_Members := hL_b_Members.kp hk
   replace hL_b_Services := hL_b_Services.kp hk
   replace hL_14 := hL_14.kp hk
   replace hL_16 := hL_16.kp hk
   refine HO.sto (want_none) rfl (st_storeAgg (c' := #[.int .i64 r0_0_2, vr0_1_2]) hS (i := 0) rfl ta_31 rfl rfl rfl (List.forall_mem_cons.2 ⟨rfl, (List.forall_mem_cons.2 ⟨(shp hL_16.is).one, (fun _ h => by cases h)⟩)⟩) (Nat.le_of_ble_eq_true rfl) rfl) ?_
   rintro h_25 ⟨hS, hk⟩
   replace hK := hK.trans hk
   replace hL_a_Members := hL_a_Members.kp hk
   replace hL_a_Services := hL_a_Services.kp hk
   replace hL_b_Members := hL_b_Members.kp hk
   replace hL_b_Services := hL_b_Services.kp hk
   replace hL_14 := hL_14.kp hk
   replace hL_16 := hL_16.kp hk
   refine oA (.bool r1_4) rfl rfl ?_
   refine HO.nil (thenQ_normal (?_))
   refine HW.seq ?_
   refine HW.region ?_
   refine oV (.agg #[.int .i64 r0_0_1, vr0_1_1]) (q_loadAgg (cs := [.int .i64 r0_0_1, vr0_1_1]) ta_31 rfl rfl (Blk.cells (k := 2) (hS.box 1 rfl) rfl)) rfl ?_
   refine oV (.agg #[.int .i64 r0_0_2, vr0_1_2]) (q_loadAgg (cs := [.int .i64 r0_0_2, vr0_1_2]) ta_31 rfl rfl (Blk.cells (k := 2) (hS.box 0 rfl) rfl)) rfl ?_
   replace hS : St F_28 (Ow.own 52 2 e_api_Branch vr0_1_1 r0_1_1 :: Ow.box b_5 31 #[.int .i64 r0_0_2, vr0_1_2] :: Ow.box b_4 31 #[.int .i64 r0_0_1, vr0_1_1] :: Ow.own 52 2 e_api_Branch vr_1_2 r_1_2 :: Ow.own 3 1 encI vr_3 r_8 :: Ow.own 3 1 encI vr_4 r_9 :: Ow.own 3 1 encI vr2_2 r2_2 :: Ow.box b_2 24 #[.int .i64 r0_1, vb_Members, vb_Services, .int .u8 b_Fan] :: Ow.own 3 1 encI vr2_1 r2_1 :: Ow.box b_3 31 #[.int .i64 r_0_1, vr_1_1] :: fr) h_25 := hS.perm2 [5, 0, 1, 2, 3, 4, 6, 7, 8, 9] 10 rfl rfl
   have hZ_13 := hS
   have hkz_13 := (hS.freeze).2
   replace hS := hS.freeze.1
   have hL_17 : SliceF (fun bz_ => F_28 bz_ ∨ (Ow.own 52 2 e_api_Branch vr0_1_1 r0_1_1).foot bz_) h_25 2 e_api_Branch vr0_1_1 r0_1_1 := ⟨(hZ_13.own 0 rfl).slice, fun _ b hb => .inr hb⟩
   refine HO.call (want_none) rfl (ec en_14 rfl rfl) (ref32_Same_walk (fr := (Ow.box b_5 31 #[.int .i64 r0_0_2, vr0_1_2] :: Ow.box b_4 31 #[.int .i64 r0_0_1, vr0_1_1] :: Ow.own 52 2 e_api_Branch vr_1_2 r_1_2 :: Ow.own 3 1 encI vr_3 r_8 :: Ow.own 3 1 encI vr_4 r_9 :: Ow.own 3 1 encI vr2_2 r2_2 :: Ow.box b_2 24 #[.int .i64 r0_1, vb_Members, vb_Services, .int .u8 b_Fan] :: Ow.own 3 1 encI vr2_1 r2_1 :: Ow.box b_3 31 #[.int .i64 r_0_1, vr_1_1] :: fr)) r0_0_1 r0_1_1 r0_0_2 r0_1_2 vr0_1_1 vr0_1_2 hS hL_17 (hL_16.kp hkz_13) hM) ?_
   rintro _ h_26 ⟨F_29, r_10, rfl, hk, hS, _, _, hM⟩
   obtain ⟨hS, hk⟩ := hZ_13.back hk hS
   generalize (fun bz_ => F_29 bz_ ∧ ¬ (Ow.own 52 2 e_api_Branch vr0_1_1 r0_1_1).foot bz_) = F_30 at hS hk
   replace hK := hK.trans hk
   replace hL_a_Members := hL_a_Members.kp hk
   replace hL_a_Services := hL_a_Services.kp hk
   replace hL_b_Members := hL_b_Members.kp hk
   replace hL_b_Services := hL_b_Services.kp hk
   replace hL_14 := hL_14.kp hk
   refine oM (.bool r_10) rfl rfl ?_
   rcases Bool.eq_false_or_eq_true r_10 with c_5 | c_5
   ·
    replace hM := hM.1 c_5
    refine HO.val (v := .bool r1_3) (want_by rfl rfl c_5) rfl (q_move rfl) ?_
    refine HO.val (v := .bool r1_4) (want_by rfl rfl c_5) rfl (q_move rfl) ?_
    refine HO.val (v := .bool (r1_3 == r1_4)) (want_by rfl rfl c_5) rfl (q_eqlB Tryz.underlying4 rfl rfl) ?_
    refine oV (.bool (r1_3 == r1_4)) (q_pickK true rfl c_5 rfl) rfl ?_
    refine oM (.bool (r1_3 == r1_4)) rfl rfl ?_
    rcases Bool.eq_false_or_eq_true (r1_3 == r1_4) with c_6 | c_6
    ·
     replace hM := hM.1 c_6
     refine HO.val (v := .agg #[.int .i64 r0_0_1, vr0_1_1]) (want_by rfl rfl c_6) rfl (q_loadAgg (cs := [.int .i64 r0_0_1, vr0_1_1]) ta_31 rfl rfl (Blk.cells (k := 2) (hS.box 2 rfl) rfl)) ?_
     refine HO.val (v := .int .i64 r0_1) (want_by rfl rfl c_6) rfl (q_move rfl) ?_
     refine HO.val (v := vr1_2) (want_by rfl rfl c_6) rfl (q_move rfl) ?_
     refine HO.val (v := vr2_2) (want_by rfl rfl c_6) rfl (q_move rfl) ?_
     refine HO.val (v := .int .i64 r3_1) (want_by rfl rfl c_6) rfl (q_move rfl) ?_
     replace hS : St F_30 (Ow.own 52 2 e_api_Branch vr0_1_1 r0_1_1 :: Ow.box b_5 31 #[.int .i64 r0_0_2, vr0_1_2] :: Ow.box b_4 31 #[.int .i64 r0_0_1, vr0_1_1] :: Ow.own 52 2 e_api_Branch vr_1_2 r_1_2 :: Ow.own 3 1 encI vr_3 r_8 :: Ow.own 3 1 encI vr_4 r_9 :: Ow.own 3 1 encI vr2_2 r2_2 :: Ow.box b_2 24 #[.int .i64 r0_1, vb_Members, vb_Services, .int .u8 b_Fan] :: Ow.own 3 1 encI vr2_1 r2_1 :: Ow.box b_3 31 #[.int .i64 r_0_1, vr_1_1] :: fr) h_26 := hS
     have hZ_14 := hS
     have hkz_14 := (hS.freeze).2
     replace hS := hS.freeze.1
     have hL_18 : SliceF (fun bz_ => F_30 bz_ ∨ (Ow.own 52 2 e_api_Branch vr0_1_1 r0_1_1).foot bz_) h_26 2 e_api_Branch vr0_1_1 r0_1_1 := ⟨(hZ_14.own 0 rfl).slice, fun _ b hb => .inr hb⟩
     replace hS : St (fun bz_ => F_30 bz_ ∨ (Ow.own 52 2 e_api_Branch vr0_1_1 r0_1_1).foot bz_) (Ow.own 3 1 encI vr2_2 r2_2 :: Ow.box b_5 31 #[.int .i64 r0_0_2, vr0_1_2] :: Ow.box b_4 31 #[.int .i64 r0_0_1, vr0_1_1] :: Ow.own 52 2 e_api_Branch vr_1_2 r_1_2 :: Ow.own 3 1 encI vr_3 r_8 :: Ow.own 3 1 encI vr_4 r_9 :: Ow.box b_2 24 #[.int .i64 r0_1, vb_Members, vb_Services, .int .u8 b_Fan] :: Ow.own 3 1 encI vr2_1 r2_1 :: Ow.box b_3 31 #[.int .i64 r_0_1, vr_1_1] :: fr) h_26 := hS.perm2 [5, 0, 1, 2, 3, 4, 6, 7, 8] 9 rfl rfl
     have hZ_15 := hS
     have hkz_15 := (hS.freeze).2
     replace hS := hS.freeze.1
     have hL_19 : SliceF (fun bz_ => (fun bz_ => F_30 bz_ ∨ (Ow.own 52 2 e_api_Branch vr0_1_1 r0_1_1).foot bz_) bz_ ∨ (Ow.own 3 1 encI vr2_2 r2_2).foot bz_) h_26 1 encI vr2_2 r2_2 := ⟨(hZ_15.own 0 rfl).slice, fun _ b hb => .inr hb⟩
     refine HO.call (want_by rfl rfl c_6) rfl (ec en_19 rfl rfl) (ref33_Valid_walk (fr := (Ow.box b_5 31 #[.int .i64 r0_0_2, vr0_1_2] :: Ow.box b_4 31 #[.int .i64 r0_0_1, vr0_1_1] :: Ow.own 52 2 e_api_Branch vr_1_2 r_1_2 :: Ow.own 3 1 encI vr_3 r_8 :: Ow.own 3 1 encI vr_4 r_9 :: Ow.box b_2 24 #[.int .i64 r0_1, vb_Members, vb_Services, .int .u8 b_Fan] :: Ow.own 3 1 encI vr2_1 r2_1 :: Ow.box b_3 31 #[.int .i64 r_0_1, vr_1_1] :: fr)) r0_0_1 r0_1_1 r0_1 r1_2 r2_2 r3_1 vr0_1_1 vr1_2 vr2_2 hS (hL_18.kp hkz_15) ((hL_14.kp hkz_14).kp hkz_15) hL_19 hM) ?_
     rintro _ h_27 ⟨F_31, r_11, rfl, hk, hS, _, _, _, hM⟩
     obtain ⟨hS, hk⟩ := hZ_15.back hk hS
     obtain ⟨hS, hk⟩ := hZ_14.back hk hS
     generalize (fun bz_ => (fun bz_ => F_31 bz_ ∧ ¬ (Ow.own 3 1 encI vr2_2 r2_2).foot bz_) bz_ ∧ ¬ (Ow.own 52 2 e_api_Branch vr0_1_1 r0_1_1).foot bz_) = F_32 at hS hk
     replace hK := hK.trans hk
     replace hL_a_Members := hL_a_Members.kp hk
     replace hL_a_Services := hL_a_Services.kp hk
     replace hL_b_Members := hL_b_Members.kp hk
     replace hL_b_Services := hL_b_Services.kp hk
     refine oV (.bool r_11) (q_pickK true rfl c_6 rfl) rfl ?_
     refine oM (.bool r_11) rfl rfl ?_
     rcases Bool.eq_false_or_eq_true r_11 with c_7 | c_7
     ·
      replace hM := hM.1 c_7
      refine HO.call (want_by rfl rfl c_7) rfl (ec en_24 rfl rfl) (law34_lives_walk (fr := (Ow.own 52 2 e_api_Branch vr0_1_1 r0_1_1 :: Ow.own 3 1 encI vr2_2 r2_2 :: Ow.box b_5 31 #[.int .i64 r0_0_2, vr0_1_2] :: Ow.box b_4 31 #[.int .i64 r0_0_1, vr0_1_1] :: Ow.own 52 2 e_api_Branch vr_1_2 r_1_2 :: Ow.own 3 1 encI vr_3 r_8 :: Ow.own 3 1 encI vr_4 r_9 :: Ow.box b_2 24 #[.int .i64 r0_1, vb_Members, vb_Services, .int .u8 b_Fan] :: Ow.own 3 1 encI vr2_1 r2_1 :: Ow.box b_3 31 #[.int .i64 r_0_1, vr_1_1] :: fr))  hS hD hM) ?_
      rintro _ h_28 ⟨F_33, r_12, rfl, hk, hS, hM⟩
      replace hK := hK.trans hk
      replace hL_a_Members := hL_a_Members.kp hk
      replace hL_a_Services := hL_a_Services.kp hk
      replace hL_b_Members := hL_b_Members.kp hk
      replace hL_b_Services := hL_b_Services.kp hk
      refine oV (.bool r_12) (q_pickK true rfl c_7 rfl) rfl ?_
      refine oA (.bool r_12) rfl rfl ?_
      refine HO.nil (thenQ_normal (?_))
      refine HW.ret (?_)
      refine ⟨.inr rfl, .bool r_12, res1 rfl (rt rfl), ?_⟩
      replace hS : St F_33 (fr) h_28 := hS.perm2 [] 10 rfl rfl
      exact ⟨F_33, r_12, rfl, hK, hS, hL_a_Members, hL_a_Services, hL_b_Members, hL_b_Services, hM⟩
     ·
      replace hM := hM.2 c_7
      refine HO.past (past_by rfl rfl c_7) rfl ?_
      refine oV (.bool false) (q_pickK false rfl c_7 rfl) rfl ?_
      refine oA (.bool false) rfl rfl ?_
      refine HO.nil (thenQ_normal (?_))
      refine HW.ret (?_)
      refine ⟨.inr rfl, .bool false, res1 rfl (rt rfl), ?_⟩
      replace hS : St F_32 (fr) h_27 := hS.perm2 [] 10 rfl rfl
      exact ⟨F_32, false, rfl, hK, hS, hL_a_Members, hL_a_Services, hL_b_Members, hL_b_Services, hM⟩
    ·
     replace hM := hM.2 c_6
     refine HO.past (past_by rfl rfl c_6) rfl ?_
     refine HO.past (past_by rfl rfl c_6) rfl ?_
     refine HO.past (past_by rfl rfl c_6) rfl ?_
     refine HO.past (past_by rfl rfl c_6) rfl ?_
     refine HO.past (past_by rfl rfl c_6) rfl ?_
     refine HO.past (past_by rfl rfl c_6) rfl ?_
     refine oV (.bool false) (q_pickK false rfl c_6 rfl) rfl ?_
     refine oM (.bool false) rfl rfl ?_
     refine HO.past (past_some rfl rfl) rfl ?_
     refine oV (.bool false) (q_pick rfl rfl) rfl ?_
     refine oA (.bool false) rfl rfl ?_
     refine HO.nil (thenQ_normal (?_))
     refine HW.ret (?_)
     refine ⟨.inr rfl, .bool false, res1 rfl (rt rfl), ?_⟩
     replace hS : St F_30 (fr) h_26 := hS.perm2 [] 10 rfl rfl
     exact ⟨F_30, false, rfl, hK, hS, hL_a_Members, hL_a_Services, hL_b_Members, hL_b_Services, hM⟩
   ·
    replace hM := hM.2 c_5
    refine HO.past (past_by rfl rfl c_5) rfl ?_
    refine HO.past (past_by rfl rfl c_5) rfl ?_
    refine HO.past (past_by rfl rfl c_5) rfl ?_
    refine oV (.bool false) (q_pickK false rfl c_5 rfl) rfl ?_
    refine oM (.bool false) rfl rfl ?_
    refine HO.past (past_some rfl rfl) rfl ?_
    refine HO.past (past_some rfl rfl) rfl ?_
    refine HO.past (past_some rfl rfl) rfl ?_
    refine HO.past (past_some rfl rfl) rfl ?_
    refine HO.past (past_some rfl rfl) rfl ?_
    refine HO.past (past_some rfl rfl) rfl ?_
    refine oV (.bool false) (q_pick rfl rfl) rfl ?_
    refine oM (.bool false) rfl rfl ?_
    refine HO.past (past_some rfl rfl) rfl ?_
    refine oV (.bool false) (q_pick rfl rfl) rfl ?_
    refine oA (.bool false) rfl rfl ?_
    refine HO.nil (thenQ_normal (?_))
    refine HW.ret (?_)
    refine ⟨.inr rfl, .bool false, res1 rfl (rt rfl), ?_⟩
    replace hS : St F_30 (fr) h_26 := hS.perm2 [] 10 rfl rfl
    exact ⟨F_30, false, rfl, hK, hS, hL_a_Members, hL_a_Services, hL_b_Members, hL_b_Services, hM⟩
end Go.Wk
