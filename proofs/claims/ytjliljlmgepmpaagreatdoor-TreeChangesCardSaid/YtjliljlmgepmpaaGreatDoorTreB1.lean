/- Walks of trees: what some laws share. -/
import Derived.Test.YtjliljlmgepmpaaGreatDoorTreA2
set_option linter.unusedSimpArgs false
set_option linter.unusedVariables false
set_option linter.unusedSectionVars false
namespace Go.Wk
open Go.HL
open Go.Proofs hiding encI
variable [DM]
set_option maxRecDepth 100000 in
theorem teq_46 (d : Nat) (a b : T_api_Branch) (w : World) : (Op.equalIn (d + 2) 46 (.agg #[.int .i64 a.1, .int .i64 a.2]) (.agg #[.int .i64 b.1, .int .i64 b.2])).run Tryz.prog w = .ok (decide (a = b)) w := by
  refine (eqs w (d + 1) 46 _ _ Tryz.underlying46 (by kernel_rfl) (eqf_cons w (a := .int .i64 a.1) (b := .int .i64 b.1) (by decide) (by kernel_rfl) (by kernel_rfl) (run_equalIn_int w _ _ _ _ _ _ Tryz.underlying3) (eqf_cons w (a := .int .i64 a.2) (b := .int .i64 b.2) (by decide) (by kernel_rfl) (by kernel_rfl) (run_equalIn_int w _ _ _ _ _ _ Tryz.underlying3) (eqf_nil w)))).trans ?_
  congr 1; rw [Bool.eq_iff_iff]; simp [Prod.ext_iff]
theorem en_59 (args : Array Value) (w : World) : (callFunc 59 args).run Tryz.prog w = .ok (.enter 59 args) w := by kernel_rfl
theorem en_80 (args : Array Value) (w : World) : (callFunc 80 args).run Tryz.prog w = .ok (.enter 80 args) w := by kernel_rfl
theorem apv_97 {F : Fz} {os : List Ow} {h : Heap} {b : Nat} {sv : Value} {l : List T_api_Branch} (hS : St F os h) (hB : Blk h b (.cells #[sv] 22 (0, 0))) (hX : SliceIs h 2 e_api_Branch sv l) (hN : l.length * 16 ≤ 140737488355328) :
    HC Tryz.prog 97 #[.slice none 0 0, .func (.func 80) #[] #[.pointer (some ⟨b, 0, none⟩)]] h fun u h' => St F (Ow.own 46 2 e_api_Branch u l :: os) h' ∧ Kp F h F h' :=
  appendV_hc (enc := e_api_Branch) Tryz.func97 rfl rfl rfl Tryz.func80 rfl rfl rfl en_80 te_22 ts_22 ta_46 to_22 tz_46 rfl tl_22 (by decide) (fun _ => rfl) (by intro a u hu; simp [e_api_Branch, encI, encN, encB, encT] at hu; rcases hu with rfl | rfl <;> rfl) hS hB hX hN
theorem en_97 (args : Array Value) (w : World) : (callFunc 97 args).run Tryz.prog w = .ok (.enter 97 args) w := by kernel_rfl
theorem en_78 (args : Array Value) (w : World) : (callFunc 78 args).run Tryz.prog w = .ok (.enter 78 args) w := by kernel_rfl
theorem en_79 (args : Array Value) (w : World) : (callFunc 79 args).run Tryz.prog w = .ok (.enter 79 args) w := by kernel_rfl
theorem en_61 (args : Array Value) (w : World) : (callFunc 61 args).run Tryz.prog w = .ok (.enter 61 args) w := by kernel_rfl
theorem en_60 (args : Array Value) (w : World) : (callFunc 60 args).run Tryz.prog w = .ok (.enter 60 args) w := by kernel_rfl
def tree_Nodes_W (t_Root : Int) (t_Links : List T_api_Branch) (Q : (List Int) → Prop) : Prop :=
 tree_walk_W t_Root t_Links t_Root (fun r_2 => tree_rising_W r_2 (fun r_3 => Q r_3))
set_option maxHeartbeats 40000000 in
set_option maxRecDepth 100000 in
theorem tree_Nodes_walk {F : Fz} {fr : List Ow} {h0 : Heap} (t_Root : Int) (t_Links : List T_api_Branch) (vt_Links : Value) (hS : St F (fr) h0) (hL_t_Links : SliceF F h0 2 e_api_Branch vt_Links t_Links) {Q : (List Int) → Prop} (hM : tree_Nodes_W t_Root t_Links Q) :
  HC Tryz.prog 28 #[.agg #[.int .i64 t_Root, vt_Links]] h0 fun u h' => ∃ (F' : Fz) (r_1 : List Int) (vr_1 : Value), u = vr_1 ∧ Kp F h0 F' h' ∧ St F' (Ow.own 3 1 encI vr_1 r_1 :: fr) h' ∧ (SliceF F' h' 2 e_api_Branch vt_Links t_Links) ∧ Q r_1 := by
 unfold tree_Nodes_W at hM
 have hK := Kp.refl F h0
 refine HC.of_HW (n := 8) Tryz.func28 rfl rfl (Nat.le_of_ble_eq_true rfl) ?_
 refine HW.seq ?_
 refine HW.region ?_
 refine HO.eff (want_none) rfl (st_box (c := #[.int .i64 t_Root, vt_Links]) (k' := 2) hS rfl rfl) ?_
 rintro _ h_1 ⟨b_1, rfl, hS, hk⟩
 replace hK := hK.trans hk
 replace hL_t_Links := hL_t_Links.kp hk
 refine oA (.slice none 0 0) rfl rfl ?_
 refine HO.nil (thenQ_normal (?_))
 refine HW.seq ?_
 refine HW.region ?_
 refine oV (.agg #[.int .i64 t_Root, vt_Links]) (q_loadAgg (cs := [.int .i64 t_Root, vt_Links]) ta_24 rfl rfl (Blk.cells (k := 2) (hS.box 0 rfl) rfl)) rfl ?_
 refine oV (.pointer (some ⟨b_1, 0, none⟩)) (q_fieldAddr fa_24_0 rfl rfl) rfl ?_
 refine oV (.int .i64 t_Root) (q_load to_3 rfl (Blk.cell (hS.box 0 rfl) rfl)) rfl ?_
 refine HO.call (want_none) rfl (ec en_53 rfl rfl) (tree_walk_walk (fr := (Ow.box b_1 24 #[.int .i64 t_Root, vt_Links] :: fr)) t_Root t_Links t_Root vt_Links hS hL_t_Links hM) ?_
 rintro vr_2 h_2 ⟨F_1, r_2, _, rfl, hk, hS, _, hM⟩
 replace hK := hK.trans hk
 replace hL_t_Links := hL_t_Links.kp hk
 refine HO.call (want_none) rfl (ec en_52 rfl rfl) (tree_rising_walk (fr := (Ow.box b_1 24 #[.int .i64 t_Root, vt_Links] :: fr)) r_2 vr_2 hS hM) ?_
 rintro vr_3 h_3 ⟨F_2, r_3, _, rfl, hk, hS, hM⟩
 replace hK := hK.trans hk
 replace hL_t_Links := hL_t_Links.kp hk
 refine oA (vr_3) rfl rfl ?_
 refine HO.nil (thenQ_normal (?_))
 refine HW.ret (?_)
 refine ⟨.inr rfl, vr_3, res1 rfl (rt rfl), ?_⟩
 replace hS : St F_2 (Ow.own 3 1 encI vr_3 r_3 :: fr) h_3 := hS.perm2 [0] 2 rfl rfl
 exact ⟨F_2, r_3, vr_3, rfl, hK, hS, hL_t_Links, hM⟩

def ref32_Same_l1 (a_Links : List T_api_Branch) (b_Links : List T_api_Branch) (Q : Bool → Prop) (K_1 : Int → Prop) (i_1 : Int) : Prop :=
 (i_1 < (a_Links.length : Int) → ((0 : Int) ≤ i_1 ∧ i_1 < (a_Links.length : Int)) ∧ (((0 : Int) ≤ i_1 ∧ i_1 < (b_Links.length : Int)) ∧ ((¬ (((gi a_Links i_1) : T_api_Branch) = (gi b_Links i_1)) → Q false) ∧ (((gi a_Links i_1) : T_api_Branch) = (gi b_Links i_1) → (I64 (i_1 + 1)) ∧ (K_1 (i_1 + 1)))))) ∧ (¬ (i_1 < (a_Links.length : Int)) → Q true)
def ref32_Same_j1 (a_Links : List T_api_Branch) (b_Links : List T_api_Branch) (Q : Bool → Prop) (b_3 : Bool) : Prop :=
 (b_3 = true → Q false) ∧ (b_3 = false → loopW (fun (K_1 : Int → Prop) (s : Int) => ref32_Same_l1 a_Links b_Links Q K_1 s) 0)
def ref32_Same_W (a_Root : Int) (a_Links : List T_api_Branch) (b_Root : Int) (b_Links : List T_api_Branch) (Q : Bool → Prop) : Prop :=
 (¬ (a_Root = b_Root) → ref32_Same_j1 a_Links b_Links Q true) ∧ (a_Root = b_Root → ref32_Same_j1 a_Links b_Links Q (!decide ((a_Links.length : Int) = (b_Links.length : Int))))
set_option maxHeartbeats 40000000 in
set_option maxRecDepth 100000 in
theorem ref32_Same_walk {F : Fz} {fr : List Ow} {h0 : Heap} (a_Root : Int) (a_Links : List T_api_Branch) (b_Root : Int) (b_Links : List T_api_Branch) (va_Links : Value) (vb_Links : Value) (hS : St F (fr) h0) (hL_a_Links : SliceF F h0 2 e_api_Branch va_Links a_Links) (hL_b_Links : SliceF F h0 2 e_api_Branch vb_Links b_Links) {Q : Bool → Prop} (hM : ref32_Same_W a_Root a_Links b_Root b_Links Q) :
  HC Tryz.prog 11 #[.agg #[.int .i64 a_Root, va_Links], .agg #[.int .i64 b_Root, vb_Links]] h0 fun u h' => ∃ (F' : Fz) (r_1 : Bool), u = .bool r_1 ∧ Kp F h0 F' h' ∧ St F' (fr) h' ∧ (SliceF F' h' 2 e_api_Branch va_Links a_Links) ∧ (SliceF F' h' 2 e_api_Branch vb_Links b_Links) ∧ Q r_1 := by
 unfold ref32_Same_W at hM
 have hK := Kp.refl F h0
 refine HC.of_HW (n := 38) Tryz.func11 rfl rfl (Nat.le_of_ble_eq_true rfl) ?_
 refine HW.seq ?_
 refine HW.region ?_
 refine HO.eff (want_none) rfl (st_box (c := #[.int .i64 a_Root, va_Links]) (k' := 2) hS rfl rfl) ?_
 rintro _ h_1 ⟨b_1, rfl, hS, hk⟩
 replace hK := hK.trans hk
 replace hL_a_Links := hL_a_Links.kp hk
 replace hL_b_Links := hL_b_Links.kp hk
 refine HO.eff (want_none) rfl (st_box (c := #[.int .i64 b_Root, vb_Links]) (k' := 2) hS rfl rfl) ?_
 rintro _ h_2 ⟨b_2, rfl, hS, hk⟩
 replace hK := hK.trans hk
 replace hL_a_Links := hL_a_Links.kp hk
 replace hL_b_Links := hL_b_Links.kp hk
 refine oA (.bool false) rfl rfl ?_
 refine HO.nil (thenQ_normal (?_))
 refine HW.seq ?_
 refine HW.seq_mid (fun f h => ∃ (F' : Fz) (b_3 : Bool), f 2 = .pointer (some ⟨b_1, 0, none⟩) ∧ f 3 = .pointer (some ⟨b_2, 0, none⟩) ∧ f 4 = .bool false ∧ f 19 = .bool b_3 ∧ Kp F h0 F' h ∧ St F' (Ow.box b_1 24 #[.int .i64 a_Root, va_Links] :: Ow.box b_2 24 #[.int .i64 b_Root, vb_Links] :: fr) h ∧ (SliceF F' h 2 e_api_Branch va_Links a_Links) ∧ (SliceF F' h 2 e_api_Branch vb_Links b_Links) ∧ ref32_Same_j1 a_Links b_Links Q b_3) ?_ ?_
 ·
  refine HW.region ?_
  refine oV (.pointer (some ⟨b_1, 0, none⟩)) (q_fieldAddr fa_24_0 rfl rfl) rfl ?_
  refine oV (.int .i64 a_Root) (q_load to_3 rfl (Blk.cell (hS.box 1 rfl) rfl)) rfl ?_
  refine oV (.pointer (some ⟨b_2, 0, none⟩)) (q_fieldAddr fa_24_0 rfl rfl) rfl ?_
  refine oV (.int .i64 b_Root) (q_load to_3 rfl (Blk.cell (hS.box 0 rfl) rfl)) rfl ?_
  refine oV (.bool (!decide (a_Root = b_Root))) (q_neq rfl rfl) rfl ?_
  refine oM (.bool (!decide (a_Root = b_Root))) rfl rfl ?_
  rcases Bool.eq_false_or_eq_true (!decide (a_Root = b_Root)) with c_1 | c_1
  ·
   replace hM := hM.1 (nd_true c_1)
   refine HO.past (past_by rfl rfl c_1) rfl ?_
   refine HO.past (past_by rfl rfl c_1) rfl ?_
   refine HO.past (past_by rfl rfl c_1) rfl ?_
   refine HO.past (past_by rfl rfl c_1) rfl ?_
   refine HO.past (past_by rfl rfl c_1) rfl ?_
   refine HO.past (past_by rfl rfl c_1) rfl ?_
   refine HO.past (past_by rfl rfl c_1) rfl ?_
   refine oV (.bool true) (q_pickK true rfl c_1 rfl) rfl ?_
   refine HO.nil (thenQ_normal (?_))
   replace hS : St F (Ow.box b_1 24 #[.int .i64 a_Root, va_Links] :: Ow.box b_2 24 #[.int .i64 b_Root, vb_Links] :: fr) h_2 := hS.perm2 [1, 0] 2 rfl rfl
   exact ⟨F, true, rfl, rfl, rfl, rfl, hK, hS, hL_a_Links, hL_b_Links, hM⟩
  ·
   replace hM := hM.2 (nd_false c_1)
   refine HO.val (v := .pointer (some ⟨b_1, 1, none⟩)) (want_by rfl rfl c_1) rfl (q_fieldAddr fa_24_1 rfl rfl) ?_
   refine HO.val (v := va_Links) (want_by rfl rfl c_1) rfl (q_load to_22 rfl (Blk.cell (hS.box 1 rfl) rfl)) ?_
   refine HO.val (v := .int .i64 (a_Links.length : Int)) (want_by rfl rfl c_1) rfl (q_len ts_22 (shp hL_a_Links.is) rfl rfl) ?_
   refine HO.val (v := .pointer (some ⟨b_2, 1, none⟩)) (want_by rfl rfl c_1) rfl (q_fieldAddr fa_24_1 rfl rfl) ?_
   refine HO.val (v := vb_Links) (want_by rfl rfl c_1) rfl (q_load to_22 rfl (Blk.cell (hS.box 0 rfl) rfl)) ?_
   refine HO.val (v := .int .i64 (b_Links.length : Int)) (want_by rfl rfl c_1) rfl (q_len ts_22 (shp hL_b_Links.is) rfl rfl) ?_
   refine HO.val (v := .bool (!decide ((a_Links.length : Int) = (b_Links.length : Int)))) (want_by rfl rfl c_1) rfl (q_neq rfl rfl) ?_
   refine oV (.bool (!decide ((a_Links.length : Int) = (b_Links.length : Int)))) (q_pickK false rfl c_1 rfl) rfl ?_
   refine HO.nil (thenQ_normal (?_))
   replace hS : St F (Ow.box b_1 24 #[.int .i64 a_Root, va_Links] :: Ow.box b_2 24 #[.int .i64 b_Root, vb_Links] :: fr) h_2 := hS.perm2 [1, 0] 2 rfl rfl
   exact ⟨F, !decide ((a_Links.length : Int) = (b_Links.length : Int)), rfl, rfl, rfl, rfl, hK, hS, hL_a_Links, hL_b_Links, hM⟩
 ·
  rintro f_1 h_3 ⟨F_1, b_3, e2, e3, e4, e19, hK, hS, hL_a_Links, hL_b_Links, hM⟩
  unfold ref32_Same_j1 at hM
  refine HW.fr [(2, .pointer (some ⟨b_1, 0, none⟩)), (3, .pointer (some ⟨b_2, 0, none⟩)), (4, .bool false), (19, .bool b_3)] ⟨e2, e3, e4, e19, trivial⟩ ?_
  refine HW.cond b_3 rfl (fun c_2 => ?_) (fun c_2 => ?_)
  ·
   replace hM := hM.1 c_2
   refine HW.seq ?_
   refine HW.region ?_
   refine oA (.bool false) rfl rfl ?_
   refine HO.nil (thenQ_normal (?_))
   refine HW.ret (thenQ_ret (?_))
   refine ⟨.inr rfl, .bool false, res1 rfl (rt rfl), ?_⟩
   replace hS : St F_1 (fr) h_3 := hS.perm2 [] 2 rfl rfl
   exact ⟨F_1, false, rfl, hK, hS, hL_a_Links, hL_b_Links, hM⟩
  ·
   replace hM := hM.2 c_2
   refine HW.skip (thenQ_normal (?_))
   refine HW.seq ?_
   refine HW.seq ?_
   refine HW.region ?_
   refine oA (.int .i64 0) rfl rfl ?_
   refine HO.nil (thenQ_normal (?_))
   refine HW.block ?_
   obtain ⟨I_1, m_1, hI_1, hR_1⟩ := hM
   refine HW.loop (S := Int) (fun i_1 f h => ∃ (F' : Fz), f 2 = .pointer (some ⟨b_1, 0, none⟩) ∧ f 3 = .pointer (some ⟨b_2, 0, none⟩) ∧ f 4 = .bool false ∧ f 5 = .int .i64 i_1 ∧ Kp F h0 F' h ∧ St F' (Ow.box b_1 24 #[.int .i64 a_Root, va_Links] :: Ow.box b_2 24 #[.int .i64 b_Root, vb_Links] :: fr) h ∧ (SliceF F' h 2 e_api_Branch va_Links a_Links) ∧ (SliceF F' h 2 e_api_Branch vb_Links b_Links) ∧ I_1 i_1) m_1 0 ⟨F_1, rfl, rfl, rfl, rfl, hK, hS, hL_a_Links, hL_b_Links, hI_1⟩ ?_
   rintro i_1 f_2 h_4 ⟨F_2, e2, e3, e4, e5, hK, hS, hL_a_Links, hL_b_Links, hI0⟩
   obtain ⟨K_1, hKe_1⟩ : ∃ K : Int → Prop, K = fun i_1' => I_1 i_1' ∧ m_1 i_1' < m_1 i_1 := ⟨_, rfl⟩
   have hM : ref32_Same_l1 a_Links b_Links Q K_1 i_1 := by rw [hKe_1]; exact hR_1 i_1 hI0
   unfold ref32_Same_l1 at hM
   refine HW.fr [(2, .pointer (some ⟨b_1, 0, none⟩)), (3, .pointer (some ⟨b_2, 0, none⟩)), (4, .bool false), (5, .int .i64 i_1)] ⟨e2, e3, e4, e5, trivial⟩ ?_
   refine HW.seq ?_
   refine HW.seq ?_
   refine HW.region ?_
   refine oM (.int .i64 i_1) rfl rfl ?_
   refine oV (.pointer (some ⟨b_1, 1, none⟩)) (q_fieldAddr fa_24_1 rfl rfl) rfl ?_
   refine oV (va_Links) (q_load to_22 rfl (Blk.cell (hS.box 0 rfl) rfl)) rfl ?_
   refine oV (.int .i64 (a_Links.length : Int)) (q_len ts_22 (shp hL_a_Links.is) rfl rfl) rfl ?_
   refine oV (.bool (decide (i_1 < (a_Links.length : Int)))) (q_lss rfl rfl) rfl ?_
   refine HO.nil (thenQ_normal (?_))
   refine HW.cond (decide (i_1 < (a_Links.length : Int))) rfl (fun c_3 => ?_) (fun c_3 => ?_)
   ·
    replace hM := hM.1 (of_decide_eq_true c_3)
    refine HW.skip (thenQ_normal (?_))
    refine HW.seq ?_
    refine HW.block ?_
    refine HW.seq ?_
    refine HW.regionA 11 mixed (fun h => (SliceIs h 2 e_api_Branch va_Links a_Links) ∧ (SliceIs h 2 e_api_Branch vb_Links b_Links) ∧ (Blk h b_1 (.cells #[.int .i64 a_Root, va_Links] 24 (0, 0))) ∧ (Blk h b_2 (.cells #[.int .i64 b_Root, vb_Links] 24 (0, 0)))) [] (by kernel_rfl) ?_
    refine HA.val (k := 0) (v := .pointer (some ⟨b_1, 1, none⟩)) rfl rfl (by kernel_rfl) (by kernel_rfl) (want_none) rfl (fun _ ⟨hL_a_Links, hL_b_Links, c305, c306⟩ => q_fieldAddr fa_24_1 rfl rfl) ?_
    refine HA.val (k := 1) (v := va_Links) rfl rfl (by kernel_rfl) (by kernel_rfl) (want_none) rfl (fun _ ⟨hL_a_Links, hL_b_Links, c305, c306⟩ => q_load to_22 rfl (Blk.cell c305 rfl)) ?_
    refine HA.val (k := 2) (v := .int .i64 i_1) rfl rfl (by kernel_rfl) (by kernel_rfl) (want_none) rfl (fun _ ⟨hL_a_Links, hL_b_Links, c305, c306⟩ => q_move rfl) ?_
    obtain ⟨ho_1, hM⟩ := hM
    refine HA.val (k := 3) (v := elemPtr 2 va_Links (i_1).toNat) rfl rfl (by kernel_rfl) (by kernel_rfl) (want_none) rfl (fun _ ⟨hL_a_Links, hL_b_Links, c305, c306⟩ => q_idx ts_22 hL_a_Links rfl rfl ho_1) ?_
    refine HA.val (k := 4) (v := .agg #[.int .i64 ((gi a_Links i_1).1), .int .i64 ((gi a_Links i_1).2)]) rfl rfl (by kernel_rfl) (by kernel_rfl) (want_none) rfl (fun _ ⟨hL_a_Links, hL_b_Links, c305, c306⟩ => q_ldElemAgg (cs := [.int .i64 ((gi a_Links i_1).1), .int .i64 ((gi a_Links i_1).2)]) ta_46 hL_a_Links rfl ho_1 rfl) ?_
    refine HA.val (k := 5) (v := .pointer (some ⟨b_2, 1, none⟩)) rfl rfl (by kernel_rfl) (by kernel_rfl) (want_none) rfl (fun _ ⟨hL_a_Links, hL_b_Links, c305, c306⟩ => q_fieldAddr fa_24_1 rfl rfl) ?_
    refine HA.val (k := 6) (v := vb_Links) rfl rfl (by kernel_rfl) (by kernel_rfl) (want_none) rfl (fun _ ⟨hL_a_Links, hL_b_Links, c305, c306⟩ => q_load to_22 rfl (Blk.cell c306 rfl)) ?_
    refine HA.val (k := 7) (v := .int .i64 i_1) rfl rfl (by kernel_rfl) (by kernel_rfl) (want_none) rfl (fun _ ⟨hL_a_Links, hL_b_Links, c305, c306⟩ => q_move rfl) ?_
    obtain ⟨ho_2, hM⟩ := hM
    refine HA.val (k := 8) (v := elemPtr 2 vb_Links (i_1).toNat) rfl rfl (by kernel_rfl) (by kernel_rfl) (want_none) rfl (fun _ ⟨hL_a_Links, hL_b_Links, c305, c306⟩ => q_idx ts_22 hL_b_Links rfl rfl ho_2) ?_
    refine HA.val (k := 9) (v := .agg #[.int .i64 ((gi b_Links i_1).1), .int .i64 ((gi b_Links i_1).2)]) rfl rfl (by kernel_rfl) (by kernel_rfl) (want_none) rfl (fun _ ⟨hL_a_Links, hL_b_Links, c305, c306⟩ => q_ldElemAgg (cs := [.int .i64 ((gi b_Links i_1).1), .int .i64 ((gi b_Links i_1).2)]) ta_46 hL_b_Links rfl ho_2 rfl) ?_
    refine HA.val (k := 10) (v := .bool (!decide (((gi a_Links i_1) : T_api_Branch) = (gi b_Links i_1)))) rfl rfl (by kernel_rfl) (by kernel_rfl) (want_none) rfl (fun _ ⟨hL_a_Links, hL_b_Links, c305, c306⟩ => q_neqAgg (a := (gi a_Links i_1)) (b := (gi b_Links i_1)) (fun a b w => teq_46 9998 a b w) (by kernel_rfl) rfl rfl rfl rfl) ?_
    refine HA.nil ⟨⟨hL_a_Links.is, hL_b_Links.is, (hS.box 0 rfl), (hS.box 1 rfl)⟩, (Go.Wk.at_nil _ _)⟩ (by kernel_rfl) (thenQ_normal (?_))
    refine HW.cond (!decide (((gi a_Links i_1) : T_api_Branch) = (gi b_Links i_1))) rfl (fun c_4 => ?_) (fun c_4 => ?_)
    ·
     replace hM := hM.1 (nd_true c_4)
     refine HW.seq ?_
     refine HW.region ?_
     refine oA (.bool false) rfl rfl ?_
     refine HO.nil (thenQ_normal (?_))
     refine HW.ret (blockQ_ret (thenQ_ret (thenQ_ret (blockQ_ret (thenQ_ret (?_))))))
     refine ⟨.inr rfl, .bool false, res1 rfl (rt rfl), ?_⟩
     replace hS : St F_2 (fr) h_4 := hS.perm2 [] 2 rfl rfl
     exact ⟨F_2, false, rfl, hK, hS, hL_a_Links, hL_b_Links, hM⟩
    ·
     replace hM := hM.2 (nd_false c_4)
     refine HW.skip (blockQ_normal (thenQ_normal (?_)))
     refine HW.region ?_
     refine oM (.int .i64 i_1) rfl rfl ?_
     obtain ⟨ho_3, hM⟩ := hM
     refine oV (.int .i64 (i_1 + 1)) (q_addN _ rfl rfl rfl ho_3.1 ho_3.2) rfl ?_
     refine oA (.int .i64 (i_1 + 1)) rfl rfl ?_
     refine HO.nil (thenQ_normal (?_))
     rw [hKe_1] at hM
     exact ⟨i_1 + 1, ⟨F_2, rfl, rfl, rfl, rfl, hK, hS, hL_a_Links, hL_b_Links, hM.1⟩, hM.2⟩
   ·
    replace hM := hM.2 (of_decide_eq_false c_3)
    refine HW.exit (thenQ_exit (thenQ_exit (blockQ_exit (thenQ_normal (?_)))))
    refine HW.seq ?_
    refine HW.region ?_
    refine oA (.bool true) rfl rfl ?_
    refine HO.nil (thenQ_normal (?_))
    refine HW.ret (?_)
    refine ⟨.inr rfl, .bool true, res1 rfl (rt rfl), ?_⟩
    replace hS : St F_2 (fr) h_4 := hS.perm2 [] 2 rfl rfl
    exact ⟨F_2, true, rfl, hK, hS, hL_a_Links, hL_b_Links, hM⟩

def ref32_Next_l1 (t_Links : List T_api_Branch) (n : Int) (Q : (List Int) → Prop) (K_1 : (List Int) → Int → Prop) (out_1 : List Int) (i_1 : Int) : Prop :=
 (i_1 < (t_Links.length : Int) → ((0 : Int) ≤ i_1 ∧ i_1 < (t_Links.length : Int)) ∧ ((((gi t_Links i_1).1) = n → ((out_1.length + ([(gi t_Links i_1).2] : List Int).length) * 8 ≤ 140737488355328) ∧ ((I64 (i_1 + 1)) ∧ (K_1 (out_1 ++ ([(gi t_Links i_1).2] : List Int)) (i_1 + 1)))) ∧ (¬ (((gi t_Links i_1).1) = n) → (I64 (i_1 + 1)) ∧ (K_1 out_1 (i_1 + 1))))) ∧ (¬ (i_1 < (t_Links.length : Int)) → Q out_1)
def ref32_Next_W (t_Root : Int) (t_Links : List T_api_Branch) (n : Int) (Q : (List Int) → Prop) : Prop :=
 loopW (fun (K_1 : (List Int × Int) → Prop) (s : List Int × Int) => ref32_Next_l1 t_Links n Q (fun out_1 i_1 => K_1 (out_1, i_1)) s.1 s.2) ([], 0)
set_option maxHeartbeats 40000000 in
set_option maxRecDepth 100000 in
theorem ref32_Next_walk {F : Fz} {fr : List Ow} {h0 : Heap} (t_Root : Int) (t_Links : List T_api_Branch) (n : Int) (vt_Links : Value) (hS : St F (fr) h0) (hL_t_Links : SliceF F h0 2 e_api_Branch vt_Links t_Links) {Q : (List Int) → Prop} (hM : ref32_Next_W t_Root t_Links n Q) :
  HC Tryz.prog 25 #[.agg #[.int .i64 t_Root, vt_Links], .int .i64 n] h0 fun u h' => ∃ (F' : Fz) (r_1 : List Int) (vr_1 : Value), u = vr_1 ∧ Kp F h0 F' h' ∧ St F' (Ow.own 3 1 encI vr_1 r_1 :: fr) h' ∧ (SliceF F' h' 2 e_api_Branch vt_Links t_Links) ∧ Q r_1 := by
 unfold ref32_Next_W at hM
 have hK := Kp.refl F h0
 refine HC.of_HW (n := 33) Tryz.func25 rfl rfl (Nat.le_of_ble_eq_true rfl) ?_
 refine HW.seq ?_
 refine HW.region ?_
 refine HO.eff (want_none) rfl (st_box (c := #[.int .i64 t_Root, vt_Links]) (k' := 2) hS rfl rfl) ?_
 rintro _ h_1 ⟨b_1, rfl, hS, hk⟩
 replace hK := hK.trans hk
 replace hL_t_Links := hL_t_Links.kp hk
 refine oA (.slice none 0 0) rfl rfl ?_
 refine HO.nil (thenQ_normal (?_))
 refine HW.seq ?_
 refine HW.region ?_
 refine HO.eff (want_none) rfl (st_litEmpty (α := Int) encI hS tl_36) ?_
 rintro _ h_2 ⟨b_2, rfl, hS, hk⟩
 replace hK := hK.trans hk
 replace hL_t_Links := hL_t_Links.kp hk
 refine oA (.slice (some ⟨b_2, 0, none⟩) 0 0) rfl rfl ?_
 refine HO.nil (thenQ_normal (?_))
 refine HW.seq ?_
 refine HW.seq ?_
 refine HW.region ?_
 refine oA (.int .i64 0) rfl rfl ?_
 refine HO.nil (thenQ_normal (?_))
 refine HW.block ?_
 obtain ⟨I_1, m_1, hI_1, hR_1⟩ := hM
 replace hS : St F (Ow.box b_1 24 #[.int .i64 t_Root, vt_Links] :: Ow.own 3 1 encI (.slice (some ⟨b_2, 0, none⟩) 0 0) ([] : List Int) :: fr) h_2 := hS.perm2 [1, 0] 2 rfl rfl
 refine HW.loop (S := List Int × Int) (fun s f h => match s with | (out_1, i_1) => ∃ (F' : Fz) (vout_1 : Value), f 1 = .int .i64 n ∧ f 2 = .pointer (some ⟨b_1, 0, none⟩) ∧ f 4 = .slice none 0 0 ∧ f 5 = vout_1 ∧ f 6 = .int .i64 i_1 ∧ Kp F h0 F' h ∧ St F' (Ow.box b_1 24 #[.int .i64 t_Root, vt_Links] :: Ow.own 3 1 encI vout_1 out_1 :: fr) h ∧ (SliceF F' h 2 e_api_Branch vt_Links t_Links) ∧ I_1 (out_1, i_1)) m_1 ([], 0) ⟨F, .slice (some ⟨b_2, 0, none⟩) 0 0, rfl, rfl, rfl, rfl, rfl, hK, hS, hL_t_Links, hI_1⟩ ?_
 rintro ⟨out_1, i_1⟩ f_1 h_3 ⟨F_1, vout_1, e1, e2, e4, e5, e6, hK, hS, hL_t_Links, hI0⟩
 obtain ⟨K_1, hKe_1⟩ : ∃ K : (List Int) → Int → Prop, K = fun out_1' i_1' => I_1 (out_1', i_1') ∧ m_1 (out_1', i_1') < m_1 (out_1, i_1) := ⟨_, rfl⟩
 have hM : ref32_Next_l1 t_Links n Q K_1 out_1 i_1 := by rw [hKe_1]; exact hR_1 (out_1, i_1) hI0
 unfold ref32_Next_l1 at hM
 refine HW.fr [(1, .int .i64 n), (2, .pointer (some ⟨b_1, 0, none⟩)), (4, .slice none 0 0), (5, vout_1), (6, .int .i64 i_1)] ⟨e1, e2, e4, e5, e6, trivial⟩ ?_
 refine HW.seq ?_
 refine HW.seq ?_
 refine HW.region ?_
 refine oM (.int .i64 i_1) rfl rfl ?_
 refine oV (.pointer (some ⟨b_1, 1, none⟩)) (q_fieldAddr fa_24_1 rfl rfl) rfl ?_
 refine oV (vt_Links) (q_load to_22 rfl (Blk.cell (hS.box 0 rfl) rfl)) rfl ?_
 refine oV (.int .i64 (t_Links.length : Int)) (q_len ts_22 (shp hL_t_Links.is) rfl rfl) rfl ?_
 refine oV (.bool (decide (i_1 < (t_Links.length : Int)))) (q_lss rfl rfl) rfl ?_
 refine HO.nil (thenQ_normal (?_))
 refine HW.cond (decide (i_1 < (t_Links.length : Int))) rfl (fun c_1 => ?_) (fun c_1 => ?_)
 ·
  replace hM := hM.1 (of_decide_eq_true c_1)
  refine HW.skip (thenQ_normal (?_))
  refine HW.seq ?_
  refine HW.block ?_
  refine HW.seq ?_
  refine HW.region ?_
  refine oV (.pointer (some ⟨b_1, 1, none⟩)) (q_fieldAddr fa_24_1 rfl rfl) rfl ?_
  refine oV (vt_Links) (q_load to_22 rfl (Blk.cell (hS.box 0 rfl) rfl)) rfl ?_
  refine oM (.int .i64 i_1) rfl rfl ?_
  obtain ⟨ho_1, hM⟩ := hM
  refine oV (elemPtr 2 vt_Links (i_1).toNat) (q_idx ts_22 hL_t_Links.is rfl rfl ho_1) rfl ?_
  refine oV (fieldPtr 2 vt_Links (i_1).toNat 0) (q_fldElem fa_46_0 hL_t_Links.is rfl ho_1) rfl ?_
  refine oV (.int .i64 ((gi t_Links i_1).1)) (q_ldField to_3 hL_t_Links.is rfl ho_1 (by decide) rfl) rfl ?_
  refine oM (.int .i64 n) rfl rfl ?_
  refine oV (.bool (decide (((gi t_Links i_1).1) = n))) (q_eql rfl rfl) rfl ?_
  refine HO.nil (thenQ_normal (?_))
  refine HW.cond (decide (((gi t_Links i_1).1) = n)) rfl (fun c_2 => ?_) (fun c_2 => ?_)
  ·
   replace hM := hM.1 (of_decide_eq_true c_2)
   refine HW.region ?_
   refine oM (vout_1) rfl rfl ?_
   refine oV (.pointer (some ⟨b_1, 1, none⟩)) (q_fieldAddr fa_24_1 rfl rfl) rfl ?_
   refine oV (vt_Links) (q_load to_22 rfl (Blk.cell (hS.box 0 rfl) rfl)) rfl ?_
   refine oM (.int .i64 i_1) rfl rfl ?_
   refine oV (elemPtr 2 vt_Links (i_1).toNat) (q_idx ts_22 hL_t_Links.is rfl rfl ho_1) rfl ?_
   refine oV (fieldPtr 2 vt_Links (i_1).toNat 1) (q_fldElem fa_46_1 hL_t_Links.is rfl ho_1) rfl ?_
   refine oV (.int .i64 ((gi t_Links i_1).2)) (q_ldField to_3 hL_t_Links.is rfl ho_1 (by decide) rfl) rfl ?_
   refine HO.eff (want_none) rfl (st_lit (enc := encI) (cells := #[.int .i64 ((gi t_Links i_1).2)]) #[.int .i64 0] ([(gi t_Links i_1).2] : List Int) hS tl_36 (by decide) (by decide) (by kernel_rfl) (by kernel_rfl) rfl (by intro x hx; rfl) rfl) ?_
   rintro _ h_4 ⟨b_3, rfl, hS, hk⟩
   replace hK := hK.trans hk
   replace hL_t_Links := hL_t_Links.kp hk
   obtain ⟨ho_2, hM⟩ := hM
   refine HO.eff (want_none) rfl (st_append te_36 hS (i := 2) rfl (hS.own 0 rfl).slice rfl rfl rfl (by intro a _ u hu; simp [encI, encI, encN, encB, encT] at hu; subst hu; rfl) ho_2 (by omega)) ?_
   rintro v_1 h_5 ⟨hS, hk⟩
   replace hS : St F_1 (Ow.own 3 1 encI (.slice (some ⟨b_3, 0, none⟩) 1 1) ([(gi t_Links i_1).2] : List Int) :: Ow.box b_1 24 #[.int .i64 t_Root, vt_Links] :: Ow.own 3 1 encI v_1 (out_1 ++ ([(gi t_Links i_1).2] : List Int)) :: fr) h_5 := hS
   replace hK := hK.trans hk
   replace hL_t_Links := hL_t_Links.kp hk
   refine oA (v_1) rfl rfl ?_
   refine HO.nil (blockQ_normal (thenQ_normal (?_)))
   refine HW.region ?_
   refine oM (.int .i64 i_1) rfl rfl ?_
   obtain ⟨ho_3, hM⟩ := hM
   refine oV (.int .i64 (i_1 + 1)) (q_addN _ rfl rfl rfl ho_3.1 ho_3.2) rfl ?_
   refine oA (.int .i64 (i_1 + 1)) rfl rfl ?_
   refine HO.nil (thenQ_normal (?_))
   replace hS : St F_1 (Ow.box b_1 24 #[.int .i64 t_Root, vt_Links] :: Ow.own 3 1 encI v_1 (out_1 ++ ([(gi t_Links i_1).2] : List Int)) :: fr) h_5 := hS.perm2 [1, 2] 3 rfl rfl
   rw [hKe_1] at hM
   exact ⟨(out_1 ++ ([(gi t_Links i_1).2] : List Int), i_1 + 1), ⟨F_1, v_1, rfl, rfl, rfl, rfl, rfl, hK, hS, hL_t_Links, hM.1⟩, hM.2⟩
  ·
   replace hM := hM.2 (of_decide_eq_false c_2)
   refine HW.skip (blockQ_normal (thenQ_normal (?_)))
   refine HW.region ?_
   refine oM (.int .i64 i_1) rfl rfl ?_
   obtain ⟨ho_4, hM⟩ := hM
   refine oV (.int .i64 (i_1 + 1)) (q_addN _ rfl rfl rfl ho_4.1 ho_4.2) rfl ?_
   refine oA (.int .i64 (i_1 + 1)) rfl rfl ?_
   refine HO.nil (thenQ_normal (?_))
   rw [hKe_1] at hM
   exact ⟨(out_1, i_1 + 1), ⟨F_1, vout_1, rfl, rfl, rfl, rfl, rfl, hK, hS, hL_t_Links, hM.1⟩, hM.2⟩
 ·
  replace hM := hM.2 (of_decide_eq_false c_1)
  refine HW.exit (thenQ_exit (thenQ_exit (blockQ_exit (thenQ_normal (?_)))))
  refine HW.seq ?_
  refine HW.region ?_
  refine oM (vout_1) rfl rfl ?_
  refine oA (vout_1) rfl rfl ?_
  refine HO.nil (thenQ_normal (?_))
  refine HW.ret (?_)
  refine ⟨.inr rfl, vout_1, res1 rfl (rt rfl), ?_⟩
  replace hS : St F_1 (Ow.own 3 1 encI vout_1 out_1 :: fr) h_3 := hS.perm2 [1] 2 rfl rfl
  exact ⟨F_1, out_1, vout_1, rfl, hK, hS, hL_t_Links, hM⟩

def ref32_Nodes_W (t_Root : Int) (t_Links : List T_api_Branch) (Q : (List Int) → Prop) : Prop :=
 ref32_Below_W t_Root t_Links t_Root (fun r_2 => Q r_2)
set_option maxHeartbeats 40000000 in
set_option maxRecDepth 100000 in
theorem ref32_Nodes_walk {F : Fz} {fr : List Ow} {h0 : Heap} (t_Root : Int) (t_Links : List T_api_Branch) (vt_Links : Value) (hS : St F (fr) h0) (hL_t_Links : SliceF F h0 2 e_api_Branch vt_Links t_Links) {Q : (List Int) → Prop} (hM : ref32_Nodes_W t_Root t_Links Q) :
  HC Tryz.prog 17 #[.agg #[.int .i64 t_Root, vt_Links]] h0 fun u h' => ∃ (F' : Fz) (r_1 : List Int) (vr_1 : Value), u = vr_1 ∧ Kp F h0 F' h' ∧ St F' (Ow.own 3 1 encI vr_1 r_1 :: fr) h' ∧ (SliceF F' h' 2 e_api_Branch vt_Links t_Links) ∧ Q r_1 := by
 unfold ref32_Nodes_W at hM
 have hK := Kp.refl F h0
 refine HC.of_HW (n := 7) Tryz.func17 rfl rfl (Nat.le_of_ble_eq_true rfl) ?_
 refine HW.seq ?_
 refine HW.region ?_
 refine HO.eff (want_none) rfl (st_box (c := #[.int .i64 t_Root, vt_Links]) (k' := 2) hS rfl rfl) ?_
 rintro _ h_1 ⟨b_1, rfl, hS, hk⟩
 replace hK := hK.trans hk
 replace hL_t_Links := hL_t_Links.kp hk
 refine oA (.slice none 0 0) rfl rfl ?_
 refine HO.nil (thenQ_normal (?_))
 refine HW.seq ?_
 refine HW.region ?_
 refine oV (.agg #[.int .i64 t_Root, vt_Links]) (q_loadAgg (cs := [.int .i64 t_Root, vt_Links]) ta_24 rfl rfl (Blk.cells (k := 2) (hS.box 0 rfl) rfl)) rfl ?_
 refine oV (.pointer (some ⟨b_1, 0, none⟩)) (q_fieldAddr fa_24_0 rfl rfl) rfl ?_
 refine oV (.int .i64 t_Root) (q_load to_3 rfl (Blk.cell (hS.box 0 rfl) rfl)) rfl ?_
 refine HO.call (want_none) rfl (ec en_20 rfl rfl) (ref32_Below_walk (fr := (Ow.box b_1 24 #[.int .i64 t_Root, vt_Links] :: fr)) t_Root t_Links t_Root vt_Links hS hL_t_Links hM) ?_
 rintro vr_2 h_2 ⟨F_1, r_2, _, rfl, hk, hS, _, hM⟩
 replace hK := hK.trans hk
 replace hL_t_Links := hL_t_Links.kp hk
 refine oA (vr_2) rfl rfl ?_
 refine HO.nil (thenQ_normal (?_))
 refine HW.ret (?_)
 refine ⟨.inr rfl, vr_2, res1 rfl (rt rfl), ?_⟩
 replace hS : St F_1 (Ow.own 3 1 encI vr_2 r_2 :: fr) h_2 := hS.perm2 [0] 2 rfl rfl
 exact ⟨F_1, r_2, vr_2, rfl, hK, hS, hL_t_Links, hM⟩

def slices_Equal_s_api_Branch_api_Branch_l1 (s1 : List T_api_Branch) (s2 : List T_api_Branch) (Q : Bool → Prop) (K_1 : Int → Prop) (n_1 : Int) : Prop :=
 (n_1 < (s1.length : Int) → ((0 : Int) ≤ n_1 ∧ n_1 < (s1.length : Int)) ∧ (((0 : Int) ≤ n_1 ∧ n_1 < (s2.length : Int)) ∧ ((¬ (((gi s1 n_1) : T_api_Branch) = (gi s2 n_1)) → Q false) ∧ (((gi s1 n_1) : T_api_Branch) = (gi s2 n_1) → (I64 (n_1 + 1)) ∧ (K_1 (n_1 + 1)))))) ∧ (¬ (n_1 < (s1.length : Int)) → Q true)
def slices_Equal_s_api_Branch_api_Branch_W (s1 : List T_api_Branch) (s2 : List T_api_Branch) (Q : Bool → Prop) : Prop :=
 (¬ ((s1.length : Int) = (s2.length : Int)) → Q false) ∧ ((s1.length : Int) = (s2.length : Int) → loopW (fun (K_1 : Int → Prop) (s : Int) => slices_Equal_s_api_Branch_api_Branch_l1 s1 s2 Q K_1 s) 0)
set_option maxHeartbeats 40000000 in
set_option maxRecDepth 100000 in
theorem slices_Equal_s_api_Branch_api_Branch_walk {F : Fz} {fr : List Ow} {h0 : Heap} (s1 : List T_api_Branch) (s2 : List T_api_Branch) (vs1 : Value) (vs2 : Value) (hS : St F (fr) h0) (hL_s1 : SliceF F h0 2 e_api_Branch vs1 s1) (hL_s2 : SliceF F h0 2 e_api_Branch vs2 s2) {Q : Bool → Prop} (hM : slices_Equal_s_api_Branch_api_Branch_W s1 s2 Q) :
  HC Tryz.prog 59 #[vs1, vs2] h0 fun u h' => ∃ (F' : Fz) (r_1 : Bool), u = .bool r_1 ∧ Kp F h0 F' h' ∧ St F' (fr) h' ∧ (SliceF F' h' 2 e_api_Branch vs1 s1) ∧ (SliceF F' h' 2 e_api_Branch vs2 s2) ∧ Q r_1 := by
 unfold slices_Equal_s_api_Branch_api_Branch_W at hM
 have hK := Kp.refl F h0
 refine HC.of_HW (n := 26) Tryz.func59 rfl rfl (Nat.le_of_ble_eq_true rfl) ?_
 refine HW.seq ?_
 refine HW.region ?_
 refine oA (.bool false) rfl rfl ?_
 refine HO.nil (thenQ_normal (?_))
 refine HW.seq ?_
 refine HW.seq ?_
 refine HW.region ?_
 refine oM (vs1) rfl rfl ?_
 refine oV (.int .i64 (s1.length : Int)) (q_len ts_22 (shp hL_s1.is) rfl rfl) rfl ?_
 refine oM (vs2) rfl rfl ?_
 refine oV (.int .i64 (s2.length : Int)) (q_len ts_22 (shp hL_s2.is) rfl rfl) rfl ?_
 refine oV (.bool (!decide ((s1.length : Int) = (s2.length : Int)))) (q_neq rfl rfl) rfl ?_
 refine HO.nil (thenQ_normal (?_))
 refine HW.cond (!decide ((s1.length : Int) = (s2.length : Int))) rfl (fun c_1 => ?_) (fun c_1 => ?_)
 ·
  replace hM := hM.1 (nd_true c_1)
  refine HW.seq ?_
  refine HW.region ?_
  refine oA (.bool false) rfl rfl ?_
  refine HO.nil (thenQ_normal (?_))
  refine HW.ret (thenQ_ret (?_))
  refine ⟨.inr rfl, .bool false, res1 rfl (rt rfl), ?_⟩
  exact ⟨F, false, rfl, hK, hS, hL_s1, hL_s2, hM⟩
 ·
  replace hM := hM.2 (nd_false c_1)
  refine HW.skip (thenQ_normal (?_))
  refine HW.seq ?_
  refine HW.seq ?_
  refine HW.region ?_
  refine oM (vs1) rfl rfl ?_
  refine oV (.int .i64 (s1.length : Int)) (q_len ts_22 (shp hL_s1.is) rfl rfl) rfl ?_
  refine oM (.int .i64 0) rfl rfl ?_
  refine HO.nil (thenQ_normal (?_))
  refine HW.block ?_
  obtain ⟨I_1, m_1, hI_1, hR_1⟩ := hM
  refine HW.loop (S := Int) (fun n_1 f h => ∃ (F' : Fz), f 0 = vs1 ∧ f 1 = vs2 ∧ f 4 = .bool false ∧ f 12 = .int .i64 (s1.length : Int) ∧ f 13 = .int .i64 n_1 ∧ Kp F h0 F' h ∧ St F' (fr) h ∧ (SliceF F' h 2 e_api_Branch vs1 s1) ∧ (SliceF F' h 2 e_api_Branch vs2 s2) ∧ I_1 n_1) m_1 0 ⟨F, rfl, rfl, rfl, rfl, rfl, hK, hS, hL_s1, hL_s2, hI_1⟩ ?_
  rintro n_1 f_1 h_1 ⟨F_1, e0, e1, e4, e12, e13, hK, hS, hL_s1, hL_s2, hI0⟩
  obtain ⟨K_1, hKe_1⟩ : ∃ K : Int → Prop, K = fun n_1' => I_1 n_1' ∧ m_1 n_1' < m_1 n_1 := ⟨_, rfl⟩
  have hM : slices_Equal_s_api_Branch_api_Branch_l1 s1 s2 Q K_1 n_1 := by rw [hKe_1]; exact hR_1 n_1 hI0
  unfold slices_Equal_s_api_Branch_api_Branch_l1 at hM
  refine HW.fr [(0, vs1), (1, vs2), (4, .bool false), (12, .int .i64 (s1.length : Int)), (13, .int .i64 n_1)] ⟨e0, e1, e4, e12, e13, trivial⟩ ?_
  refine HW.seq ?_
  refine HW.region ?_
  refine oV (.bool (decide (n_1 < (s1.length : Int)))) (q_lss rfl rfl) rfl ?_
  refine HO.nil (thenQ_normal (?_))
  refine HW.seq ?_
  refine HW.cond (decide (n_1 < (s1.length : Int))) rfl (fun c_2 => ?_) (fun c_2 => ?_)
  ·
   replace hM := hM.1 (of_decide_eq_true c_2)
   refine HW.skip (thenQ_normal (?_))
   refine HW.seq ?_
   refine HW.block ?_
   refine HW.seq ?_
   refine HW.region ?_
   refine oM (.int .i64 n_1) rfl rfl ?_
   refine oA (.int .i64 n_1) rfl rfl ?_
   refine HO.nil (thenQ_normal (?_))
   refine HW.seq ?_
   refine HW.regionA 9 mixed (fun h => (SliceIs h 2 e_api_Branch vs1 s1) ∧ (SliceIs h 2 e_api_Branch vs2 s2)) [] (by kernel_rfl) ?_
   refine HA.val (k := 0) (v := vs1) rfl rfl (by kernel_rfl) (by kernel_rfl) (want_none) rfl (fun _ ⟨hL_s1, hL_s2⟩ => q_move rfl) ?_
   refine HA.val (k := 1) (v := .int .i64 n_1) rfl rfl (by kernel_rfl) (by kernel_rfl) (want_none) rfl (fun _ ⟨hL_s1, hL_s2⟩ => q_move rfl) ?_
   obtain ⟨ho_1, hM⟩ := hM
   refine HA.val (k := 2) (v := elemPtr 2 vs1 (n_1).toNat) rfl rfl (by kernel_rfl) (by kernel_rfl) (want_none) rfl (fun _ ⟨hL_s1, hL_s2⟩ => q_idx ts_22 hL_s1 rfl rfl ho_1) ?_
   refine HA.val (k := 3) (v := .agg #[.int .i64 ((gi s1 n_1).1), .int .i64 ((gi s1 n_1).2)]) rfl rfl (by kernel_rfl) (by kernel_rfl) (want_none) rfl (fun _ ⟨hL_s1, hL_s2⟩ => q_ldElemAgg (cs := [.int .i64 ((gi s1 n_1).1), .int .i64 ((gi s1 n_1).2)]) ta_46 hL_s1 rfl ho_1 rfl) ?_
   refine HA.val (k := 4) (v := vs2) rfl rfl (by kernel_rfl) (by kernel_rfl) (want_none) rfl (fun _ ⟨hL_s1, hL_s2⟩ => q_move rfl) ?_
   refine HA.val (k := 5) (v := .int .i64 n_1) rfl rfl (by kernel_rfl) (by kernel_rfl) (want_none) rfl (fun _ ⟨hL_s1, hL_s2⟩ => q_move rfl) ?_
   obtain ⟨ho_2, hM⟩ := hM
   refine HA.val (k := 6) (v := elemPtr 2 vs2 (n_1).toNat) rfl rfl (by kernel_rfl) (by kernel_rfl) (want_none) rfl (fun _ ⟨hL_s1, hL_s2⟩ => q_idx ts_22 hL_s2 rfl rfl ho_2) ?_
   refine HA.val (k := 7) (v := .agg #[.int .i64 ((gi s2 n_1).1), .int .i64 ((gi s2 n_1).2)]) rfl rfl (by kernel_rfl) (by kernel_rfl) (want_none) rfl (fun _ ⟨hL_s1, hL_s2⟩ => q_ldElemAgg (cs := [.int .i64 ((gi s2 n_1).1), .int .i64 ((gi s2 n_1).2)]) ta_46 hL_s2 rfl ho_2 rfl) ?_
   refine HA.val (k := 8) (v := .bool (!decide (((gi s1 n_1) : T_api_Branch) = (gi s2 n_1)))) rfl rfl (by kernel_rfl) (by kernel_rfl) (want_none) rfl (fun _ ⟨hL_s1, hL_s2⟩ => q_neqAgg (a := (gi s1 n_1)) (b := (gi s2 n_1)) (fun a b w => teq_46 9998 a b w) (by kernel_rfl) rfl rfl rfl rfl) ?_
   refine HA.nil ⟨⟨hL_s1.is, hL_s2.is⟩, (Go.Wk.at_nil _ _)⟩ (by kernel_rfl) (thenQ_normal (?_))
   refine HW.cond (!decide (((gi s1 n_1) : T_api_Branch) = (gi s2 n_1))) rfl (fun c_3 => ?_) (fun c_3 => ?_)
   ·
    replace hM := hM.1 (nd_true c_3)
    refine HW.seq ?_
    refine HW.region ?_
    refine oA (.bool false) rfl rfl ?_
    refine HO.nil (thenQ_normal (?_))
    refine HW.ret (blockQ_ret (thenQ_ret (thenQ_ret (blockQ_ret (thenQ_ret (?_))))))
    refine ⟨.inr rfl, .bool false, res1 rfl (rt rfl), ?_⟩
    exact ⟨F_1, false, rfl, hK, hS, hL_s1, hL_s2, hM⟩
   ·
    replace hM := hM.2 (nd_false c_3)
    refine HW.skip (blockQ_normal (thenQ_normal (?_)))
    refine HW.region ?_
    obtain ⟨ho_3, hM⟩ := hM
    refine oV (.int .i64 (n_1 + 1)) (q_addN _ rfl rfl rfl ho_3.1 ho_3.2) rfl ?_
    refine oM (.int .i64 (n_1 + 1)) rfl rfl ?_
    refine HO.nil (thenQ_normal (?_))
    rw [hKe_1] at hM
    exact ⟨n_1 + 1, ⟨F_1, rfl, rfl, rfl, rfl, rfl, hK, hS, hL_s1, hL_s2, hM.1⟩, hM.2⟩
  ·
   replace hM := hM.2 (of_decide_eq_false c_2)
   refine HW.exit (thenQ_exit (thenQ_exit (blockQ_exit (thenQ_normal (?_)))))
   refine HW.seq ?_
   refine HW.region ?_
   refine oA (.bool true) rfl rfl ?_
   refine HO.nil (thenQ_normal (?_))
   refine HW.ret (?_)
   refine ⟨.inr rfl, .bool true, res1 rfl (rt rfl), ?_⟩
   exact ⟨F_1, true, rfl, hK, hS, hL_s1, hL_s2, hM⟩

def tree_Same_W (a_Root : Int) (a_Links : List T_api_Branch) (b_Root : Int) (b_Links : List T_api_Branch) (Q : Bool → Prop) : Prop :=
 (a_Root = b_Root → slices_Equal_s_api_Branch_api_Branch_W a_Links b_Links (fun r_2 => Q r_2)) ∧ (¬ (a_Root = b_Root) → Q false)
set_option maxHeartbeats 40000000 in
set_option maxRecDepth 100000 in
theorem tree_Same_walk {F : Fz} {fr : List Ow} {h0 : Heap} (a_Root : Int) (a_Links : List T_api_Branch) (b_Root : Int) (b_Links : List T_api_Branch) (va_Links : Value) (vb_Links : Value) (hS : St F (fr) h0) (hL_a_Links : SliceF F h0 2 e_api_Branch va_Links a_Links) (hL_b_Links : SliceF F h0 2 e_api_Branch vb_Links b_Links) {Q : Bool → Prop} (hM : tree_Same_W a_Root a_Links b_Root b_Links Q) :
  HC Tryz.prog 37 #[.agg #[.int .i64 a_Root, va_Links], .agg #[.int .i64 b_Root, vb_Links]] h0 fun u h' => ∃ (F' : Fz) (r_1 : Bool), u = .bool r_1 ∧ Kp F h0 F' h' ∧ St F' (fr) h' ∧ (SliceF F' h' 2 e_api_Branch va_Links a_Links) ∧ (SliceF F' h' 2 e_api_Branch vb_Links b_Links) ∧ Q r_1 := by
 unfold tree_Same_W at hM
 have hK := Kp.refl F h0
 refine HC.of_HW (n := 17) Tryz.func37 rfl rfl (Nat.le_of_ble_eq_true rfl) ?_
 refine HW.seq ?_
 refine HW.region ?_
 refine HO.eff (want_none) rfl (st_box (c := #[.int .i64 a_Root, va_Links]) (k' := 2) hS rfl rfl) ?_
 rintro _ h_1 ⟨b_1, rfl, hS, hk⟩
 replace hK := hK.trans hk
 replace hL_a_Links := hL_a_Links.kp hk
 replace hL_b_Links := hL_b_Links.kp hk
 refine HO.eff (want_none) rfl (st_box (c := #[.int .i64 b_Root, vb_Links]) (k' := 2) hS rfl rfl) ?_
 rintro _ h_2 ⟨b_2, rfl, hS, hk⟩
 replace hK := hK.trans hk
 replace hL_a_Links := hL_a_Links.kp hk
 replace hL_b_Links := hL_b_Links.kp hk
 refine oA (.bool false) rfl rfl ?_
 refine HO.nil (thenQ_normal (?_))
 refine HW.seq ?_
 refine HW.region ?_
 refine oV (.pointer (some ⟨b_1, 0, none⟩)) (q_fieldAddr fa_24_0 rfl rfl) rfl ?_
 refine oV (.int .i64 a_Root) (q_load to_3 rfl (Blk.cell (hS.box 1 rfl) rfl)) rfl ?_
 refine oV (.pointer (some ⟨b_2, 0, none⟩)) (q_fieldAddr fa_24_0 rfl rfl) rfl ?_
 refine oV (.int .i64 b_Root) (q_load to_3 rfl (Blk.cell (hS.box 0 rfl) rfl)) rfl ?_
 refine oV (.bool (decide (a_Root = b_Root))) (q_eql rfl rfl) rfl ?_
 refine oM (.bool (decide (a_Root = b_Root))) rfl rfl ?_
 rcases Bool.eq_false_or_eq_true (decide (a_Root = b_Root)) with c_1 | c_1
 ·
  replace hM := hM.1 (of_decide_eq_true c_1)
  refine HO.val (v := .pointer (some ⟨b_1, 1, none⟩)) (want_by rfl rfl c_1) rfl (q_fieldAddr fa_24_1 rfl rfl) ?_
  refine HO.val (v := va_Links) (want_by rfl rfl c_1) rfl (q_load to_22 rfl (Blk.cell (hS.box 1 rfl) rfl)) ?_
  refine HO.val (v := .pointer (some ⟨b_2, 1, none⟩)) (want_by rfl rfl c_1) rfl (q_fieldAddr fa_24_1 rfl rfl) ?_
  refine HO.val (v := vb_Links) (want_by rfl rfl c_1) rfl (q_load to_22 rfl (Blk.cell (hS.box 0 rfl) rfl)) ?_
  refine HO.call (want_by rfl rfl c_1) rfl (ec en_59 rfl rfl) (slices_Equal_s_api_Branch_api_Branch_walk (fr := (Ow.box b_2 24 #[.int .i64 b_Root, vb_Links] :: Ow.box b_1 24 #[.int .i64 a_Root, va_Links] :: fr)) a_Links b_Links va_Links vb_Links hS hL_a_Links hL_b_Links hM) ?_
  rintro _ h_3 ⟨F_1, r_2, rfl, hk, hS, _, _, hM⟩
  replace hK := hK.trans hk
  replace hL_a_Links := hL_a_Links.kp hk
  replace hL_b_Links := hL_b_Links.kp hk
  refine oV (.bool r_2) (q_pickK true rfl c_1 rfl) rfl ?_
  refine oA (.bool r_2) rfl rfl ?_
  refine HO.nil (thenQ_normal (?_))
  refine HW.ret (?_)
  refine ⟨.inr rfl, .bool r_2, res1 rfl (rt rfl), ?_⟩
  replace hS : St F_1 (fr) h_3 := hS.perm2 [] 2 rfl rfl
  exact ⟨F_1, r_2, rfl, hK, hS, hL_a_Links, hL_b_Links, hM⟩
 ·
  replace hM := hM.2 (of_decide_eq_false c_1)
  refine HO.past (past_by rfl rfl c_1) rfl ?_
  refine HO.past (past_by rfl rfl c_1) rfl ?_
  refine HO.past (past_by rfl rfl c_1) rfl ?_
  refine HO.past (past_by rfl rfl c_1) rfl ?_
  refine HO.past (past_by rfl rfl c_1) rfl ?_
  refine oV (.bool false) (q_pickK false rfl c_1 rfl) rfl ?_
  refine oA (.bool false) rfl rfl ?_
  refine HO.nil (thenQ_normal (?_))
  refine HW.ret (?_)
  refine ⟨.inr rfl, .bool false, res1 rfl (rt rfl), ?_⟩
  replace hS : St F (fr) h_2 := hS.perm2 [] 2 rfl rfl
  exact ⟨F, false, rfl, hK, hS, hL_a_Links, hL_b_Links, hM⟩

def slices_Collect_api_Branch_W (seq : List T_api_Branch) (Q : (List T_api_Branch) → Prop) : Prop :=
 ((seq).length * 16 ≤ 140737488355328) ∧ (Q seq)
set_option maxHeartbeats 40000000 in
set_option maxRecDepth 100000 in
theorem slices_Collect_api_Branch_walk {F : Fz} {fr : List Ow} {h0 : Heap} (seq : List T_api_Branch) (bseq : Nat) (vseq : Value) (hS : St F (fr) h0) (hL_seq : SliceF F h0 2 e_api_Branch vseq seq) (hB_bseq : RoF (Ow.box bseq 22 #[vseq]) F h0) {Q : (List T_api_Branch) → Prop} (hM : slices_Collect_api_Branch_W seq Q) :
  HC Tryz.prog 78 #[.func (.func 80) #[] #[.pointer (some ⟨bseq, 0, none⟩)]] h0 fun u h' => ∃ (F' : Fz) (r_1 : List T_api_Branch) (vr_1 : Value), u = vr_1 ∧ Kp F h0 F' h' ∧ St F' (Ow.own 46 2 e_api_Branch vr_1 r_1 :: fr) h' ∧ (SliceF F' h' 2 e_api_Branch vseq seq) ∧ (RoF (Ow.box bseq 22 #[vseq]) F' h') ∧ Q r_1 := by
 unfold slices_Collect_api_Branch_W at hM
 have hK := Kp.refl F h0
 refine HC.of_HW (n := 5) Tryz.func78 rfl rfl (Nat.le_of_ble_eq_true rfl) ?_
 refine HW.seq ?_
 refine HW.region ?_
 refine oA (.slice none 0 0) rfl rfl ?_
 refine HO.nil (thenQ_normal (?_))
 refine HW.seq ?_
 refine HW.region ?_
 refine oM (.func (.func 80) #[] #[.pointer (some ⟨bseq, 0, none⟩)]) rfl rfl ?_
 obtain ⟨ho_1, hM⟩ := hM
 refine HO.call (want_none) rfl (ec en_97 rfl rfl) (apv_97 hS hB_bseq.box hL_seq.is ho_1) ?_
 rintro v_1 h_1 ⟨hS, hk⟩
 replace hS : St F (Ow.own 46 2 e_api_Branch v_1 seq :: fr) h_1 := hS
 replace hK := hK.trans hk
 replace hL_seq := hL_seq.kp hk
 replace hB_bseq := hB_bseq.kp hk
 refine oA (v_1) rfl rfl ?_
 refine HO.nil (thenQ_normal (?_))
 refine HW.ret (?_)
 refine ⟨.inr rfl, v_1, res1 rfl (rt rfl), ?_⟩
 exact ⟨F, seq, v_1, rfl, hK, hS, hL_seq, hB_bseq, hM⟩

def slices_SortedFunc_api_Branch_W (seq : List T_api_Branch) (cf_cmp : T_api_Branch → T_api_Branch → Int) (Q : (List T_api_Branch) → Prop) : Prop :=
 slices_Collect_api_Branch_W seq (fun r_2 => Swo cf_cmp ∧ (r_2).length < 4611686018427387904 ∧ ∀ l_1 : List T_api_Branch, List.Perm l_1 r_2 → List.Pairwise (fun x y => ¬ cf_cmp y x < 0) l_1 → (Q l_1))
set_option maxHeartbeats 40000000 in
set_option maxRecDepth 100000 in
theorem slices_SortedFunc_api_Branch_walk {F : Fz} {fr : List Ow} {h0 : Heap} (seq : List T_api_Branch) (cf_cmp : T_api_Branch → T_api_Branch → Int) (bseq : Nat) (vseq : Value) (g_cmp : Nat) (cs_cmp : Array Value) (hS : St F (fr) h0) (hL_seq : SliceF F h0 2 e_api_Branch vseq seq) (hB_bseq : RoF (Ow.box bseq 22 #[vseq]) F h0) (hF_cf_cmp : FnP Tryz.prog F h0 g_cmp #[] cs_cmp (fun x : T_api_Branch × T_api_Branch => [.agg #[.int .i64 x.1.1, .int .i64 x.1.2], .agg #[.int .i64 x.2.1, .int .i64 x.2.2]]) (fun x => .int .i64 (cf_cmp x.1 x.2))) {Q : (List T_api_Branch) → Prop} (hM : slices_SortedFunc_api_Branch_W seq cf_cmp Q) :
  HC Tryz.prog 60 #[.func (.func 80) #[] #[.pointer (some ⟨bseq, 0, none⟩)], .func (.func g_cmp) #[] cs_cmp] h0 fun u h' => ∃ (F' : Fz) (r_1 : List T_api_Branch) (vr_1 : Value), u = vr_1 ∧ Kp F h0 F' h' ∧ St F' (Ow.own 46 2 e_api_Branch vr_1 r_1 :: fr) h' ∧ (SliceF F' h' 2 e_api_Branch vseq seq) ∧ (RoF (Ow.box bseq 22 #[vseq]) F' h') ∧ (FnP Tryz.prog F' h' g_cmp #[] cs_cmp (fun x : T_api_Branch × T_api_Branch => [.agg #[.int .i64 x.1.1, .int .i64 x.1.2], .agg #[.int .i64 x.2.1, .int .i64 x.2.2]]) (fun x => .int .i64 (cf_cmp x.1 x.2))) ∧ Q r_1 := by
 unfold slices_SortedFunc_api_Branch_W at hM
 have hK := Kp.refl F h0
 refine HC.of_HW (n := 12) Tryz.func60 rfl rfl (Nat.le_of_ble_eq_true rfl) ?_
 refine HW.seq ?_
 refine HW.region ?_
 refine oA (.slice none 0 0) rfl rfl ?_
 refine HO.nil (thenQ_normal (?_))
 refine HW.seq ?_
 refine HW.region ?_
 refine oM (.func (.func 80) #[] #[.pointer (some ⟨bseq, 0, none⟩)]) rfl rfl ?_
 refine HO.call (want_none) rfl (ec en_78 rfl rfl) (slices_Collect_api_Branch_walk (fr := (fr)) seq bseq vseq hS hL_seq hB_bseq hM) ?_
 rintro vr_2 h_1 ⟨F_1, r_2, _, rfl, hk, hS, _, _, hM⟩
 replace hK := hK.trans hk
 replace hL_seq := hL_seq.kp hk
 replace hB_bseq := hB_bseq.kp hk
 replace hF_cf_cmp := hF_cf_cmp.kp hk
 refine oA (vr_2) rfl rfl ?_
 refine HO.nil (thenQ_normal (?_))
 refine HW.seq ?_
 refine HW.region ?_
 refine oM (vr_2) rfl rfl ?_
 refine oM (.func (.func g_cmp) #[] cs_cmp) rfl rfl ?_
 obtain ⟨ho_1, ho_2, hM⟩ := hM
 refine HO.call (want_none) rfl (ec en_79 rfl rfl) (sortFunc_own Tryz.sortBr (by decide) (fun w => by kernel_rfl) (fun w => by kernel_rfl) (enc := e_api_Branch) (fun _ => rfl) (by intro a u hu; simp [e_api_Branch, encI, encN, encB, encT] at hu; rcases hu with rfl | rfl <;> rfl) ho_1 hS hF_cf_cmp ho_2) ?_
 rintro _ h_2 ⟨l_1, rfl, hk, hS, hp_1, hs_1⟩
 replace hM := hM l_1 hp_1 hs_1
 replace hS : St F_1 (Ow.own 46 2 e_api_Branch vr_2 l_1 :: fr) h_2 := hS
 replace hK := hK.trans hk
 replace hL_seq := hL_seq.kp hk
 replace hB_bseq := hB_bseq.kp hk
 replace hF_cf_cmp := hF_cf_cmp.kp hk
 refine HO.nil (thenQ_normal (?_))
 refine HW.seq ?_
 refine HW.region ?_
 refine oM (vr_2) rfl rfl ?_
 refine oA (vr_2) rfl rfl ?_
 refine HO.nil (thenQ_normal (?_))
 refine HW.ret (?_)
 refine ⟨.inr rfl, vr_2, res1 rfl (rt rfl), ?_⟩
 exact ⟨F_1, l_1, vr_2, rfl, hK, hS, hL_seq, hB_bseq, hF_cf_cmp, hM⟩

def tree_Of_W (root : Int) (l : List T_api_Branch) (Q : Int → (List T_api_Branch) → Int → Prop) : Prop :=
 (256 ≤ (l.length : Int) → Q 0 [] 6) ∧ (¬ (256 ≤ (l.length : Int)) → ∃ cf_1 : T_api_Branch → T_api_Branch → Int, (∀ x0 x1, tree_order_W x0 x1 (fun r => r = cf_1 x0 x1)) ∧ (slices_SortedFunc_api_Branch_W l cf_1 (fun r_1 => tree_good_W root r_1 (fun r_2 => ((!r_2) = true → Q 0 [] 2) ∧ ((!r_2) = false → Q root r_1 0)))))
set_option maxHeartbeats 40000000 in
set_option maxRecDepth 100000 in
theorem tree_Of_walk {F : Fz} {fr : List Ow} {h0 : Heap} (root : Int) (l : List T_api_Branch) (vl : Value) (hS : St F (fr) h0) (hL_l : SliceF F h0 2 e_api_Branch vl l) {Q : Int → (List T_api_Branch) → Int → Prop} (hM : tree_Of_W root l Q) :
  HC Tryz.prog 38 #[.int .i64 root, vl] h0 fun u h' => ∃ (F' : Fz) (r0_0_1 : Int) (r0_1_1 : List T_api_Branch) (r1_1 : Int) (vr0_1_1 : Value), u = .tuple #[.agg #[.int .i64 r0_0_1, vr0_1_1], .int .i64 r1_1] ∧ Kp F h0 F' h' ∧ St F' (Ow.own 46 2 e_api_Branch vr0_1_1 r0_1_1 :: fr) h' ∧ (SliceF F' h' 2 e_api_Branch vl l) ∧ Q r0_0_1 r0_1_1 r1_1 := by
 unfold tree_Of_W at hM
 have hK := Kp.refl F h0
 refine HC.of_HW (n := 21) Tryz.func38 rfl rfl (Nat.le_of_ble_eq_true rfl) ?_
 refine HW.seq ?_
 refine HW.region ?_
 refine HO.eff (want_none) rfl (st_alloc (c := #[.int .i64 0, .slice none 0 0]) hS tz_24 rfl) ?_
 rintro _ h_1 ⟨b_1, rfl, hS, hk⟩
 replace hK := hK.trans hk
 replace hL_l := hL_l.kp hk
 refine oA (.int .i64 0) rfl rfl ?_
 refine HO.nil (thenQ_normal (?_))
 refine HW.seq ?_
 refine HW.seq ?_
 refine HW.region ?_
 refine oM (vl) rfl rfl ?_
 refine oV (.int .i64 (l.length : Int)) (q_len ts_22 (shp hL_l.is) rfl rfl) rfl ?_
 refine oV (.bool (decide (256 ≤ (l.length : Int)))) (q_geq rfl rfl) rfl ?_
 refine HO.nil (thenQ_normal (?_))
 refine HW.cond (decide (256 ≤ (l.length : Int))) rfl (fun c_1 => ?_) (fun c_1 => ?_)
 ·
  replace hM := hM.1 (of_decide_eq_true c_1)
  refine HW.seq ?_
  refine HW.region ?_
  refine oV (.agg #[.int .i64 0, .slice none 0 0]) (q_build tp_24 rfl) rfl ?_
  refine HO.sto (want_none) rfl (st_storeAgg (c' := #[.int .i64 0, .slice none 0 0]) hS (i := 0) rfl ta_24 rfl rfl rfl (by simp [Value.oneCell']) (Nat.le_of_ble_eq_true rfl) rfl) ?_
  rintro h_2 ⟨hS, hk⟩
  replace hS : St F (Ow.box b_1 24 #[.int .i64 0, .slice none 0 0] :: fr) h_2 := hS
  replace hK := hK.trans hk
  replace hL_l := hL_l.kp hk
  refine oA (.int .i64 6) rfl rfl ?_
  refine HO.nil (thenQ_normal (?_))
  refine HW.ret (thenQ_ret (?_))
  refine ⟨.inr rfl, .tuple #[.agg #[.int .i64 0, .slice none 0 0], .int .i64 6], res2 rfl (rca (cs := [.int .i64 0, .slice none 0 0]) ta_24 rfl rfl (Blk.cells (k := 2) (hS.box 0 rfl) rfl)) (rt rfl), ?_⟩
  replace hS := hS.nilOwn 46 2 e_api_Branch
  replace hS : St F (Ow.own 46 2 e_api_Branch (.slice none 0 0) ([] : List T_api_Branch) :: fr) h_2 := hS.perm2 [0] 2 rfl rfl
  exact ⟨F, 0, [], 6, .slice none 0 0, rfl, hK, hS, hL_l, hM⟩
 ·
  replace hM := hM.2 (of_decide_eq_false c_1)
  refine HW.skip (thenQ_normal (?_))
  refine HW.seq ?_
  refine HW.region ?_
  refine oM (.int .i64 root) rfl rfl ?_
  refine oM (vl) rfl rfl ?_
  refine HO.call (want_none) rfl (ec en_61 rfl rfl) (values_hc Tryz.func61 rfl rfl rfl (shp hL_l.is).cells hS) ?_
  rintro _ h_3 ⟨b_2, rfl, hS, hk⟩
  replace hS : St F (Ow.box b_2 22 #[vl] :: Ow.box b_1 24 #[.int .i64 0, .slice none 0 0] :: fr) h_3 := hS
  replace hK := hK.trans hk
  replace hL_l := hL_l.kp hk
  obtain ⟨cf_1, hc_1, hM⟩ := hM
  have hF_1 : FnP Tryz.prog F h_3 62 #[] #[] (fun x : T_api_Branch × T_api_Branch => [.agg #[.int .i64 x.1.1, .int .i64 x.1.2], .agg #[.int .i64 x.2.1, .int .i64 x.2.2]]) (fun x => .int .i64 (cf_1 x.1 x.2)) := FnP.of en_62 (fun x h' hk_ => @HC.mono ⟨true⟩ _ _ _ _ _ _ (@tree_order_walk ⟨true⟩ (allF h') [] h' x.1 x.2  (St.init h')  (fun r => r = cf_1 x.1 x.2) (hc_1 x.1 x.2)) (fun u h'' ⟨F', r, hu, k_, _, hr⟩ => ⟨by rw [hu, hr], F', k_⟩))
  have hZ_1 := hS
  have hkz_1 := (hS.freeze).2
  replace hS := hS.freeze.1
  have hL_1 := hZ_1.lent
  refine HO.call (want_none) rfl (ec en_60 rfl rfl) (slices_SortedFunc_api_Branch_walk (fr := (Ow.box b_1 24 #[.int .i64 0, .slice none 0 0] :: fr)) l cf_1 b_2 vl 62 (#[]) hS (hL_l.kp hkz_1) hL_1 (hF_1.kp hkz_1) hM) ?_
  rintro vr_1 h_4 ⟨F_1, r_1, _, rfl, hk, hS, _, _, _, hM⟩
  obtain ⟨hS, hk⟩ := hZ_1.back hk hS
  generalize (fun bz_ => F_1 bz_ ∧ ¬ (Ow.box b_2 22 #[vl]).foot bz_) = F_2 at hS hk
  replace hK := hK.trans hk
  replace hL_l := hL_l.kp hk
  refine oV (.agg #[.int .i64 root, vr_1]) (q_build tp_24 (fill_cons (cs' := #[.int .i64 root, .slice none 0 0]) (vc := #[.int .i64 root]) rfl rfl rfl (Nat.le_of_ble_eq_true rfl) rfl (fill_cons (cs' := #[.int .i64 root, vr_1]) (vc := #[vr_1]) rfl (shp (hS.own 1 rfl).slice).cells rfl (Nat.le_of_ble_eq_true rfl) rfl rfl))) rfl ?_
  refine HO.eff (want_none) rfl (st_alloc (c := #[.int .i64 0, .slice none 0 0]) hS tz_24 rfl) ?_
  rintro _ h_5 ⟨b_3, rfl, hS, hk⟩
  replace hK := hK.trans hk
  replace hL_l := hL_l.kp hk
  refine HO.sto (want_none) rfl (st_storeAgg (c' := #[.int .i64 root, vr_1]) hS (i := 0) rfl ta_24 rfl rfl rfl (List.forall_mem_cons.2 ⟨rfl, (List.forall_mem_cons.2 ⟨(shp (hS.own 2 rfl).slice).one, (fun _ h => by cases h)⟩)⟩) (Nat.le_of_ble_eq_true rfl) rfl) ?_
  rintro h_6 ⟨hS, hk⟩
  replace hS : St F_2 (Ow.box b_3 24 #[.int .i64 root, vr_1] :: Ow.box b_2 22 #[vl] :: Ow.own 46 2 e_api_Branch vr_1 r_1 :: Ow.box b_1 24 #[.int .i64 0, .slice none 0 0] :: fr) h_6 := hS
  replace hK := hK.trans hk
  replace hL_l := hL_l.kp hk
  refine HO.nil (thenQ_normal (?_))
  refine HW.seq ?_
  refine HW.seq ?_
  refine HW.region ?_
  refine oV (.agg #[.int .i64 root, vr_1]) (q_loadAgg (cs := [.int .i64 root, vr_1]) ta_24 rfl rfl (Blk.cells (k := 2) (hS.box 0 rfl) rfl)) rfl ?_
  replace hS : St F_2 (Ow.own 46 2 e_api_Branch vr_1 r_1 :: Ow.box b_3 24 #[.int .i64 root, vr_1] :: Ow.box b_2 22 #[vl] :: Ow.box b_1 24 #[.int .i64 0, .slice none 0 0] :: fr) h_6 := hS.perm2 [2, 0, 1, 3] 4 rfl rfl
  have hZ_2 := hS
  have hkz_2 := (hS.freeze).2
  replace hS := hS.freeze.1
  have hL_2 : SliceF (fun bz_ => F_2 bz_ ∨ (Ow.own 46 2 e_api_Branch vr_1 r_1).foot bz_) h_6 2 e_api_Branch vr_1 r_1 := ⟨(hZ_2.own 0 rfl).slice, fun _ b hb => .inr hb⟩
  refine HO.call (want_none) rfl (ec en_45 rfl rfl) (tree_good_walk (fr := (Ow.box b_3 24 #[.int .i64 root, vr_1] :: Ow.box b_2 22 #[vl] :: Ow.box b_1 24 #[.int .i64 0, .slice none 0 0] :: fr)) root r_1 vr_1 hS hL_2 hM) ?_
  rintro _ h_7 ⟨F_3, r_2, rfl, hk, hS, _, hM⟩
  obtain ⟨hS, hk⟩ := hZ_2.back hk hS
  generalize (fun bz_ => F_3 bz_ ∧ ¬ (Ow.own 46 2 e_api_Branch vr_1 r_1).foot bz_) = F_4 at hS hk
  replace hK := hK.trans hk
  replace hL_l := hL_l.kp hk
  refine oV (.bool (!r_2)) (q_not rfl) rfl ?_
  refine HO.nil (thenQ_normal (?_))
  refine HW.cond (!r_2) rfl (fun c_2 => ?_) (fun c_2 => ?_)
  ·
   replace hM := hM.1 c_2
   refine HW.seq ?_
   refine HW.region ?_
   refine oV (.agg #[.int .i64 0, .slice none 0 0]) (q_build tp_24 rfl) rfl ?_
   refine HO.sto (want_none) rfl (st_storeAgg (c' := #[.int .i64 0, .slice none 0 0]) hS (i := 3) rfl ta_24 rfl rfl rfl (by simp [Value.oneCell']) (Nat.le_of_ble_eq_true rfl) rfl) ?_
   rintro h_8 ⟨hS, hk⟩
   replace hS : St F_4 (Ow.own 46 2 e_api_Branch vr_1 r_1 :: Ow.box b_3 24 #[.int .i64 root, vr_1] :: Ow.box b_2 22 #[vl] :: Ow.box b_1 24 #[.int .i64 0, .slice none 0 0] :: fr) h_8 := hS
   replace hK := hK.trans hk
   replace hL_l := hL_l.kp hk
   refine oA (.int .i64 2) rfl rfl ?_
   refine HO.nil (thenQ_normal (?_))
   refine HW.ret (thenQ_ret (?_))
   refine ⟨.inr rfl, .tuple #[.agg #[.int .i64 0, .slice none 0 0], .int .i64 2], res2 rfl (rca (cs := [.int .i64 0, .slice none 0 0]) ta_24 rfl rfl (Blk.cells (k := 2) (hS.box 3 rfl) rfl)) (rt rfl), ?_⟩
   replace hS := hS.nilOwn 46 2 e_api_Branch
   replace hS : St F_4 (Ow.own 46 2 e_api_Branch (.slice none 0 0) ([] : List T_api_Branch) :: fr) h_8 := hS.perm2 [0] 5 rfl rfl
   exact ⟨F_4, 0, [], 2, .slice none 0 0, rfl, hK, hS, hL_l, hM⟩
  ·
   replace hM := hM.2 c_2
   refine HW.skip (thenQ_normal (?_))
   refine HW.seq ?_
   refine HW.region ?_
   refine oV (.agg #[.int .i64 root, vr_1]) (q_loadAgg (cs := [.int .i64 root, vr_1]) ta_24 rfl rfl (Blk.cells (k := 2) (hS.box 1 rfl) rfl)) rfl ?_
   refine HO.sto (want_none) rfl (st_storeAgg (c' := #[.int .i64 root, vr_1]) hS (i := 3) rfl ta_24 rfl rfl rfl (List.forall_mem_cons.2 ⟨rfl, (List.forall_mem_cons.2 ⟨(shp (hS.own 0 rfl).slice).one, (fun _ h => by cases h)⟩)⟩) (Nat.le_of_ble_eq_true rfl) rfl) ?_
   rintro h_9 ⟨hS, hk⟩
   replace hS : St F_4 (Ow.own 46 2 e_api_Branch vr_1 r_1 :: Ow.box b_3 24 #[.int .i64 root, vr_1] :: Ow.box b_2 22 #[vl] :: Ow.box b_1 24 #[.int .i64 root, vr_1] :: fr) h_9 := hS
   replace hK := hK.trans hk
   replace hL_l := hL_l.kp hk
   refine oA (.int .i64 0) rfl rfl ?_
   refine HO.nil (thenQ_normal (?_))
   refine HW.ret (?_)
   refine ⟨.inr rfl, .tuple #[.agg #[.int .i64 root, vr_1], .int .i64 0], res2 rfl (rca (cs := [.int .i64 root, vr_1]) ta_24 rfl rfl (Blk.cells (k := 2) (hS.box 3 rfl) rfl)) (rt rfl), ?_⟩
   replace hS : St F_4 (Ow.own 46 2 e_api_Branch vr_1 r_1 :: fr) h_9 := hS.perm2 [0] 4 rfl rfl
   exact ⟨F_4, root, r_1, 0, vr_1, rfl, hK, hS, hL_l, hM⟩
end Go.Wk
